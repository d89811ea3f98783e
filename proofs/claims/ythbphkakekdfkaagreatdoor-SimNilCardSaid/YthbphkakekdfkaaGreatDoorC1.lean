/- An awake whose long calls are known by pieces. -/
import Derived.Test.YthbphkakekdfkaaGreatDoorB3
import Derived.Test.YthbphkakekdfkaaGreatDoorEv33
namespace Go.Ev
open Go Go.RowKit
theorem law_awake_pieces {P : Program} (hm : P.follows .mixedOrders = true) (hn : (P.funcs.toList.all fun fn => !(fn.name == "runtime.NumGoroutine")) = true) {m : Nat} {l : List (FuncId × List Piece)}
    (hl : ∀ p ∈ l, ∀ q ∈ p.2, runPiece (envOf P) m p.1 q = true) {n : Nat} {f : FuncId}
    (e : ansIs (fun v => clean v && veq 20 v (.bool true)) ((evalN (envW P [] (sums (l.map fun p => (p.1, pieceW p.2)))) n).call f [] AH0) = true) (w : World) :
    Calls P f #[] w fun e w' => e = .returned (.bool true) ∧ Below w.heap.size w w' :=
  letI : Sy := sy0
  have hk : ∀ p ∈ l.map (fun p => (p.1, pieceW p.2)), KnownF P p.1 p.2 := by
    intro p hp
    obtain ⟨q, hq, rfl⟩ := List.mem_map.1 hp
    exact piece_known (E := envOf P) (envOf_ok hm (names_ok hn)) (noExtOk rfl) (noExtNext rfl rfl) (noSumOk rfl) rfl (hl q hq)
  calls_sym (E := envW P [] _) (envW_ok hm (names_ok hn) (fun _ h => by cases h)) (noExtOk rfl) (sumsF_next rfl rfl hk) (sumsF_ok rfl hk) rfl .nil (.bool true) e w
end Go.Ev
