/- A law with what is told of its symbols; its awake. -/
import Derived.Test.YthbphkakekdfkaaGreatDoorEv32
namespace Go.Ev
open Go Go.RowKit
section
variable {E : Env} {t : TypeId} {k : IntKind} {a b : Int}
end
section
variable {P : Program}
abbrev sy0 : Sy := syOf [] (fun _ h => by cases h)
theorem law_with (hm : P.follows .mixedOrders = true) (hn : (P.funcs.toList.all fun fn => !(fn.name == "runtime.NumGoroutine")) = true) {g : FuncId}
    (haw : ∀ w, Calls P g #[] w fun e w' => e = .returned (.bool true) ∧ Below w.heap.size w w') {cs : List Value} {h1 : ∀ x ∈ cs, oneCell x = true} {orc : List (BinOp × Value × Value × Value)}
    (ho : @OrcOk (syOf cs h1) orc) {as as' : List Value} (ha : @VRs (syOf cs h1) nowhere as as') {n : Nat} {f : FuncId}
    (e : ansIs (fun v => clean v && veq 20 v (.bool true)) ((evalN (envW P orc (sum1 g)) n).call f as AH0) = true) (w : World) :
    Calls P f ⟨as'⟩ w fun e w' => e = .returned (.bool true) ∧ Below w.heap.size w w' :=
  letI : Sy := syOf cs h1
  calls_sym (E := envW P orc (sum1 g)) (envW_ok hm (names_ok hn) ho) (noExtOk rfl) (sum1_next rfl rfl) (sum1_ok rfl haw) rfl ha (.bool true) e w
end
end Go.Ev
