/- A nil world answers as the document says: of any event: the walk: it answers true and leaves all as it was. No condition.
   The law's run is worked out by an evaluator (its texts ..Ev1 to ..Ev33) whose answers are proved to be the program's; what comes in stands for any. -/
import Derived.Test.YthbphkakekdfkaaGreatDoorRows
import Derived.Test.YthbphkakekdfkaaGreatDoorEv33
import Derived.Test.YthbphkakekdfkaaGreatDoorPcAll
import Derived.Test.YthbphkakekdfkaaGreatDoorCards
import Derived.Test.YthbphkakekdfkaaGreatDoorSimNilLaid
import Derived.ProofKit
import Derived.LaidMore
import Derived.SevenTiedAt
namespace Go.Proofs.YthbphkakekdfkaaGreatDoor.simNil
open Go.ChangeShapes Go.WideShapes Go.ChangeAt Go.RowKit Go.Ev

theorem mixed : Tryz.prog.follows .mixedOrders = true := Checked.mixed Tryz.checked
theorem own : ownKnob Tryz.prog.godebug = none := by kernel_rfl
theorem names : (Tryz.prog.funcs.toList.all fun fn => !(fn.name == "runtime.NumGoroutine")) = true := by kernel_rfl
theorem rows : (Tryz.f3.params.toList.all fun t => Tryz.prog.readableRec t && decide (t < Tryz.prog.types.size)) = true := by kernel_rfl
open Go.Proofs.Pc
theorem awakeV : ansIs (fun v => clean v && veq 20 v (.bool true)) ((evalN (envW Tryz.prog [] (sums (pcs.map fun p => (p.1, pieceW p.2)))) 10000).call 5 [] AH0) = true := by kernel_rfl
theorem awake (w : World) : Calls Tryz.prog 5 #[] w fun e w' => e = .returned (.bool true) ∧ Below w.heap.size w w' := law_awake_pieces (P := Tryz.prog) mixed names pcs_ok awakeV w

theorem lawV : ansIs (fun v => clean v && veq 20 v (.bool true)) ((evalN (envW Tryz.prog [] (sum1 5)) 10000).call 3 [.agg ⟨syms 0 7⟩] AH0) = true := by kernel_rfl
theorem sizeS : Tryz.prog.cellsOf 25 = 7 := by kernel_rfl

theorem walk (cs : List Value) (hc : cs.length = 7) (h1 : ∀ x ∈ cs, oneCell x = true) (w : World) : Calls Tryz.prog 3 #[.agg ⟨cs⟩] w fun e w' => e = .returned (.bool true) ∧ Below w.heap.size w w' :=
  law_with (h1 := h1) (P := Tryz.prog) (orc := []) mixed names awake (fun _ h => by cases h) (struct_VR hc) lawV w

end Go.Proofs.YthbphkakekdfkaaGreatDoor.simNil
