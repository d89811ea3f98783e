/- A nil worker, and workers that may not be: the walk: of any three numbers, 'WorkerNil' answers true and leaves all as it was. No condition.
   The law's run is worked out by an evaluator (its texts ..Ev1 to ..Ev33) whose answers are proved to be the program's; the numbers stand for any, by what their comparisons come to. -/
import Derived.Test.YtocialidbacnnaaGreatDoorRows
import Derived.Test.YtocialidbacnnaaGreatDoorEv33
import Derived.Test.YtocialidbacnnaaGreatDoorCards
import Derived.Test.YtocialidbacnnaaGreatDoorTie
import Derived.ProofKit
import Derived.LaidMore
import Derived.SevenTiedAt
namespace Go.Proofs.YtocialidbacnnaaGreatDoor.workerNil
open Go.ChangeShapes Go.WideShapes Go.ChangeAt Go.RowKit Go.Ev

theorem own : ownKnob Tryz.prog.godebug = none := by kernel_rfl
theorem laidOut : laidOutB Tryz.prog = true := by kernel_rfl
theorem names : (Tryz.prog.funcs.toList.all fun fn => !(fn.name == "runtime.NumGoroutine")) = true := by kernel_rfl
theorem rows : (Tryz.f3.params.toList.all fun t => Tryz.prog.readableRec t && decide (t < Tryz.prog.types.size)) = true := by kernel_rfl
theorem awakeV : ansIs (fun v => clean v && veq 20 v (.bool true)) ((evalN (envOf Tryz.prog) 10000).call 8 [] AH0) = true := by kernel_rfl

/-- what the comparisons of the three numbers come to -/
def orc (a b c d e : Bool) : List (BinOp × Value × Value × Value) :=
  [(.lss, .chan (some 0), .int .i64 0, .bool a), (.geq, .chan (some 0), .int .i64 0, .bool (!a)),
   (.geq, .chan (some 0), .int .i64 64, .bool b), (.lss, .chan (some 0), .int .i64 64, .bool (!b)),
   (.lss, .chan (some 1), .int .i64 1, .bool c), (.geq, .chan (some 1), .int .i64 1, .bool (!c)),
   (.lss, .chan (some 2), .int .i64 1, .bool d), (.geq, .chan (some 2), .int .i64 1, .bool (!d)),
   (.gtr, .chan (some 2), .int .i64 7, .bool e), (.leq, .chan (some 2), .int .i64 7, .bool (!e))]
theorem lawV (a b c d e : Bool) : ansIs (fun v => clean v && veq 20 v (.bool true)) ((evalN (envW Tryz.prog (orc a b c d e) (sum1 8)) 10000).call 3 (syms 0 3) AH0) = true := by
  cases a <;> cases b <;> cases c <;> cases d <;> cases e <;> kernel_rfl

theorem ints_one (x y z : Int) : ∀ v ∈ ([.int .i64 x, .int .i64 y, .int .i64 z] : List Value), oneCell v = true := by
  intro v hv
  simp only [List.mem_cons, List.not_mem_nil, or_false] at hv
  rcases hv with rfl | rfl | rfl <;> rfl
theorem orc_ok (x y z : Int) : @OrcOk (syOf _ (ints_one x y z)) (orc (decide (x < 0)) (decide (x ≥ 64)) (decide (y < 1)) (decide (z < 1)) (decide (z > 7))) := by
  intro e he
  simp only [orc, List.mem_cons, List.not_mem_nil, or_false] at he
  rcases he with rfl | rfl | rfl | rfl | rfl | rfl | rfl | rfl | rfl | rfl
  · exact ⟨rfl, rfl, rfl, rfl, fun E t => binv_lss⟩
  · exact ⟨rfl, rfl, rfl, rfl, fun E t => binv_geq_not⟩
  · exact ⟨rfl, rfl, rfl, rfl, fun E t => binv_geq⟩
  · exact ⟨rfl, rfl, rfl, rfl, fun E t => binv_lss_not⟩
  · exact ⟨rfl, rfl, rfl, rfl, fun E t => binv_lss⟩
  · exact ⟨rfl, rfl, rfl, rfl, fun E t => binv_geq_not⟩
  · exact ⟨rfl, rfl, rfl, rfl, fun E t => binv_lss⟩
  · exact ⟨rfl, rfl, rfl, rfl, fun E t => binv_geq_not⟩
  · exact ⟨rfl, rfl, rfl, rfl, fun E t => binv_gtr⟩
  · exact ⟨rfl, rfl, rfl, rfl, fun E t => binv_leq_not⟩

set_option maxRecDepth 100000 in
theorem walk (x y z : Int) (w : World) : Calls Tryz.prog 3 #[.int .i64 x, .int .i64 y, .int .i64 z] w fun e w' => e = .returned (.bool true) ∧ Below w.heap.size w w' :=
  law_with (Checked.mixed Tryz.checked) names (law_awake (Checked.mixed Tryz.checked) names awakeV) (orc_ok x y z) (cells_VR rfl) (lawV _ _ _ _ _) w
end Go.Proofs.YtocialidbacnnaaGreatDoor.workerNil
