/- What is said is told as bytes, and read again: the closed facts of the row, one by one. -/
import Derived.Test.YtphgkdcifemmmaaGreatRows
import Derived.ProofKit
import Derived.JoinedCond
namespace Go.Proofs.YtphgkdcifemmmaaGreat.serveSays
open Go.ChangeShapes Go.WideShapes Go.ChangeAt Go.RowKit

theorem fact1 : (Rows.serveSaysUptoRow.inPlace == Tryz.prog.inPlace 3) = true := by kernel_rfl
theorem fact2 : (Rows.serveSaysUptoRow.unfollowed == Tryz.prog.unfollowed 3) = true := by kernel_rfl
theorem fact3 : (Rows.serveSaysUptoRow.recurses == Tryz.prog.recurses 3) = true := by kernel_rfl
theorem fact4 : (Rows.serveSaysUptoRow.named == Tryz.prog.varsNamed 3) = true := by kernel_rfl
set_option maxHeartbeats 8000000 in
theorem facts : joinedFacts Tryz.prog 3 Tryz.f3 (Rows.OpenSpec.upto Rows.serveSaysSpec).bare Rows.serveSaysUptoRow = true := by
  unfold joinedFacts
  simp only [Bool.and_eq_true, fact1, fact2, fact3, fact4]
  repeat' refine And.intro ?_ ?_
  all_goals first
    | exact trivial
    | as_aux_lemma => kernel_rfl
end Go.Proofs.YtphgkdcifemmmaaGreat.serveSays
