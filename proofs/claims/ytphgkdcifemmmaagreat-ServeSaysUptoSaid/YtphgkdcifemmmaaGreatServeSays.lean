/- What is said is told as bytes, and read again; any bytes say something, or are refused: of anything that can be said and any text, of bulk at most 1048576, 'ServeSays' answers true and leaves all as it was: the row. No condition. -/
import Derived.Test.YtphgkdcifemmmaaGreatServeSaysLift
import Derived.Test.YtphgkdcifemmmaaGreatServeSaysFacts
import Derived.ProofKit
import Derived.JoinedCond
import Derived.Deep.CondSized
import Derived.SizedLaws
namespace Go.Proofs.YtphgkdcifemmmaaGreat.serveSays
open Go.ChangeShapes Go.WideShapes Go.ChangeAt Go.RowKit Go.Ev Go.Proofs.Cx

theorem proved : Rows.ServeSaysUptoSaid :=
  OpenClaim.holds_of_cond 3 Tryz.f3 rfl rfl rfl rfl rfl rfl rfl ⟨rfl, rfl, rfl, rfl, rfl⟩ rfl rfl rfl rfl rfl (by as_aux_lemma => kernel_rfl) Tryz.func3 facts
    (of_decide_eq_true (by kernel_rfl)) (by unfold Func.isWrapper; first | (rw [if_pos (by decide +kernel)]; kernel_rfl) | (rw [if_neg (by decide +kernel)]; exact ⟨rfl, rfl⟩))
    (fun os started H enc _ F => lifted os started H enc F)

end Go.Proofs.YtphgkdcifemmmaaGreat.serveSays
