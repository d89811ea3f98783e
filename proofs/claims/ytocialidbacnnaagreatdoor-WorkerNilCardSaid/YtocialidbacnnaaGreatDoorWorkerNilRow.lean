/- A nil worker, and workers that may not be: of any three numbers, 'WorkerNil' answers true and leaves all as it was: the row. No condition. -/
import Derived.Test.YtocialidbacnnaaGreatDoorWorkerNilLift
import Derived.Test.YtocialidbacnnaaGreatDoorWorkerNilFacts
import Derived.Test.YtocialidbacnnaaGreatDoorCards
import Derived.Test.YtocialidbacnnaaGreatDoorTie
import Derived.ProofKit
import Derived.LaidMore
import Derived.SevenTiedAt
namespace Go.Proofs.YtocialidbacnnaaGreatDoor.workerNil
open Go.ChangeShapes Go.WideShapes Go.ChangeAt Go.RowKit Go.Ev

theorem row_holds : Rows.WorkerNilSaid :=
  OpenClaim.holds_of_wide 3 Tryz.f3 rfl rfl rfl rfl rfl rfl rfl ⟨rfl, rfl, rfl, rfl, rfl⟩ rfl rfl rfl rfl rfl (by as_aux_lemma => kernel_rfl) Tryz.func3 facts
    (of_decide_eq_true (by kernel_rfl)) (by unfold Func.isWrapper; first | (rw [if_pos (by decide +kernel)]; kernel_rfl) | (rw [if_neg (by decide +kernel)]; exact ⟨rfl, rfl⟩))
    (fun os started H enc _ => lifted os started H enc)
end Go.Proofs.YtocialidbacnnaaGreatDoor.workerNil
