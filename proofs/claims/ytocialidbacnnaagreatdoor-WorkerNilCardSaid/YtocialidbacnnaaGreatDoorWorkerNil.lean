/- A nil worker, and workers that may not be: of any three numbers, 'WorkerNil' answers true and leaves all as it was: the row and its card. No condition. -/
import Derived.Test.YtocialidbacnnaaGreatDoorWorkerNilRow
import Derived.Test.YtocialidbacnnaaGreatDoorCards
import Derived.Test.YtocialidbacnnaaGreatDoorTie
import Derived.ProofKit
import Derived.LaidMore
import Derived.SevenTiedAt
namespace Go.Proofs.YtocialidbacnnaaGreatDoor.workerNil
open Go.ChangeShapes Go.WideShapes Go.ChangeAt Go.RowKit Go.Ev

theorem proved : Rows.WorkerNilCardSaid :=
  Claim7.holds_tied_plain_at .later [] [.data, .data, .data] true (true, "1c89b8c1c62fa2d4f74c759ca9695fac7aa6bacfd0782645a4a086e6bd8cd4c3") true
    row_holds (fun _ h => by cases h) (by kernel_rfl) (fun _ h => by cases h) workerNil_row_tie rfl ⟨rfl, rfl⟩ (by kernel_rfl) rfl
    (fun f fn hf hfn => by
      obtain rfl : f = 3 := Option.some.inj ((show Tryz.prog.funcNamed "cohort/cohortlaw22.WorkerNil" = some 3 by kernel_rfl).symm.trans hf) |>.symm
      obtain rfl : fn = Tryz.f3 := (Option.some.inj (Tryz.func3.symm.trans hfn)).symm
      exact ⟨by kernel_rfl, fun j t ht => by
        rw [Tryz.params3] at ht
        have h3 : t = 3 := by
          rcases j with _ | _ | _ | j
          · simpa using ht.symm
          · simpa using ht.symm
          · simpa using ht.symm
          · simp at ht
        subst h3
        exact (show Tryz.prog.wantsStandIn 3 = false by kernel_rfl)⟩)
    (by kernel_rfl)

end Go.Proofs.YtocialidbacnnaaGreatDoor.workerNil
