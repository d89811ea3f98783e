/- A nil world answers as the document says: of any event, 'SimNil' answers true and leaves all as it was: the row and its card. No condition. -/
import Derived.Test.YthbphkakekdfkaaGreatDoorSimNilRow
import Derived.Test.YthbphkakekdfkaaGreatDoorSimNilGoes
import Derived.Test.YthbphkakekdfkaaGreatDoorCards
import Derived.Test.YthbphkakekdfkaaGreatDoorTie
import Derived.ProofKit
import Derived.LaidMore
import Derived.SevenTiedAt
namespace Go.Proofs.YthbphkakekdfkaaGreatDoor.simNil
open Go.ChangeShapes Go.WideShapes Go.ChangeAt Go.RowKit Go.Ev

theorem proved : Rows.SimNilCardSaid :=
  Claim7.holds_tied_plain_at .later [] [.data, .data, .data] true (true, "aa062deedfdb1a0052f13d1f227867649e49ad3cbf8452047c0661afa8e851f9") true
    row_holds (fun _ h => by cases h) (by as_aux_lemma => kernel_rfl) (fun _ h => by cases h) simNil_row_tie rfl ⟨rfl, rfl⟩ (by as_aux_lemma => kernel_rfl) rfl
    (fun f fn hf hfn => by
      obtain rfl : f = 3 := Option.some.inj ((show Tryz.prog.funcNamed "cohort/cohortlaw25.SimNil" = some 3 by as_aux_lemma => kernel_rfl).symm.trans hf) |>.symm
      obtain rfl : fn = Tryz.f3 := (Option.some.inj (Tryz.func3.symm.trans hfn)).symm
      exact ⟨by as_aux_lemma => kernel_rfl, fun j t ht => by
        rw [Tryz.params3] at ht
        have h3 : t = 25 := by
          rcases j with _ | j
          · simpa using ht.symm
          · simp at ht
        subst h3
        exact (show Tryz.prog.wantsStandIn 25 = false by as_aux_lemma => kernel_rfl)⟩)
    goes

end Go.Proofs.YthbphkakekdfkaaGreatDoor.simNil
