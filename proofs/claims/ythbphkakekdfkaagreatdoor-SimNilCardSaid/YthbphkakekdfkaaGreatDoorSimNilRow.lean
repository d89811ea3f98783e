/- A nil world answers as the document says: of any event, 'SimNil' answers true and leaves all as it was: the row. No condition. -/
import Derived.Test.YthbphkakekdfkaaGreatDoorSimNilLift
import Derived.Test.YthbphkakekdfkaaGreatDoorSimNilFacts
import Derived.Test.YthbphkakekdfkaaGreatDoorCards
import Derived.ProofKit
import Derived.LaidMore
import Derived.SevenTiedAt
namespace Go.Proofs.YthbphkakekdfkaaGreatDoor.simNil
open Go.ChangeShapes Go.WideShapes Go.ChangeAt Go.RowKit Go.Ev

theorem row_holds : Rows.SimNilSaid :=
  OpenClaim.holds_of_wide 3 Tryz.f3 rfl rfl rfl rfl rfl rfl rfl ⟨rfl, rfl, rfl, rfl, rfl⟩ rfl rfl rfl rfl rfl (by as_aux_lemma => kernel_rfl) Tryz.func3 facts
    (of_decide_eq_true (by kernel_rfl)) (by unfold Func.isWrapper; first | (rw [if_pos (by decide +kernel)]; kernel_rfl) | (rw [if_neg (by decide +kernel)]; exact ⟨rfl, rfl⟩))
    (fun os started H enc _ => lifted os started H enc)
end Go.Proofs.YthbphkakekdfkaaGreatDoor.simNil
