/- A nil world answers as the document says: of any event: the closed facts of the row, one by one. -/
import Derived.Test.YthbphkakekdfkaaGreatDoorSimNilParts
import Derived.Test.YthbphkakekdfkaaGreatDoorSimNilVars
import Derived.Test.YthbphkakekdfkaaGreatDoorSimNilLaid
import Derived.ProofKit
namespace Go.Proofs.YthbphkakekdfkaaGreatDoor.simNil
open Go.ChangeShapes Go.WideShapes Go.ChangeAt Go.RowKit

set_option maxHeartbeats 8000000 in
theorem facts : joinedFacts Tryz.prog 3 Tryz.f3 Rows.simNilSpec Rows.simNilRow = true := by
  unfold joinedFacts
  simp only [Bool.and_eq_true, fact1, fact2, fact3, fact4, laidOut]
  repeat' refine And.intro ?_ ?_
  all_goals first
    | exact trivial
    | as_aux_lemma => kernel_rfl
end Go.Proofs.YthbphkakekdfkaaGreatDoor.simNil
