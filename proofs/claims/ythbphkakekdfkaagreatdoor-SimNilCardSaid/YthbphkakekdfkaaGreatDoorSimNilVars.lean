/- A nil world answers as the document says: the variables that the law names. -/
import Derived.Test.YthbphkakekdfkaaGreatDoorRows
import Derived.JoinedOf
import Derived.KernelRfl
namespace Go.Proofs.YthbphkakekdfkaaGreatDoor.simNil
open Go
theorem fact4 : (Rows.simNilRow.named == Tryz.prog.varsNamed 3) = true := by kernel_rfl
end Go.Proofs.YthbphkakekdfkaaGreatDoor.simNil
