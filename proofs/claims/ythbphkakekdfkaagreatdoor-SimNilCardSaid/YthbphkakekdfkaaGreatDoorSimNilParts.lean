/- A nil world answers as the document says: three closed facts of the row. -/
import Derived.Test.YthbphkakekdfkaaGreatDoorRows
import Derived.JoinedOf
import Derived.KernelRfl
namespace Go.Proofs.YthbphkakekdfkaaGreatDoor.simNil
open Go
theorem fact1 : (Rows.simNilRow.inPlace == Tryz.prog.inPlace 3) = true := by kernel_rfl
theorem fact2 : (Rows.simNilRow.unfollowed == Tryz.prog.unfollowed 3) = true := by kernel_rfl
theorem fact3 : (Rows.simNilRow.recurses == Tryz.prog.recurses 3) = true := by kernel_rfl
end Go.Proofs.YthbphkakekdfkaaGreatDoor.simNil
