/- A nil world answers as the document says: the program is laid out. -/
import Derived.Test.YthbphkakekdfkaaGreatDoorProg
import Derived.JoinedOf
import Derived.KernelRfl
namespace Go.Proofs.YthbphkakekdfkaaGreatDoor.simNil
open Go
theorem laidOut : laidOutB Tryz.prog = true := by kernel_rfl
end Go.Proofs.YthbphkakekdfkaaGreatDoor.simNil
