/- The pieces of a long run, each worked out. Printed by a program. -/
import Derived.Test.YthbphkakekdfkaaGreatDoorPc0
import Derived.Test.YthbphkakekdfkaaGreatDoorProg
namespace Go.Proofs.Pc
open Go Go.Ev
theorem r6 : runPiece (envOf Tryz.prog) 10000 11 q6 = true := by kernel_rfl
theorem r7 : runPiece (envOf Tryz.prog) 10000 11 q7 = true := by kernel_rfl
theorem r8 : runPiece (envOf Tryz.prog) 10000 11 q8 = true := by kernel_rfl
end Go.Proofs.Pc
