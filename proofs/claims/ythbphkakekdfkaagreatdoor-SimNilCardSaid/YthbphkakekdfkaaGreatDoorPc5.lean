/- The pieces of a long run, each worked out. Printed by a program. -/
import Derived.Test.YthbphkakekdfkaaGreatDoorPc0
import Derived.Test.YthbphkakekdfkaaGreatDoorProg
namespace Go.Proofs.Pc
open Go Go.Ev
theorem r12 : runPiece (envOf Tryz.prog) 10000 11 q12 = true := by kernel_rfl
theorem r13 : runPiece (envOf Tryz.prog) 10000 11 q13 = true := by kernel_rfl
theorem r14 : runPiece (envOf Tryz.prog) 10000 11 q14 = true := by kernel_rfl
end Go.Proofs.Pc
