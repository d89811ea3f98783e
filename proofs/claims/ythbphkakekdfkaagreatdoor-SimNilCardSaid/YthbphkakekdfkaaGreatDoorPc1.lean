/- The pieces of a long run, each worked out. Printed by a program. -/
import Derived.Test.YthbphkakekdfkaaGreatDoorPc0
import Derived.Test.YthbphkakekdfkaaGreatDoorProg
namespace Go.Proofs.Pc
open Go Go.Ev
theorem r0 : runPiece (envOf Tryz.prog) 10000 27 q0 = true := by kernel_rfl
theorem r1 : runPiece (envOf Tryz.prog) 10000 26 q1 = true := by kernel_rfl
theorem r2 : runPiece (envOf Tryz.prog) 10000 11 q2 = true := by kernel_rfl
end Go.Proofs.Pc
