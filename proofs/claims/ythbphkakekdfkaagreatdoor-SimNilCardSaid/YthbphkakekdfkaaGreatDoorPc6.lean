/- The pieces of a long run, each worked out. Printed by a program. -/
import Derived.Test.YthbphkakekdfkaaGreatDoorPc0
import Derived.Test.YthbphkakekdfkaaGreatDoorProg
namespace Go.Proofs.Pc
open Go Go.Ev
theorem r15 : runPiece (envOf Tryz.prog) 10000 11 q15 = true := by kernel_rfl
theorem r16 : runPiece (envOf Tryz.prog) 10000 11 q16 = true := by kernel_rfl
theorem r17 : runPiece (envOf Tryz.prog) 10000 11 q17 = true := by kernel_rfl
end Go.Proofs.Pc
