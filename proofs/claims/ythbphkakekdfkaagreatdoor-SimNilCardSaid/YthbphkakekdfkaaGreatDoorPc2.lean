/- The pieces of a long run, each worked out. Printed by a program. -/
import Derived.Test.YthbphkakekdfkaaGreatDoorPc0
import Derived.Test.YthbphkakekdfkaaGreatDoorProg
namespace Go.Proofs.Pc
open Go Go.Ev
theorem r3 : runPiece (envOf Tryz.prog) 10000 11 q3 = true := by kernel_rfl
theorem r4 : runPiece (envOf Tryz.prog) 10000 11 q4 = true := by kernel_rfl
theorem r5 : runPiece (envOf Tryz.prog) 10000 11 q5 = true := by kernel_rfl
end Go.Proofs.Pc
