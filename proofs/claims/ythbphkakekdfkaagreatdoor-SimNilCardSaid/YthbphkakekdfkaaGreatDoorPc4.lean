/- The pieces of a long run, each worked out. Printed by a program. -/
import Derived.Test.YthbphkakekdfkaaGreatDoorPc0
import Derived.Test.YthbphkakekdfkaaGreatDoorProg
namespace Go.Proofs.Pc
open Go Go.Ev
theorem r9 : runPiece (envOf Tryz.prog) 10000 11 q9 = true := by kernel_rfl
theorem r10 : runPiece (envOf Tryz.prog) 10000 11 q10 = true := by kernel_rfl
theorem r11 : runPiece (envOf Tryz.prog) 10000 11 q11 = true := by kernel_rfl
end Go.Proofs.Pc
