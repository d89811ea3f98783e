/- All pieces of a long run. Printed by a program. -/
import Derived.Test.YthbphkakekdfkaaGreatDoorPc0
import Derived.Test.YthbphkakekdfkaaGreatDoorPc1
import Derived.Test.YthbphkakekdfkaaGreatDoorPc2
import Derived.Test.YthbphkakekdfkaaGreatDoorPc3
import Derived.Test.YthbphkakekdfkaaGreatDoorPc4
import Derived.Test.YthbphkakekdfkaaGreatDoorPc5
import Derived.Test.YthbphkakekdfkaaGreatDoorPc6
import Derived.Test.YthbphkakekdfkaaGreatDoorC1
namespace Go.Proofs.Pc
open Go Go.Ev
def pcs : List (FuncId × List Piece) := [(27, [q0]), (26, [q1]), (11, [q2, q3, q4, q5, q6, q7, q8, q9, q10, q11, q12, q13, q14, q15, q16, q17])]
theorem pcs_ok : ∀ p ∈ pcs, ∀ q ∈ p.2, runPiece (envOf Tryz.prog) 10000 p.1 q = true := by
  intro p hp q hq
  simp only [pcs, List.mem_cons, List.not_mem_nil, or_false] at hp
  rcases hp with rfl | rfl | rfl
  · simp only [List.mem_cons, List.not_mem_nil, or_false] at hq
    subst hq; exact r0
  · simp only [List.mem_cons, List.not_mem_nil, or_false] at hq
    subst hq; exact r1
  · simp only [List.mem_cons, List.not_mem_nil, or_false] at hq
    rcases hq with rfl | rfl | rfl | rfl | rfl | rfl | rfl | rfl | rfl | rfl | rfl | rfl | rfl | rfl | rfl | rfl
    · exact r2
    · exact r3
    · exact r4
    · exact r5
    · exact r6
    · exact r7
    · exact r8
    · exact r9
    · exact r10
    · exact r11
    · exact r12
    · exact r13
    · exact r14
    · exact r15
    · exact r16
    · exact r17
end Go.Proofs.Pc
