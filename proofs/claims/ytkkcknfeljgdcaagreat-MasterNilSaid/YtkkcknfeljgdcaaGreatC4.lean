/- Jobs are taken, as the document has it. RunJobs: the law, as formulas have it. Jobs that come in. Aggregates, reports: what is put is taken. Reports: what is put is taken. -/
import Derived.Test.YtkkcknfeljgdcaaGreatC3
import Derived.Test.YtkkcknfeljgdcaaGreatB3
import Derived.Test.YtkkcknfeljgdcaaGreatVc1
namespace Go.Proofs.Cx
open Go Go.Ev
end Go.Proofs.Cx

namespace Go.Ev
open Go
end Go.Ev
namespace Go.Proofs.Cx
open Go Go.Ev

end Go.Proofs.Cx

namespace Go.Proofs.Cx
open Go Go.Ev Go.RowKit

/-! graphs as they come in -/
abbrev RE : AH → List Value → Int × Int × Unit → Prop := RCons (RInt .i64) (RCons (RInt .i64) RNil)
theorem stable_re : Stable RE := stable_cons stable_int (stable_cons stable_int stable_nil)
theorem re_len (H : AH) (cs : List Value) (x) (h : RE H cs x) : cs.length = 2 := by
  obtain ⟨c1, c2, rfl, ⟨rfl, _⟩, c3, c4, rfl, ⟨rfl, _⟩, rfl⟩ := h; rfl
section
variable {Hh : Type} {enc : TypeId × Value → Hh} {W : World} [Sy]
end

def toE (x : Int × Int × Unit) : Int × Int := (x.1, x.2.1)
theorem lt_of_cell {H : AH} (ok : Ok H) {b i : Nat} {v : Value} (h : H.cell b i = some v) : b < H.next := by
  rcases Nat.lt_or_ge b H.next with h1 | h1
  · exact h1
  · have := ok b h1
    unfold AH.cell AH.rd at h
    rw [this] at h; cases h
theorem Sl.into {α β : Type} {sz : Nat} {P : AH → Nat → Nat → α → Prop} {Q : AH → Nat → Nat → β → Prop} {F : Nat → Prop} {H : AH} {f : α → β} {a : Option Addr} {l : Nat} {xs : List α} (h : Sl (fun _ => True) H sz P a l xs)
    (hF : ∀ b o x, P H b o x → F b) (k : ∀ b o x, x ∈ xs → P H b o x → Q H b o (f x)) : Sl F H sz Q a l (xs.map f) := by
  refine ⟨by rw [List.length_map]; exact h.len, fun hp => ⟨(h.base hp).1, ?_⟩, fun i hi => ?_⟩
  · have h1 : 0 < xs.length := by rw [← h.len]; exact hp
    exact hF _ _ _ (h.cells 0 h1)
  · rw [List.length_map] at hi
    rw [List.getElem_map]
    exact k _ _ _ (List.getElem_mem _) (h.cells i hi)
theorem i64_wf {x : Int} (h : (Lit.int .i64 x).wf = true) : I64 x := by
  simp only [Lit.wf, Bool.and_eq_true, decide_eq_true_eq] at h
  have h1 : IntKind.i64.min = -9223372036854775808 := by decide
  have h2 : IntKind.i64.max = 9223372036854775807 := by decide
  rw [h1, h2] at h
  exact h
theorem stable_ri : Stable (RInt .i64) := stable_int (k := .i64)
section
variable {Hh : Type} {enc : TypeId × Value → Hh} {W : World} [Sy]
end
end Go.Proofs.Cx

namespace Go.Ev
open Go
end Go.Ev
namespace Go.Proofs.Cx
open Go Go.Ev
section
variable {H : AH} {b : Nat} {s bs t : List UInt8} {p : Nat}
end
end Go.Proofs.Cx

namespace Go.Ev
open Go
def repC (f : Nat → Int) (h : Nat → Bool) (v : Nat → Int) (a : Option Addr) (l c : Nat) : List Value :=
  [.int .i64 (f 0), .int .i64 (f 1), .int .i64 (f 2), .int .i64 (f 3), .int .i64 (f 4), .int .i64 (f 5), .int .i64 (f 6), .int .i64 (f 7), .int .i64 (f 8), .bool (h 0), .bool (h 1), .bool (h 2), .bool (h 3), .bool (h 4), .int .i64 (v 0), .int .i64 (v 1), .int .i64 (v 2), .int .i64 (v 3), .int .i64 (v 4), .slice a l c]
end Go.Ev
namespace Go.Proofs.Cx
open Go Go.Ev
section
variable {H : AH} {b : Nat} {s bs t : List UInt8} {p : Nat}
end
end Go.Proofs.Cx
