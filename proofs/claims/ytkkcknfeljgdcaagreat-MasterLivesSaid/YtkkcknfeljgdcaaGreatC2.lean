/- Readers: numbers, counts, texts; the program's and the document's, as functions. The document's readers. graph.Edges, graph.edges, graph.Check. Writers that know what they change; graphs are put. Graphs are taken: the program's and the document's. -/
import Derived.Test.YtkkcknfeljgdcaaGreatC1
import Derived.Test.YtkkcknfeljgdcaaGreatVc1
namespace Go.Ev
open Go
end Go.Ev
namespace Go.Proofs.Cx
open Go Go.Ev

section
variable {H : AH} {b : Nat} {s : List UInt8} {p : Nat} {e : Int}
end
section
variable {H : AH} {b : Nat} {s : List UInt8} {q : RSt}
end

/-! the document's -/
section
variable {H : AH} {s : List UInt8} {q : RSt}
end
end Go.Proofs.Cx

namespace Go.Proofs.Cx
open Go Go.Ev

section
variable {H : AH} {s : List UInt8} {q : RSt}
end
end Go.Proofs.Cx

namespace Go.Proofs.Cx
open Go Go.Ev

end Go.Proofs.Cx

namespace Go.Ev
open Go
/-- a writer's doing: what it changed, and what it owns now -/
structure WrX (H : AH) (b : Nat) (H' : AH) : Prop where
  mod : Mod (WrS H b) H H'
  old : ∀ x, WrS H' b x → WrS H b x ∨ H.next ≤ x
theorem WrX.trans {H H1 H2 : AH} {b : Nat} (ok : Ok H) (h : WrX H b H1) (k : WrX H1 b H2) : WrX H b H2 := by
  refine ⟨h.mod.ext k.mod ok fun x hx => h.old x hx, fun x hx => ?_⟩
  rcases k.old x hx with h1 | h1
  · exact h.old x h1
  · have := h.mod.next
    right; omega
theorem WrX.grow {H H' : AH} {n0 b : Nat} {bs : List UInt8} (ok : Ok H) (hw : Wr H n0 b bs) (g : Grow H H') : WrX H b H' := ⟨g.le (fun _ h _ => h.elim) ok, fun _ hx => .inl (hw.old g hx)⟩
theorem WrX.off {H H' : AH} {b x : Nat} (h : WrX H b H') (hx : ¬ WrS H b x) (hl : x < H.next) : ¬ WrS H' b x := fun k => by
  rcases h.old x k with h1 | h1
  · exact hx h1
  · omega
theorem WrX.keep {F : Nat → Prop} {H H' : AH} {b : Nat} (h : WrX H b H') (hF : ∀ x, F x → x < H.next ∧ ¬ WrS H b x) : ∀ x, F x → x < H'.next ∧ ¬ WrS H' b x := fun x hx => by
  obtain ⟨h1, h2⟩ := hF x hx
  have := h.mod.next
  exact ⟨by omega, h.off h2 h1⟩
/-- what is new is not the writer's -/
theorem Wr.new {H H' : AH} {n0 b x : Nat} {bs : List UInt8} (ok : Ok H) (hw : Wr H n0 b bs) (g : Grow H H') (hx : H.next ≤ x) : ¬ WrS H' b x := fun k => by
  have := hw.lt ok (hw.old g k)
  omega
end Go.Ev
namespace Go.Proofs.Cx
open Go Go.Ev
section
variable {H : AH} {n0 b : Nat} {bs : List UInt8}
end

/-! as the document has them -/
end Go.Proofs.Cx

namespace Go.Ev
open Go
end Go.Ev
namespace Go.Proofs.Cx
open Go Go.Ev

section
variable {H : AH} {b : Nat} {s : List UInt8} {q : RSt}
end
end Go.Proofs.Cx
