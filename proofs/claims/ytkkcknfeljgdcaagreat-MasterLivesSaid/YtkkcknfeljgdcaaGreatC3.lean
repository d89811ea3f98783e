/- Graphs are taken, as the document has it. Jobs that may be: the program's check and the document's. Jobs that may be: parameters, all. Jobs are put; their bytes as the document has them. Jobs are taken. -/
import Derived.Test.YtkkcknfeljgdcaaGreatC2
import Derived.Test.YtkkcknfeljgdcaaGreatVc1
namespace Go.Proofs.Cx
open Go Go.Ev
section
variable {H : AH} {s : List UInt8} {q : RSt}
end
end Go.Proofs.Cx

namespace Go.Ev
open Go
section
variable {G : List Vtx} {ps : List Int} {p : List UInt8}
end
theorem May.edge {G : List Vtx} (h : May G) {v : Vtx} (hv : v ∈ G) : v.edges.length ≤ 2048 := by
  have h1 : v.edges.length ≤ nE G := by
    obtain ⟨k, hk, rfl⟩ := List.mem_iff_getElem.1 hv
    have h2 := nE_take hk
    have h3 := nE_take_le G (k + 1)
    omega
  have h4 := h.many
  omega
end Go.Ev
namespace Go.Proofs.Cx
open Go Go.Ev

/-! programs' names -/
/-! parameters -/
section
variable {Fp : Nat → Prop} {pa : Option Addr} {pl pc : Nat} {ps : List Int} {H : AH}
end
end Go.Proofs.Cx

namespace Go.Ev
open Go
end Go.Ev
namespace Go.Proofs.Cx
open Go Go.Ev
section
variable {F Fp : Nat → Prop} {a pa : Option Addr} {l c pl pc : Nat} {G : List Vtx} {ps : List Int} {p : List UInt8} {H : AH}
/-! all of a job -/
end
end Go.Proofs.Cx

namespace Go.Ev
open Go
/-- all numbers have room -/
structure JobX (j : JobW) : Prop where
  vs : ∀ v ∈ j.graph, I64 v.id ∧ I64 v.val ∧ ∀ e ∈ v.edges, PairI e
  ps : ∀ x ∈ j.params, I64 x
theorem JobX.ok {j : JobW} (h : JobX j) (hc : jchk j = 0) : JobI j := by
  obtain ⟨_, h2, h3, _, h5, h6, h7, h8, h9, h10⟩ := jchk_zero hc
  have hM := chk_zero.1 h2
  exact ⟨⟨hM.len, fun v hv => ⟨(h.vs v hv).1, (h.vs v hv).2.1, hM.edge hv, (h.vs v hv).2.2⟩⟩, h3, h.ps, ⟨by omega, h6⟩, ⟨h7, h8⟩, ⟨by omega, h10⟩⟩
end Go.Ev
namespace Go.Proofs.Cx
open Go Go.Ev
theorem new_job {H H1 : AH} {cs : List Value} (ok : Ok H) (e1 : H1 = H.new (.cells cs 0)) : Grow H H1 ∧ H1.get H.next = some (.cells cs 0) ∧ H1.next = H.next + 1 := by
  subst e1
  exact ⟨Grow.new ok _, get_new_self _ _, rfl⟩
section
variable {F Fp : Nat → Prop} {a pa : Option Addr} {l c pl pc : Nat} {j : JobW} {H : AH}
end
end Go.Proofs.Cx

namespace Go.Ev
open Go
/-- the error of bytes that may be a job's -/
noncomputable def decE (s : List UInt8) : Int := rEnd s (rJob s (0, 0)).2
end Go.Ev
namespace Go.Proofs.Cx
open Go Go.Ev
section
variable {H : AH} {b : Nat} {s : List UInt8} {q : RSt}
end
/-- what is told of bytes -/
structure Told (s : List UInt8) (H H' : AH) (a : Option Addr) (l : Nat) (pa : Option Addr) (pl : Nat) (j : JobW) (e : Int) : Prop where
  err : e = decE s
  good : e = 0 → j = (rJob s (0, 0)).1 ∧ SlV (fun x => H.next ≤ x ∧ x < H'.next) H' a l j.graph ∧ SlI (fun x => H.next ≤ x ∧ x < H'.next) H' pa pl j.params
  bad : e ≠ 0 → j.prog = [] ∧ l = 0
end Go.Proofs.Cx
