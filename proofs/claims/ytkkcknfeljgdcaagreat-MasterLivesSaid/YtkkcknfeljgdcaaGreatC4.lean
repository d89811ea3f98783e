/- Jobs are taken, as the document has it. RunJobs: the law, as formulas have it. Jobs that come in. Aggregates, reports: what is put is taken. Reports: what is put is taken. -/
import Derived.Test.YtkkcknfeljgdcaaGreatC3
import Derived.Test.YtkkcknfeljgdcaaGreatB3
import Derived.Test.YtkkcknfeljgdcaaGreatVc1
namespace Go.Proofs.Cx
open Go Go.Ev
end Go.Proofs.Cx

namespace Go.Ev
open Go
end Go.Ev
namespace Go.Proofs.Cx
open Go Go.Ev

end Go.Proofs.Cx

namespace Go.Proofs.Cx
open Go Go.Ev Go.RowKit

/-! graphs as they come in -/
abbrev RE : AH → List Value → Int × Int × Unit → Prop := RCons (RInt .i64) (RCons (RInt .i64) RNil)
abbrev RV : AH → List Value → Int × Int × List (Int × Int × Unit) × Unit → Prop := RCons (RInt .i64) (RCons (RInt .i64) (RCons (RSl 2 16 RE) RNil))
abbrev RG : AH → List Value → List (Int × Int × List (Int × Int × Unit) × Unit) × Unit → Prop := RCons (RSl 3 40 RV) RNil
theorem stable_re : Stable RE := stable_cons stable_int (stable_cons stable_int stable_nil)
theorem stable_rv : Stable RV := stable_cons stable_int (stable_cons stable_int (stable_cons (stable_slice stable_re) stable_nil))
theorem stable_rg : Stable RG := stable_cons (stable_slice stable_rv) stable_nil
theorem re_len (H : AH) (cs : List Value) (x) (h : RE H cs x) : cs.length = 2 := by
  obtain ⟨c1, c2, rfl, ⟨rfl, _⟩, c3, c4, rfl, ⟨rfl, _⟩, rfl⟩ := h; rfl
theorem rv_len (H : AH) (cs : List Value) (x) (h : RV H cs x) : cs.length = 3 := by
  obtain ⟨c1, c2, rfl, ⟨rfl, _⟩, c3, c4, rfl, ⟨rfl, _⟩, c5, c6, rfl, ⟨a, l, c, rfl, _⟩, rfl⟩ := h; rfl

section
variable {Hh : Type} {enc : TypeId × Value → Hh} {W : World} [Sy]
theorem lay_edge : LayT enc Tryz.prog W T_api_Edge RE :=
  lay_struct (ds := [(T_int64, 0), (T_int64, 1)]) (by kernel_rfl) (total := 2) (by kernel_rfl)
    (lay_fcons (off := 0) (n := 1) rfl (by kernel_rfl) (lay_int (by kernel_rfl)) stable_int (lay_fcons (off := 1) (n := 1) rfl (by kernel_rfl) (lay_int (by kernel_rfl)) stable_int lay_fnil))
theorem lay_vertex : LayT enc Tryz.prog W T_api_Vertex RV :=
  lay_struct (ds := [(T_int64, 0), (T_int64, 1), (T_L_api_Edge, 2)]) (by kernel_rfl) (total := 3) (by kernel_rfl)
    (lay_fcons (off := 0) (n := 1) rfl (by kernel_rfl) (lay_int (by kernel_rfl)) stable_int (lay_fcons (off := 1) (n := 1) rfl (by kernel_rfl) (lay_int (by kernel_rfl)) stable_int
      (lay_fcons (off := 2) (n := 1) rfl (by kernel_rfl) (lay_slice (by kernel_rfl) (by kernel_rfl) (by omega) (by kernel_rfl) lay_edge stable_re re_len) (stable_slice stable_re) lay_fnil)))
theorem lay_graph : LayT enc Tryz.prog W T_api_Graph RG :=
  lay_struct (ds := [(T_L_api_Vertex, 0)]) (by kernel_rfl) (total := 1) (by kernel_rfl)
    (lay_fcons (off := 0) (n := 1) rfl (by kernel_rfl) (lay_slice (by kernel_rfl) (by kernel_rfl) (by omega) (by kernel_rfl) lay_vertex stable_rv rv_len) (stable_slice stable_rv) lay_fnil)
end

theorem lt_of_cell {H : AH} (ok : Ok H) {b i : Nat} {v : Value} (h : H.cell b i = some v) : b < H.next := by
  rcases Nat.lt_or_ge b H.next with h1 | h1
  · exact h1
  · have := ok b h1
    unfold AH.cell AH.rd at h
    rw [this] at h; cases h
theorem Sl.into {α β : Type} {sz : Nat} {P : AH → Nat → Nat → α → Prop} {Q : AH → Nat → Nat → β → Prop} {F : Nat → Prop} {H : AH} {f : α → β} {a : Option Addr} {l : Nat} {xs : List α} (h : Sl (fun _ => True) H sz P a l xs)
    (hF : ∀ b o x, P H b o x → F b) (k : ∀ b o x, x ∈ xs → P H b o x → Q H b o (f x)) : Sl F H sz Q a l (xs.map f) := by
  refine ⟨by rw [List.length_map]; exact h.len, fun hp => ⟨(h.base hp).1, ?_⟩, fun i hi => ?_⟩
  · have h1 : 0 < xs.length := by rw [← h.len]; exact hp
    exact hF _ _ _ (h.cells 0 h1)
  · rw [List.length_map] at hi
    rw [List.getElem_map]
    exact k _ _ _ (List.getElem_mem _) (h.cells i hi)
theorem ri_len (H : AH) (cs : List Value) (x : Int) (h : RInt .i64 H cs x) : cs.length = 1 := by
  obtain ⟨rfl, _⟩ := h; rfl
abbrev RJ : AH → List Value → List UInt8 × (List (Int × Int × List (Int × Int × Unit) × Unit) × Unit) × List Int × Int × Int × Int × Unit → Prop :=
  RCons RStr (RCons RG (RCons (RSl 1 8 (RInt .i64)) (RCons (RInt .i64) (RCons (RInt .i64) (RCons (RInt .i64) RNil)))))
theorem stable_ri : Stable (RInt .i64) := stable_int (k := .i64)
theorem stable_rj : Stable RJ := stable_cons stable_str (stable_cons stable_rg (stable_cons (stable_slice stable_ri) (stable_cons stable_int (stable_cons stable_int (stable_cons stable_int stable_nil)))))
section
variable {Hh : Type} {enc : TypeId × Value → Hh} {W : World} [Sy]
theorem lay_job : LayT enc Tryz.prog W T_api_Job RJ :=
  lay_struct (ds := [(T_string, 0), (T_api_Graph, 1), (T_L_int64, 2), (T_int, 3), (T_int, 4), (T_int, 5)]) (by kernel_rfl) (total := 6) (by kernel_rfl)
    (lay_fcons (off := 0) (n := 1) rfl (by kernel_rfl) (lay_str (by kernel_rfl)) stable_str
      (lay_fcons (off := 1) (n := 1) rfl (by kernel_rfl) lay_graph stable_rg
        (lay_fcons (off := 2) (n := 1) rfl (by kernel_rfl) (lay_slice (e := T_int64) (by kernel_rfl) (by kernel_rfl) (by omega) (by kernel_rfl) (lay_int (k := .i64) (by kernel_rfl)) stable_ri ri_len) (stable_slice stable_ri)
          (lay_fcons (off := 3) (n := 1) rfl (by kernel_rfl) (lay_int (by kernel_rfl)) stable_int
            (lay_fcons (off := 4) (n := 1) rfl (by kernel_rfl) (lay_int (by kernel_rfl)) stable_int
              (lay_fcons (off := 5) (n := 1) rfl (by kernel_rfl) (lay_int (by kernel_rfl)) stable_int lay_fnil))))))
end
end Go.Proofs.Cx

namespace Go.Ev
open Go
end Go.Ev
namespace Go.Proofs.Cx
open Go Go.Ev
section
variable {H : AH} {b : Nat} {s bs t : List UInt8} {p : Nat}
end
end Go.Proofs.Cx

namespace Go.Ev
open Go
end Go.Ev
namespace Go.Proofs.Cx
open Go Go.Ev
section
variable {H : AH} {b : Nat} {s bs t : List UInt8} {p : Nat}
end
end Go.Proofs.Cx
