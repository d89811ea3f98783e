/- Jobs that come in. -/
import Derived.Test.YtkegomailfhnpaaGreatB3
import Derived.Test.YtkegomailfhnpaaGreatC7
namespace Go.Proofs.Cx
open Go Go.Ev Go.RowKit

/-! graphs as they come in -/
abbrev RE : AH → List Value → Int × Int × Unit → Prop := RCons (RInt .i64) (RCons (RInt .i64) RNil)
abbrev RV : AH → List Value → Int × Int × List (Int × Int × Unit) × Unit → Prop := RCons (RInt .i64) (RCons (RInt .i64) (RCons (RSl 2 16 RE) RNil))
abbrev RG : AH → List Value → List (Int × Int × List (Int × Int × Unit) × Unit) × Unit → Prop := RCons (RSl 3 40 RV) RNil
theorem stable_re : Stable RE := stable_cons stable_int (stable_cons stable_int stable_nil)
theorem stable_rv : Stable RV := stable_cons stable_int (stable_cons stable_int (stable_cons (stable_slice stable_re) stable_nil))
theorem stable_rg : Stable RG := stable_cons (stable_slice stable_rv) stable_nil
theorem re_len (H : AH) (cs : List Value) (x) (h : RE H cs x) : cs.length = 2 := by
  obtain ⟨c1, c2, rfl, ⟨rfl, _⟩, c3, c4, rfl, ⟨rfl, _⟩, rfl⟩ := h; rfl
theorem rv_len (H : AH) (cs : List Value) (x) (h : RV H cs x) : cs.length = 3 := by
  obtain ⟨c1, c2, rfl, ⟨rfl, _⟩, c3, c4, rfl, ⟨rfl, _⟩, c5, c6, rfl, ⟨a, l, c, rfl, _⟩, rfl⟩ := h; rfl

section
variable {Hh : Type} {enc : TypeId × Value → Hh} {W : World} [Sy]
theorem lay_edge : LayT enc Tryz.prog W T_api_Edge RE :=
  lay_struct (ds := [(T_int64, 0), (T_int64, 1)]) (by kernel_rfl) (total := 2) (by kernel_rfl)
    (lay_fcons (off := 0) (n := 1) rfl (by kernel_rfl) (lay_int (by kernel_rfl)) stable_int (lay_fcons (off := 1) (n := 1) rfl (by kernel_rfl) (lay_int (by kernel_rfl)) stable_int lay_fnil))
theorem lay_vertex : LayT enc Tryz.prog W T_api_Vertex RV :=
  lay_struct (ds := [(T_int64, 0), (T_int64, 1), (T_L_api_Edge, 2)]) (by kernel_rfl) (total := 3) (by kernel_rfl)
    (lay_fcons (off := 0) (n := 1) rfl (by kernel_rfl) (lay_int (by kernel_rfl)) stable_int (lay_fcons (off := 1) (n := 1) rfl (by kernel_rfl) (lay_int (by kernel_rfl)) stable_int
      (lay_fcons (off := 2) (n := 1) rfl (by kernel_rfl) (lay_slice (by kernel_rfl) (by kernel_rfl) (by omega) (by kernel_rfl) lay_edge stable_re re_len) (stable_slice stable_re) lay_fnil)))
theorem lay_graph : LayT enc Tryz.prog W T_api_Graph RG :=
  lay_struct (ds := [(T_L_api_Vertex, 0)]) (by kernel_rfl) (total := 1) (by kernel_rfl)
    (lay_fcons (off := 0) (n := 1) rfl (by kernel_rfl) (lay_slice (by kernel_rfl) (by kernel_rfl) (by omega) (by kernel_rfl) lay_vertex stable_rv rv_len) (stable_slice stable_rv) lay_fnil)
end

def toE (x : Int × Int × Unit) : Int × Int := (x.1, x.2.1)
def toV (x : Int × Int × List (Int × Int × Unit) × Unit) : Vtx := ⟨x.1, x.2.1, x.2.2.1.map toE⟩
theorem lt_of_cell {H : AH} (ok : Ok H) {b i : Nat} {v : Value} (h : H.cell b i = some v) : b < H.next := by
  rcases Nat.lt_or_ge b H.next with h1 | h1
  · exact h1
  · have := ok b h1
    unfold AH.cell AH.rd at h
    rw [this] at h; cases h
theorem Sl.into {α β : Type} {sz : Nat} {P : AH → Nat → Nat → α → Prop} {Q : AH → Nat → Nat → β → Prop} {F : Nat → Prop} {H : AH} {f : α → β} {a : Option Addr} {l : Nat} {xs : List α} (h : Sl (fun _ => True) H sz P a l xs)
    (hF : ∀ b o x, P H b o x → F b) (k : ∀ b o x, x ∈ xs → P H b o x → Q H b o (f x)) : Sl F H sz Q a l (xs.map f) := by
  refine ⟨by rw [List.length_map]; exact h.len, fun hp => ⟨(h.base hp).1, ?_⟩, fun i hi => ?_⟩
  · have h1 : 0 < xs.length := by rw [← h.len]; exact hp
    exact hF _ _ _ (h.cells 0 h1)
  · rw [List.length_map] at hi
    rw [List.getElem_map]
    exact k _ _ _ (List.getElem_mem _) (h.cells i hi)
theorem i64_wf {x : Int} (h : (Lit.int .i64 x).wf = true) : I64 x := by
  simp only [Lit.wf, Bool.and_eq_true, decide_eq_true_eq] at h
  have h1 : IntKind.i64.min = -9223372036854775808 := by decide
  have h2 : IntKind.i64.max = 9223372036854775807 := by decide
  rw [h1, h2] at h
  exact h
theorem graph_inj {H : AH} (ok : Ok H) {a : Option Addr} {l : Nat} {xs : List (Int × Int × List (Int × Int × Unit) × Unit)} (h : Sl (fun _ => True) H 3 (PCs RV) a l xs) (hb : xs.length * 40 ≤ 140737488351232) :
    SlV (fun b => b < H.next) H a l (xs.map toV) ∧ Fit (xs.map toV) ∧ ∀ v ∈ xs.map toV, I64 v.id ∧ I64 v.val ∧ ∀ e ∈ v.edges, PairI e := by
  have edge : ∀ b o x, PCs RE H b o x → PEdge H b o (toE x) ∧ PairI (toE x) := by
    rintro b o x ⟨cs, hc, c1, c2, rfl, ⟨rfl, w1⟩, c3, c4, rfl, ⟨rfl, w2⟩, rfl⟩
    exact ⟨⟨by simpa [toE, toV] using hc 0 _ rfl, by simpa [toE, toV] using hc 1 _ rfl⟩, i64_wf w1, i64_wf w2⟩
  have vtx : ∀ b o x, PCs RV H b o x → PVtx (fun b => b < H.next) H b o (toV x) ∧ x.2.2.1.length * 16 ≤ 140737488351232 ∧ I64 (toV x).id ∧ I64 (toV x).val ∧ ∀ e ∈ (toV x).edges, PairI e := by
    rintro b o x ⟨cs, hc, c1, c2, rfl, ⟨rfl, w1⟩, c3, c4, rfl, ⟨rfl, w2⟩, c5, c6, rfl, ⟨ea, el, ec, rfl, he, hn⟩, rfl⟩
    refine ⟨⟨by simpa [toE, toV] using hc 0 _ rfl, by simpa [toE, toV] using hc 1 _ rfl, ea, el, ec, by simpa using hc 2 _ rfl, ?_⟩, hn, i64_wf w1, i64_wf w2, ?_⟩
    · exact Sl.into he (fun b o x hx => lt_of_cell ok (edge b o x hx).1.1) (fun b o x _ hx => (edge b o x hx).1)
    · intro e he2
      simp only [toV] at he2
      obtain ⟨y, hy, rfl⟩ := List.mem_map.1 he2
      obtain ⟨i, hi, rfl⟩ := List.getElem_of_mem hy
      exact (edge _ _ _ (he.cells i hi)).2
  refine ⟨Sl.into h (fun b o x hx => lt_of_cell ok (vtx b o x hx).1.1) (fun b o x _ hx => (vtx b o x hx).1), ⟨by rw [List.length_map]; omega, ?_⟩, ?_⟩
  · intro v hv
    obtain ⟨x, hx, rfl⟩ := List.mem_map.1 hv
    obtain ⟨i, hi, rfl⟩ := List.getElem_of_mem hx
    have := (vtx _ _ _ (h.cells i hi)).2.1
    simp only [toV, List.length_map]
    omega
  · intro v hv
    obtain ⟨x, hx, rfl⟩ := List.mem_map.1 hv
    obtain ⟨i, hi, rfl⟩ := List.getElem_of_mem hx
    exact (vtx _ _ _ (h.cells i hi)).2.2
theorem ri_len (H : AH) (cs : List Value) (x : Int) (h : RInt .i64 H cs x) : cs.length = 1 := by
  obtain ⟨rfl, _⟩ := h; rfl
theorem ints_in {H : AH} (ok : Ok H) {a : Option Addr} {l : Nat} {xs : List Int} (h : Sl (fun _ => True) H 1 (PCs (RInt .i64)) a l xs) : SlI (fun b => b < H.next) H a l xs ∧ ∀ x ∈ xs, I64 x := by
  have one : ∀ b o x, PCs (RInt .i64) H b o x → PInt .i64 H b o x ∧ I64 x := by
    rintro b o x ⟨cs, hc, rfl, w⟩
    exact ⟨hc 0 _ rfl, i64_wf w⟩
  refine ⟨?_, fun x hx => ?_⟩
  · have := Sl.into (f := fun x : Int => x) (Q := PInt .i64) h (fun b o x hx => lt_of_cell ok (one b o x hx).1) (fun b o x _ hx => (one b o x hx).1)
    rwa [List.map_id'] at this
  · obtain ⟨i, hi, rfl⟩ := List.getElem_of_mem hx
    exact (one _ _ _ (h.cells i hi)).2
abbrev RJ : AH → List Value → List UInt8 × (List (Int × Int × List (Int × Int × Unit) × Unit) × Unit) × List Int × Int × Int × Int × Unit → Prop :=
  RCons RStr (RCons RG (RCons (RSl 1 8 (RInt .i64)) (RCons (RInt .i64) (RCons (RInt .i64) (RCons (RInt .i64) RNil)))))
theorem stable_ri : Stable (RInt .i64) := stable_int (k := .i64)
theorem stable_rj : Stable RJ := stable_cons stable_str (stable_cons stable_rg (stable_cons (stable_slice stable_ri) (stable_cons stable_int (stable_cons stable_int (stable_cons stable_int stable_nil)))))
section
variable {Hh : Type} {enc : TypeId × Value → Hh} {W : World} [Sy]
theorem lay_job : LayT enc Tryz.prog W T_api_Job RJ :=
  lay_struct (ds := [(T_string, 0), (T_api_Graph, 1), (T_L_int64, 2), (T_int, 3), (T_int, 4), (T_int, 5)]) (by kernel_rfl) (total := 6) (by kernel_rfl)
    (lay_fcons (off := 0) (n := 1) rfl (by kernel_rfl) (lay_str (by kernel_rfl)) stable_str
      (lay_fcons (off := 1) (n := 1) rfl (by kernel_rfl) lay_graph stable_rg
        (lay_fcons (off := 2) (n := 1) rfl (by kernel_rfl) (lay_slice (e := T_int64) (by kernel_rfl) (by kernel_rfl) (by omega) (by kernel_rfl) (lay_int (k := .i64) (by kernel_rfl)) stable_ri ri_len) (stable_slice stable_ri)
          (lay_fcons (off := 3) (n := 1) rfl (by kernel_rfl) (lay_int (by kernel_rfl)) stable_int
            (lay_fcons (off := 4) (n := 1) rfl (by kernel_rfl) (lay_int (by kernel_rfl)) stable_int
              (lay_fcons (off := 5) (n := 1) rfl (by kernel_rfl) (lay_int (by kernel_rfl)) stable_int lay_fnil))))))
end
/-- the law of whatever comes in -/
theorem law_in {H : AH} {vs : List Value} {x : List UInt8 × (List (Int × Int × List (Int × Int × Unit) × Unit) × Unit) × List Int × Int × Int × Int × Unit} {cs : List Value} {s : List UInt8} (ok : Ok H) (hv : vs = [.agg ⟨cs⟩, .string ⟨⟨s⟩⟩]) (hJ : RJ H cs x) (hs : s.length ≤ 140737488351232) :
    FW Ee F_cohortlaw09_RunJobs vs H fun r H' => r = .bool true ∧ Grow H H' := by
  subst hv
  obtain ⟨c1, c2, rfl, ⟨rfl, _⟩, c3, c4, rfl, ⟨c5, c6, rfl, ⟨a, l, c, rfl, hG, hb⟩, rfl⟩, c7, c8, rfl, ⟨pa, pl, pc, rfl, hP, _⟩, c9, c10, rfl, ⟨rfl, _⟩, c11, c12, rfl, ⟨rfl, _⟩, c13, c14, rfl, ⟨rfl, _⟩, rfl⟩ := hJ
  obtain ⟨h1, h2, h3⟩ := graph_inj ok hG hb
  obtain ⟨h4, h5⟩ := ints_in ok hP
  exact law_runjobs (j := ⟨x.1, x.2.1.1.map toV, x.2.2.1, x.2.2.2.1, x.2.2.2.2.1, x.2.2.2.2.2.1⟩) (c := c) (pc := pc) ok h1 (fun b h => h) h2 h4 (fun b h => h) ⟨h3, h5⟩ (by omega)
end Go.Proofs.Cx
