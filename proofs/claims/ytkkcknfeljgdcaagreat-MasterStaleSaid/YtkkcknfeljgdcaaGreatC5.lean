/- Jobs that come in. Aggregates, reports: what is put is taken. Reports: what is put is taken. Tasks: what is put is taken. Tasks that are taken. -/
import Derived.Test.YtkkcknfeljgdcaaGreatB3
import Derived.Test.YtkkcknfeljgdcaaGreatC4
import Derived.Test.YtkkcknfeljgdcaaGreatVc1
namespace Go.Proofs.Cx
open Go Go.Ev Go.RowKit

/-! graphs as they come in -/
abbrev RE : AH → List Value → Int × Int × Unit → Prop := RCons (RInt .i64) (RCons (RInt .i64) RNil)
abbrev RV : AH → List Value → Int × Int × List (Int × Int × Unit) × Unit → Prop := RCons (RInt .i64) (RCons (RInt .i64) (RCons (RSl 2 16 RE) RNil))
abbrev RG : AH → List Value → List (Int × Int × List (Int × Int × Unit) × Unit) × Unit → Prop := RCons (RSl 3 40 RV) RNil
theorem stable_re : Stable RE := stable_cons stable_int (stable_cons stable_int stable_nil)
theorem stable_rv : Stable RV := stable_cons stable_int (stable_cons stable_int (stable_cons (stable_slice stable_re) stable_nil))
theorem stable_rg : Stable RG := stable_cons (stable_slice stable_rv) stable_nil
theorem re_len (H : AH) (cs : List Value) (x) (h : RE H cs x) : cs.length = 2 := by
  obtain ⟨c1, c2, rfl, ⟨rfl, _⟩, c3, c4, rfl, ⟨rfl, _⟩, rfl⟩ := h; rfl
theorem rv_len (H : AH) (cs : List Value) (x) (h : RV H cs x) : cs.length = 3 := by
  obtain ⟨c1, c2, rfl, ⟨rfl, _⟩, c3, c4, rfl, ⟨rfl, _⟩, c5, c6, rfl, ⟨a, l, c, rfl, _⟩, rfl⟩ := h; rfl

section
variable {Hh : Type} {enc : TypeId × Value → Hh} {W : World} [Sy]
theorem lay_edge : LayT enc Tryz.prog W T_api_Edge RE :=
  lay_struct (ds := [(T_int64, 0), (T_int64, 1)]) (by kernel_rfl) (total := 2) (by kernel_rfl)
    (lay_fcons (off := 0) (n := 1) rfl (by kernel_rfl) (lay_int (by kernel_rfl)) stable_int (lay_fcons (off := 1) (n := 1) rfl (by kernel_rfl) (lay_int (by kernel_rfl)) stable_int lay_fnil))
theorem lay_vertex : LayT enc Tryz.prog W T_api_Vertex RV :=
  lay_struct (ds := [(T_int64, 0), (T_int64, 1), (T_L_api_Edge, 2)]) (by kernel_rfl) (total := 3) (by kernel_rfl)
    (lay_fcons (off := 0) (n := 1) rfl (by kernel_rfl) (lay_int (by kernel_rfl)) stable_int (lay_fcons (off := 1) (n := 1) rfl (by kernel_rfl) (lay_int (by kernel_rfl)) stable_int
      (lay_fcons (off := 2) (n := 1) rfl (by kernel_rfl) (lay_slice (by kernel_rfl) (by kernel_rfl) (by omega) (by kernel_rfl) lay_edge stable_re re_len) (stable_slice stable_re) lay_fnil)))
theorem lay_graph : LayT enc Tryz.prog W T_api_Graph RG :=
  lay_struct (ds := [(T_L_api_Vertex, 0)]) (by kernel_rfl) (total := 1) (by kernel_rfl)
    (lay_fcons (off := 0) (n := 1) rfl (by kernel_rfl) (lay_slice (by kernel_rfl) (by kernel_rfl) (by omega) (by kernel_rfl) lay_vertex stable_rv rv_len) (stable_slice stable_rv) lay_fnil)
end

def toE (x : Int × Int × Unit) : Int × Int := (x.1, x.2.1)
def toV (x : Int × Int × List (Int × Int × Unit) × Unit) : Vtx := ⟨x.1, x.2.1, x.2.2.1.map toE⟩
theorem lt_of_cell {H : AH} (ok : Ok H) {b i : Nat} {v : Value} (h : H.cell b i = some v) : b < H.next := by
  rcases Nat.lt_or_ge b H.next with h1 | h1
  · exact h1
  · have := ok b h1
    unfold AH.cell AH.rd at h
    rw [this] at h; cases h
theorem Sl.into {α β : Type} {sz : Nat} {P : AH → Nat → Nat → α → Prop} {Q : AH → Nat → Nat → β → Prop} {F : Nat → Prop} {H : AH} {f : α → β} {a : Option Addr} {l : Nat} {xs : List α} (h : Sl (fun _ => True) H sz P a l xs)
    (hF : ∀ b o x, P H b o x → F b) (k : ∀ b o x, x ∈ xs → P H b o x → Q H b o (f x)) : Sl F H sz Q a l (xs.map f) := by
  refine ⟨by rw [List.length_map]; exact h.len, fun hp => ⟨(h.base hp).1, ?_⟩, fun i hi => ?_⟩
  · have h1 : 0 < xs.length := by rw [← h.len]; exact hp
    exact hF _ _ _ (h.cells 0 h1)
  · rw [List.length_map] at hi
    rw [List.getElem_map]
    exact k _ _ _ (List.getElem_mem _) (h.cells i hi)
theorem i64_wf {x : Int} (h : (Lit.int .i64 x).wf = true) : I64 x := by
  simp only [Lit.wf, Bool.and_eq_true, decide_eq_true_eq] at h
  have h1 : IntKind.i64.min = -9223372036854775808 := by decide
  have h2 : IntKind.i64.max = 9223372036854775807 := by decide
  rw [h1, h2] at h
  exact h
theorem graph_inj {H : AH} (ok : Ok H) {a : Option Addr} {l : Nat} {xs : List (Int × Int × List (Int × Int × Unit) × Unit)} (h : Sl (fun _ => True) H 3 (PCs RV) a l xs) (hb : xs.length * 40 ≤ 140737488351232) :
    SlV (fun b => b < H.next) H a l (xs.map toV) ∧ Fit (xs.map toV) ∧ ∀ v ∈ xs.map toV, I64 v.id ∧ I64 v.val ∧ ∀ e ∈ v.edges, PairI e := by
  have edge : ∀ b o x, PCs RE H b o x → PEdge H b o (toE x) ∧ PairI (toE x) := by
    rintro b o x ⟨cs, hc, c1, c2, rfl, ⟨rfl, w1⟩, c3, c4, rfl, ⟨rfl, w2⟩, rfl⟩
    exact ⟨⟨by simpa [toE, toV] using hc 0 _ rfl, by simpa [toE, toV] using hc 1 _ rfl⟩, i64_wf w1, i64_wf w2⟩
  have vtx : ∀ b o x, PCs RV H b o x → PVtx (fun b => b < H.next) H b o (toV x) ∧ x.2.2.1.length * 16 ≤ 140737488351232 ∧ I64 (toV x).id ∧ I64 (toV x).val ∧ ∀ e ∈ (toV x).edges, PairI e := by
    rintro b o x ⟨cs, hc, c1, c2, rfl, ⟨rfl, w1⟩, c3, c4, rfl, ⟨rfl, w2⟩, c5, c6, rfl, ⟨ea, el, ec, rfl, he, hn, _⟩, rfl⟩
    refine ⟨⟨by simpa [toE, toV] using hc 0 _ rfl, by simpa [toE, toV] using hc 1 _ rfl, ea, el, ec, by simpa using hc 2 _ rfl, ?_⟩, hn, i64_wf w1, i64_wf w2, ?_⟩
    · exact Sl.into he (fun b o x hx => lt_of_cell ok (edge b o x hx).1.1) (fun b o x _ hx => (edge b o x hx).1)
    · intro e he2
      simp only [toV] at he2
      obtain ⟨y, hy, rfl⟩ := List.mem_map.1 he2
      obtain ⟨i, hi, rfl⟩ := List.getElem_of_mem hy
      exact (edge _ _ _ (he.cells i hi)).2
  refine ⟨Sl.into h (fun b o x hx => lt_of_cell ok (vtx b o x hx).1.1) (fun b o x _ hx => (vtx b o x hx).1), ⟨by rw [List.length_map]; omega, ?_⟩, ?_⟩
  · intro v hv
    obtain ⟨x, hx, rfl⟩ := List.mem_map.1 hv
    obtain ⟨i, hi, rfl⟩ := List.getElem_of_mem hx
    have := (vtx _ _ _ (h.cells i hi)).2.1
    simp only [toV, List.length_map]
    omega
  · intro v hv
    obtain ⟨x, hx, rfl⟩ := List.mem_map.1 hv
    obtain ⟨i, hi, rfl⟩ := List.getElem_of_mem hx
    exact (vtx _ _ _ (h.cells i hi)).2.2
theorem ri_len (H : AH) (cs : List Value) (x : Int) (h : RInt .i64 H cs x) : cs.length = 1 := by
  obtain ⟨rfl, _⟩ := h; rfl
theorem ints_in {H : AH} (ok : Ok H) {a : Option Addr} {l : Nat} {xs : List Int} (h : Sl (fun _ => True) H 1 (PCs (RInt .i64)) a l xs) : SlI (fun b => b < H.next) H a l xs ∧ ∀ x ∈ xs, I64 x := by
  have one : ∀ b o x, PCs (RInt .i64) H b o x → PInt .i64 H b o x ∧ I64 x := by
    rintro b o x ⟨cs, hc, rfl, w⟩
    exact ⟨hc 0 _ rfl, i64_wf w⟩
  refine ⟨?_, fun x hx => ?_⟩
  · have := Sl.into (f := fun x : Int => x) (Q := PInt .i64) h (fun b o x hx => lt_of_cell ok (one b o x hx).1) (fun b o x _ hx => (one b o x hx).1)
    rwa [List.map_id'] at this
  · obtain ⟨i, hi, rfl⟩ := List.getElem_of_mem hx
    exact (one _ _ _ (h.cells i hi)).2
abbrev RJ : AH → List Value → List UInt8 × (List (Int × Int × List (Int × Int × Unit) × Unit) × Unit) × List Int × Int × Int × Int × Unit → Prop :=
  RCons RStr (RCons RG (RCons (RSl 1 8 (RInt .i64)) (RCons (RInt .i64) (RCons (RInt .i64) (RCons (RInt .i64) RNil)))))
theorem stable_ri : Stable (RInt .i64) := stable_int (k := .i64)
theorem stable_rj : Stable RJ := stable_cons stable_str (stable_cons stable_rg (stable_cons (stable_slice stable_ri) (stable_cons stable_int (stable_cons stable_int (stable_cons stable_int stable_nil)))))
section
variable {Hh : Type} {enc : TypeId × Value → Hh} {W : World} [Sy]
theorem lay_job : LayT enc Tryz.prog W T_api_Job RJ :=
  lay_struct (ds := [(T_string, 0), (T_api_Graph, 1), (T_L_int64, 2), (T_int, 3), (T_int, 4), (T_int, 5)]) (by kernel_rfl) (total := 6) (by kernel_rfl)
    (lay_fcons (off := 0) (n := 1) rfl (by kernel_rfl) (lay_str (by kernel_rfl)) stable_str
      (lay_fcons (off := 1) (n := 1) rfl (by kernel_rfl) lay_graph stable_rg
        (lay_fcons (off := 2) (n := 1) rfl (by kernel_rfl) (lay_slice (e := T_int64) (by kernel_rfl) (by kernel_rfl) (by omega) (by kernel_rfl) (lay_int (k := .i64) (by kernel_rfl)) stable_ri ri_len) (stable_slice stable_ri)
          (lay_fcons (off := 3) (n := 1) rfl (by kernel_rfl) (lay_int (by kernel_rfl)) stable_int
            (lay_fcons (off := 4) (n := 1) rfl (by kernel_rfl) (lay_int (by kernel_rfl)) stable_int
              (lay_fcons (off := 5) (n := 1) rfl (by kernel_rfl) (lay_int (by kernel_rfl)) stable_int lay_fnil))))))
end
end Go.Proofs.Cx

namespace Go.Ev
open Go
def aC (h : Nat → Bool) (v : Nat → Int) : List Value := [.bool (h 0), .bool (h 1), .bool (h 2), .bool (h 3), .bool (h 4), .int .i64 (v 0), .int .i64 (v 1), .int .i64 (v 2), .int .i64 (v 3), .int .i64 (v 4)]
def stepB (h : Nat → Bool) (v : Nat → Int) (i : Nat) : List UInt8 := cond (h i) (enc 1 ++ sgB (v i)) (enc 0)
def aggL (h : Nat → Bool) (v : Nat → Int) : Nat → Nat → List UInt8
  | 0, _ => []
  | k + 1, i => stepB h v i ++ aggL h v k (i + 1)
def aggB (h : Nat → Bool) (v : Nat → Int) : List UInt8 := aggL h v 5 0
theorem aggL_len {h : Nat → Bool} {v : Nat → Int} (hv : ∀ i, I64 (v i)) : ∀ k i, (aggL h v k i).length ≤ k * 20
  | 0, _ => by simp [aggL]
  | k + 1, i => by
    have h1 := aggL_len (h := h) hv k (i + 1)
    have h2 := enc_len64 (fold_lt (hv i))
    have h3 := enc_len64 (show 1 < 18446744073709551616 by omega)
    have h4 := enc_len64 (show 0 < 18446744073709551616 by omega)
    unfold aggL stepB sgB
    rw [List.length_append]
    cases h i
    · simp only [cond_false]; omega
    · simp only [cond_true, List.length_append]; omega
theorem five {i : Nat} (h : i < 5) : i = 0 ∨ i = 1 ∨ i = 2 ∨ i = 3 ∨ i = 4 := by omega
end Go.Ev
namespace Go.Proofs.Cx
open Go Go.Ev
section
variable {H : AH} {b : Nat} {s bs t : List UInt8} {p : Nat}
theorem yw_bool {n0 : Nat} {x : Bool} (ok : Ok H) (h : Wr H n0 b bs) (hs : bs.length ≤ 140737488355000) :
    FW Ee F_wire_Writer_Bool [.pointer (some ⟨b, 0, none⟩), .bool x] H fun r H' => r = .tuple ⟨[]⟩ ∧ Wr H' n0 b (bs ++ enc (cond x 1 0)) ∧ WrX H b H' := by
  refine fw_wire_Writer_Bool ?_
  cases x
  · refine cond_neg rfl ((yw_number (n := 0) ok h (by omega) hs).mono ?_)
    rintro _ H2 ⟨rfl, h2⟩
    exact ⟨rfl, rfl, h2⟩
  · refine cond_pos rfl ((yw_number (n := 1) ok h (by omega) hs).mono ?_)
    rintro _ H2 ⟨rfl, h2⟩
    exact ⟨rfl, rfl, h2⟩
set_option maxRecDepth 100000 in
theorem idx5 {b0 b1 b2 b3 b4 : Bool} (h : Nat → Bool) (e : [b0, b1, b2, b3, b4] = [h 0, h 1, h 2, h 3, h 4]) {i : Nat} (hi : i < 5) : indexv Ee T_5_bool (.agg ⟨[.bool b0, .bool b1, .bool b2, .bool b3, .bool b4]⟩) (.int .i64 (i : Int)) = some (.bool (h i)) := by
  cases e
  rcases five hi with rfl | rfl | rfl | rfl | rfl <;> kernel_rfl
theorem aC_v {h : Nat → Bool} {v : Nat → Int} {i : Nat} (hi : i < 5) : (aC h v)[5 + i]? = some (.int .i64 (v i)) := by
  rcases five hi with rfl | rfl | rfl | rfl | rfl <;> rfl
theorem putagg_ok {n0 : Nat} {h : Nat → Bool} {v : Nat → Int} (hv : ∀ i, I64 (v i)) (ok : Ok H) (hw : Wr H n0 b bs) (hs : bs.length ≤ 140737488354000) :
    FW Ee F_agg_Put [.pointer (some ⟨b, 0, none⟩), .agg ⟨aC h v⟩] H fun r H' => r = .tuple ⟨[]⟩ ∧ Wr H' n0 b (bs ++ aggB h v) ∧ WrX H b H' := by
  refine fw_agg_Put ?_
  intro H1 e1
  obtain ⟨g1, b1, n1⟩ := new_job ok e1
  have b1 : H1.get H.next = some (.cells (aC h v) 0) := b1
  have x0 := WrX.grow ok hw g1
  have w1 := hw.grow g1
  have o1 : ¬ WrS H1 b H.next := hw.new ok g1 (Nat.le_refl _)
  refine ⟨_, _, _, _, _, cell_of b1 rfl, cell_of b1 rfl, cell_of b1 rfl, cell_of b1 rfl, cell_of b1 rfl, ?_⟩
  refine ⟨fun m t Hb => ∃ (i : Nat) (cs : List UInt8), t = i ∧ i ≤ 5 ∧ m = 5 - i ∧ Wr Hb n0 b (bs ++ cs) ∧ cs ++ aggL h v (5 - i) i = aggB h v ∧ WrX H1 b Hb, ⟨_, 0, [], rfl, by omega, rfl, by simpa using w1, rfl, WrX.grow g1.ok w1 (.refl g1.ok)⟩, ?_⟩
  rintro m t H2 ⟨i, cs, rfl, hi, rfl, w2, hcs, x2⟩
  have htot := aggL_len (h := h) hv 5 0
  have hl := congrArg List.length hcs
  rw [List.length_append] at hl
  refine cond_dec (fun hlt => ?_) (fun hge => ?_)
  · have hi5 : i < 5 := by omega
    have hbl : (bs ++ cs).length ≤ 140737488354200 := by rw [List.length_append]; unfold aggB at hl; omega
    have hstep : aggL h v (5 - i) i = stepB h v i ++ aggL h v (5 - (i + 1)) (i + 1) := by
      rw [show 5 - i = 5 - (i + 1) + 1 from by omega]; rfl
    refine ⟨h i, idx5 h rfl hi5, (yw_bool (x := h i) x2.mod.ok w2 (by omega)).mono ?_⟩
    rintro _ H3 ⟨rfl, w3, x3⟩
    have x13 := x2.trans g1.ok x3
    refine ⟨rfl, cond_intro (fun hh => ?_) (fun hh => ?_)⟩
    · refine ⟨by omega, by omega, v i, ?_, ?_⟩
      · rw [show 5 + ((i : Nat) : Int).toNat * 1 = 5 + i from by omega]
        exact cell_of (x13.mod.get _ _ o1 b1) (aC_v hi5)
      have k1 := enc_len64 (show cond (h i) 1 0 < 18446744073709551616 by cases h i <;> simp)
      refine (yw_signed x3.mod.ok w3 (hv i) (by rw [List.length_append]; omega)).mono ?_
      rintro _ H4 ⟨rfl, w4, x4⟩
      refine ⟨rfl, ?_⟩
      intro t22 e22
      rw [wrap_i64 (by omega) (by omega)] at e22
      subst e22
      refine ⟨5 - (i + 1), by omega, i + 1, cs ++ stepB h v i, by simp, by omega, rfl, ?_, ?_, x13.trans g1.ok x4⟩
      · unfold stepB
        rw [hh] at w4 ⊢
        simpa only [cond_true, List.append_assoc] using w4
      · rw [List.append_assoc, ← hstep]; exact hcs
    · intro t22 e22
      rw [wrap_i64 (by omega) (by omega)] at e22
      subst e22
      refine ⟨5 - (i + 1), by omega, i + 1, cs ++ stepB h v i, by simp, by omega, rfl, ?_, ?_, x13⟩
      · unfold stepB
        rw [hh] at w3 ⊢
        simpa only [cond_false, List.append_assoc] using w3
      · rw [List.append_assoc, ← hstep]; exact hcs
  · have hi5 : i = 5 := by omega
    subst hi5
    refine ⟨rfl, ?_, x0.trans ok x2⟩
    have : cs = aggB h v := by rw [← hcs]; simp [aggL]
    rw [← this]; exact w2
end
end Go.Proofs.Cx

namespace Go.Ev
open Go
def repC (f : Nat → Int) (h : Nat → Bool) (v : Nat → Int) (a : Option Addr) (l c : Nat) : List Value :=
  [.int .i64 (f 0), .int .i64 (f 1), .int .i64 (f 2), .int .i64 (f 3), .int .i64 (f 4), .int .i64 (f 5), .int .i64 (f 6), .int .i64 (f 7), .int .i64 (f 8), .bool (h 0), .bool (h 1), .bool (h 2), .bool (h 3), .bool (h 4), .int .i64 (v 0), .int .i64 (v 1), .int .i64 (v 2), .int .i64 (v 3), .int .i64 (v 4), .slice a l c]
end Go.Ev
namespace Go.Proofs.Cx
open Go Go.Ev
section
variable {H : AH} {b : Nat} {s bs t : List UInt8} {p : Nat}
end
end Go.Proofs.Cx

namespace Go.Ev
open Go
abbrev Sl3 := Option Addr × Nat × Nat
def nil3 : Sl3 := (none, 0, 0)
def sv (x : Sl3) : Value := .slice x.1 x.2.1 x.2.2
def zjw : JobW := ⟨[], [], [], 0, 0, 0⟩
structure TaskW where
  f : Nat → Int
  L : Nat → List Int
  h : Nat → Bool
  v : Nat → Int
  j : JobW
  k : Bool
def tskC (f : Nat → Int) (s : Nat → Sl3) (j : JobW) (a : Option Addr) (l c : Nat) (pa : Option Addr) (pl pc : Nat) (h : Nat → Bool) (v : Nat → Int) (k : Bool) : List Value :=
  [.int .i64 (f 0), .int .i64 (f 1), .int .i64 (f 2), .int .i64 (f 3), sv (s 0), sv (s 1), .string ⟨⟨j.prog⟩⟩, .slice a l c, .slice pa pl pc, .int .i64 j.steps, .int .i64 j.sent, .int .i64 j.parts, .bool (h 0), .bool (h 1), .bool (h 2), .bool (h 3), .bool (h 4), .int .i64 (v 0), .int .i64 (v 1), .int .i64 (v 2), .int .i64 (v 3), .int .i64 (v 4), .int .i64 (f 4), .int .i64 (f 5), .int .i64 (f 6), .bool k]
end Go.Ev
namespace Go.Proofs.Cx
open Go Go.Ev
section
variable {H : AH} {b : Nat} {s bs t : List UInt8} {p : Nat}
end
end Go.Proofs.Cx

namespace Go.Proofs.Cx
open Go Go.Ev
section
variable {H : AH} {b : Nat} {s bs t : List UInt8} {p : Nat}
end
end Go.Proofs.Cx
