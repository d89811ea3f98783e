/- Jobs are taken, as the document has it. RunJobs: the law, as formulas have it. Jobs that come in. Aggregates, reports: what is put is taken. Reports: what is put is taken. -/
import Derived.Test.YtkkcknfeljgdcaaGreatC3
import Derived.Test.YtkkcknfeljgdcaaGreatB3
import Derived.Test.YtkkcknfeljgdcaaGreatVc5
namespace Go.Proofs.Cx
open Go Go.Ev
end Go.Proofs.Cx

namespace Go.Ev
open Go
theorem WrS.not {H : AH} {b x : Nat} {a : Option Addr} {l c : Nat} (h : H.get b = some (.cells [.slice a l c] 0)) (k : ¬ WrS H b x) : x ≠ b ∧ Off a x :=
  ⟨fun e => k (.inl e), Classical.byContradiction fun ho => k (.inr ⟨a, l, c, h, ho⟩)⟩
end Go.Ev
namespace Go.Proofs.Cx
open Go Go.Ev

end Go.Proofs.Cx

namespace Go.Proofs.Cx
open Go Go.Ev Go.RowKit

/-! graphs as they come in -/
abbrev RE : AH → List Value → Int × Int × Unit → Prop := RCons (RInt .i64) (RCons (RInt .i64) RNil)
abbrev RV : AH → List Value → Int × Int × List (Int × Int × Unit) × Unit → Prop := RCons (RInt .i64) (RCons (RInt .i64) (RCons (RSl 2 16 RE) RNil))
abbrev RG : AH → List Value → List (Int × Int × List (Int × Int × Unit) × Unit) × Unit → Prop := RCons (RSl 3 40 RV) RNil
theorem stable_re : Stable RE := stable_cons stable_int (stable_cons stable_int stable_nil)
theorem stable_rv : Stable RV := stable_cons stable_int (stable_cons stable_int (stable_cons (stable_slice stable_re) stable_nil))
theorem stable_rg : Stable RG := stable_cons (stable_slice stable_rv) stable_nil
theorem re_len (H : AH) (cs : List Value) (x) (h : RE H cs x) : cs.length = 2 := by
  obtain ⟨c1, c2, rfl, ⟨rfl, _⟩, c3, c4, rfl, ⟨rfl, _⟩, rfl⟩ := h; rfl
theorem rv_len (H : AH) (cs : List Value) (x) (h : RV H cs x) : cs.length = 3 := by
  obtain ⟨c1, c2, rfl, ⟨rfl, _⟩, c3, c4, rfl, ⟨rfl, _⟩, c5, c6, rfl, ⟨a, l, c, rfl, _⟩, rfl⟩ := h; rfl

section
variable {Hh : Type} {enc : TypeId × Value → Hh} {W : World} [Sy]
theorem lay_edge : LayT enc Tryz.prog W T_api_Edge RE :=
  lay_struct (ds := [(T_int64, 0), (T_int64, 1)]) (by kernel_rfl) (total := 2) (by kernel_rfl)
    (lay_fcons (off := 0) (n := 1) rfl (by kernel_rfl) (lay_int (by kernel_rfl)) stable_int (lay_fcons (off := 1) (n := 1) rfl (by kernel_rfl) (lay_int (by kernel_rfl)) stable_int lay_fnil))
theorem lay_vertex : LayT enc Tryz.prog W T_api_Vertex RV :=
  lay_struct (ds := [(T_int64, 0), (T_int64, 1), (T_L_api_Edge, 2)]) (by kernel_rfl) (total := 3) (by kernel_rfl)
    (lay_fcons (off := 0) (n := 1) rfl (by kernel_rfl) (lay_int (by kernel_rfl)) stable_int (lay_fcons (off := 1) (n := 1) rfl (by kernel_rfl) (lay_int (by kernel_rfl)) stable_int
      (lay_fcons (off := 2) (n := 1) rfl (by kernel_rfl) (lay_slice (by kernel_rfl) (by kernel_rfl) (by omega) (by kernel_rfl) lay_edge stable_re re_len) (stable_slice stable_re) lay_fnil)))
theorem lay_graph : LayT enc Tryz.prog W T_api_Graph RG :=
  lay_struct (ds := [(T_L_api_Vertex, 0)]) (by kernel_rfl) (total := 1) (by kernel_rfl)
    (lay_fcons (off := 0) (n := 1) rfl (by kernel_rfl) (lay_slice (by kernel_rfl) (by kernel_rfl) (by omega) (by kernel_rfl) lay_vertex stable_rv rv_len) (stable_slice stable_rv) lay_fnil)
end

def toE (x : Int × Int × Unit) : Int × Int := (x.1, x.2.1)
def toV (x : Int × Int × List (Int × Int × Unit) × Unit) : Vtx := ⟨x.1, x.2.1, x.2.2.1.map toE⟩
theorem lt_of_cell {H : AH} (ok : Ok H) {b i : Nat} {v : Value} (h : H.cell b i = some v) : b < H.next := by
  rcases Nat.lt_or_ge b H.next with h1 | h1
  · exact h1
  · have := ok b h1
    unfold AH.cell AH.rd at h
    rw [this] at h; cases h
theorem Sl.into {α β : Type} {sz : Nat} {P : AH → Nat → Nat → α → Prop} {Q : AH → Nat → Nat → β → Prop} {F : Nat → Prop} {H : AH} {f : α → β} {a : Option Addr} {l : Nat} {xs : List α} (h : Sl (fun _ => True) H sz P a l xs)
    (hF : ∀ b o x, P H b o x → F b) (k : ∀ b o x, x ∈ xs → P H b o x → Q H b o (f x)) : Sl F H sz Q a l (xs.map f) := by
  refine ⟨by rw [List.length_map]; exact h.len, fun hp => ⟨(h.base hp).1, ?_⟩, fun i hi => ?_⟩
  · have h1 : 0 < xs.length := by rw [← h.len]; exact hp
    exact hF _ _ _ (h.cells 0 h1)
  · rw [List.length_map] at hi
    rw [List.getElem_map]
    exact k _ _ _ (List.getElem_mem _) (h.cells i hi)
theorem i64_wf {x : Int} (h : (Lit.int .i64 x).wf = true) : I64 x := by
  simp only [Lit.wf, Bool.and_eq_true, decide_eq_true_eq] at h
  have h1 : IntKind.i64.min = -9223372036854775808 := by decide
  have h2 : IntKind.i64.max = 9223372036854775807 := by decide
  rw [h1, h2] at h
  exact h
theorem graph_inj {H : AH} (ok : Ok H) {a : Option Addr} {l : Nat} {xs : List (Int × Int × List (Int × Int × Unit) × Unit)} (h : Sl (fun _ => True) H 3 (PCs RV) a l xs) (hb : xs.length * 40 ≤ 140737488351232) :
    SlV (fun b => b < H.next) H a l (xs.map toV) ∧ Fit (xs.map toV) ∧ ∀ v ∈ xs.map toV, I64 v.id ∧ I64 v.val ∧ ∀ e ∈ v.edges, PairI e := by
  have edge : ∀ b o x, PCs RE H b o x → PEdge H b o (toE x) ∧ PairI (toE x) := by
    rintro b o x ⟨cs, hc, c1, c2, rfl, ⟨rfl, w1⟩, c3, c4, rfl, ⟨rfl, w2⟩, rfl⟩
    exact ⟨⟨by simpa [toE, toV] using hc 0 _ rfl, by simpa [toE, toV] using hc 1 _ rfl⟩, i64_wf w1, i64_wf w2⟩
  have vtx : ∀ b o x, PCs RV H b o x → PVtx (fun b => b < H.next) H b o (toV x) ∧ x.2.2.1.length * 16 ≤ 140737488351232 ∧ I64 (toV x).id ∧ I64 (toV x).val ∧ ∀ e ∈ (toV x).edges, PairI e := by
    rintro b o x ⟨cs, hc, c1, c2, rfl, ⟨rfl, w1⟩, c3, c4, rfl, ⟨rfl, w2⟩, c5, c6, rfl, ⟨ea, el, ec, rfl, he, hn, _⟩, rfl⟩
    refine ⟨⟨by simpa [toE, toV] using hc 0 _ rfl, by simpa [toE, toV] using hc 1 _ rfl, ea, el, ec, by simpa using hc 2 _ rfl, ?_⟩, hn, i64_wf w1, i64_wf w2, ?_⟩
    · exact Sl.into he (fun b o x hx => lt_of_cell ok (edge b o x hx).1.1) (fun b o x _ hx => (edge b o x hx).1)
    · intro e he2
      simp only [toV] at he2
      obtain ⟨y, hy, rfl⟩ := List.mem_map.1 he2
      obtain ⟨i, hi, rfl⟩ := List.getElem_of_mem hy
      exact (edge _ _ _ (he.cells i hi)).2
  refine ⟨Sl.into h (fun b o x hx => lt_of_cell ok (vtx b o x hx).1.1) (fun b o x _ hx => (vtx b o x hx).1), ⟨by rw [List.length_map]; omega, ?_⟩, ?_⟩
  · intro v hv
    obtain ⟨x, hx, rfl⟩ := List.mem_map.1 hv
    obtain ⟨i, hi, rfl⟩ := List.getElem_of_mem hx
    have := (vtx _ _ _ (h.cells i hi)).2.1
    simp only [toV, List.length_map]
    omega
  · intro v hv
    obtain ⟨x, hx, rfl⟩ := List.mem_map.1 hv
    obtain ⟨i, hi, rfl⟩ := List.getElem_of_mem hx
    exact (vtx _ _ _ (h.cells i hi)).2.2
theorem ri_len (H : AH) (cs : List Value) (x : Int) (h : RInt .i64 H cs x) : cs.length = 1 := by
  obtain ⟨rfl, _⟩ := h; rfl
theorem ints_in {H : AH} (ok : Ok H) {a : Option Addr} {l : Nat} {xs : List Int} (h : Sl (fun _ => True) H 1 (PCs (RInt .i64)) a l xs) : SlI (fun b => b < H.next) H a l xs ∧ ∀ x ∈ xs, I64 x := by
  have one : ∀ b o x, PCs (RInt .i64) H b o x → PInt .i64 H b o x ∧ I64 x := by
    rintro b o x ⟨cs, hc, rfl, w⟩
    exact ⟨hc 0 _ rfl, i64_wf w⟩
  refine ⟨?_, fun x hx => ?_⟩
  · have := Sl.into (f := fun x : Int => x) (Q := PInt .i64) h (fun b o x hx => lt_of_cell ok (one b o x hx).1) (fun b o x _ hx => (one b o x hx).1)
    rwa [List.map_id'] at this
  · obtain ⟨i, hi, rfl⟩ := List.getElem_of_mem hx
    exact (one _ _ _ (h.cells i hi)).2
abbrev RJ : AH → List Value → List UInt8 × (List (Int × Int × List (Int × Int × Unit) × Unit) × Unit) × List Int × Int × Int × Int × Unit → Prop :=
  RCons RStr (RCons RG (RCons (RSl 1 8 (RInt .i64)) (RCons (RInt .i64) (RCons (RInt .i64) (RCons (RInt .i64) RNil)))))
theorem stable_ri : Stable (RInt .i64) := stable_int (k := .i64)
theorem stable_rj : Stable RJ := stable_cons stable_str (stable_cons stable_rg (stable_cons (stable_slice stable_ri) (stable_cons stable_int (stable_cons stable_int (stable_cons stable_int stable_nil)))))
section
variable {Hh : Type} {enc : TypeId × Value → Hh} {W : World} [Sy]
theorem lay_job : LayT enc Tryz.prog W T_api_Job RJ :=
  lay_struct (ds := [(T_string, 0), (T_api_Graph, 1), (T_L_int64, 2), (T_int, 3), (T_int, 4), (T_int, 5)]) (by kernel_rfl) (total := 6) (by kernel_rfl)
    (lay_fcons (off := 0) (n := 1) rfl (by kernel_rfl) (lay_str (by kernel_rfl)) stable_str
      (lay_fcons (off := 1) (n := 1) rfl (by kernel_rfl) lay_graph stable_rg
        (lay_fcons (off := 2) (n := 1) rfl (by kernel_rfl) (lay_slice (e := T_int64) (by kernel_rfl) (by kernel_rfl) (by omega) (by kernel_rfl) (lay_int (k := .i64) (by kernel_rfl)) stable_ri ri_len) (stable_slice stable_ri)
          (lay_fcons (off := 3) (n := 1) rfl (by kernel_rfl) (lay_int (by kernel_rfl)) stable_int
            (lay_fcons (off := 4) (n := 1) rfl (by kernel_rfl) (lay_int (by kernel_rfl)) stable_int
              (lay_fcons (off := 5) (n := 1) rfl (by kernel_rfl) (lay_int (by kernel_rfl)) stable_int lay_fnil))))))
end
end Go.Proofs.Cx

namespace Go.Ev
open Go
def aC (h : Nat → Bool) (v : Nat → Int) : List Value := [.bool (h 0), .bool (h 1), .bool (h 2), .bool (h 3), .bool (h 4), .int .i64 (v 0), .int .i64 (v 1), .int .i64 (v 2), .int .i64 (v 3), .int .i64 (v 4)]
def stepB (h : Nat → Bool) (v : Nat → Int) (i : Nat) : List UInt8 := cond (h i) (enc 1 ++ sgB (v i)) (enc 0)
def aggL (h : Nat → Bool) (v : Nat → Int) : Nat → Nat → List UInt8
  | 0, _ => []
  | k + 1, i => stepB h v i ++ aggL h v k (i + 1)
def aggB (h : Nat → Bool) (v : Nat → Int) : List UInt8 := aggL h v 5 0
def cntL (f : Nat → Nat) : Nat → Nat → List UInt8
  | 0, _ => []
  | k + 1, i => enc (f i) ++ cntL f k (i + 1)
theorem aggL_len {h : Nat → Bool} {v : Nat → Int} (hv : ∀ i, I64 (v i)) : ∀ k i, (aggL h v k i).length ≤ k * 20
  | 0, _ => by simp [aggL]
  | k + 1, i => by
    have h1 := aggL_len (h := h) hv k (i + 1)
    have h2 := enc_len64 (fold_lt (hv i))
    have h3 := enc_len64 (show 1 < 18446744073709551616 by omega)
    have h4 := enc_len64 (show 0 < 18446744073709551616 by omega)
    unfold aggL stepB sgB
    rw [List.length_append]
    cases h i
    · simp only [cond_false]; omega
    · simp only [cond_true, List.length_append]; omega
theorem cntL_len {f : Nat → Nat} (hf : ∀ i, f i < 18446744073709551616) : ∀ k i, (cntL f k i).length ≤ k * 10
  | 0, _ => by simp [cntL]
  | k + 1, i => by
    have h1 := cntL_len hf k (i + 1)
    have h2 := enc_len64 (hf i)
    unfold cntL
    rw [List.length_append]; omega
/-- below i as it is, from i on nothing -/
def upTo {α : Type} (z : α) (f : Nat → α) (i : Nat) : Nat → α := fun k => if k < i then f k else z
theorem upTo_lt {α : Type} {z : α} {f : Nat → α} {i k : Nat} (h : k < i) : upTo z f i k = f k := if_pos h
theorem upTo_ge {α : Type} {z : α} {f : Nat → α} {i k : Nat} (h : i ≤ k) : upTo z f i k = z := if_neg (by omega)
theorem five {i : Nat} (h : i < 5) : i = 0 ∨ i = 1 ∨ i = 2 ∨ i = 3 ∨ i = 4 := by omega
/-- what is at a place of a reader -/
theorem drop_le {s bs t : List UInt8} {p : Nat} (h : s.drop p = bs ++ t) (h0 : 0 < bs.length) : p + bs.length ≤ s.length := by
  have := congrArg List.length h
  rw [List.length_drop, List.length_append] at this
  omega
end Go.Ev
namespace Go.Proofs.Cx
open Go Go.Ev
section
variable {H : AH} {b : Nat} {s bs t : List UInt8} {p : Nat}
theorem tk_sig {x : Int} (hx : I64 x) (ok : Ok H) (h : Rd H b s p 0) (hp : p ≤ s.length) (hs : s.length ≤ 4611686018427387904) (hd : s.drop p = sgB x ++ t) :
    FW Ee F_wire_Reader_Signed [.pointer (some ⟨b, 0, none⟩)] H fun r H' => r = .int .i64 x ∧ Rd H' b s (p + (sgB x).length) 0 ∧ s.drop (p + (sgB x).length) = t ∧ Mod (· = b) H H' := by
  obtain ⟨h1, h2⟩ := rt_sig hx p t hd
  have := xsig_ok (q := (p, 0)) ok h hp hs
  rw [h1] at this
  exact this.mono fun _ _ k => ⟨k.1, k.2.1, h2, k.2.2⟩
theorem tk_cnt {n m : Nat} (hn : n ≤ m) (hm : m ≤ 4611686018427387904) (ok : Ok H) (h : Rd H b s p 0) (hp : p ≤ s.length) (hs : s.length ≤ 4611686018427387904) (hd : s.drop p = enc n ++ t) :
    FW Ee F_wire_Reader_Count [.pointer (some ⟨b, 0, none⟩), .int .i64 m] H fun r H' => r = .int .i64 (n : Int) ∧ Rd H' b s (p + (enc n).length) 0 ∧ s.drop (p + (enc n).length) = t ∧ Mod (· = b) H H' := by
  obtain ⟨h1, h2⟩ := rt_cnt hn (by omega) p t hd
  have := xcnt_ok (q := (p, 0)) m hm ok h hp hs
  rw [h1] at this
  exact this.mono fun _ _ k => ⟨k.1, k.2.1, h2, k.2.2⟩
theorem tk_bool {x : Bool} (ok : Ok H) (h : Rd H b s p 0) (hp : p ≤ s.length) (hs : s.length ≤ 4611686018427387904) (hd : s.drop p = enc (cond x 1 0) ++ t) :
    FW Ee F_wire_Reader_Bool [.pointer (some ⟨b, 0, none⟩)] H fun r H' => r = .bool x ∧ Rd H' b s (p + (enc (cond x 1 0)).length) 0 ∧ s.drop (p + (enc (cond x 1 0)).length) = t ∧ Mod (· = b) H H' := by
  have hx1 : cond x 1 0 ≤ 1 := by cases x <;> simp
  obtain ⟨h1, h2⟩ := rt_num (s := s) (show cond x 1 0 < 18446744073709551616 by omega) p t hd
  refine fw_wire_Reader_Bool ?_
  refine (rat_ok h).mono ?_
  rintro _ _ ⟨rfl, rfl⟩
  refine ⟨_, rfl, ?_⟩
  have := xnum_ok (q := (p, 0)) ok h hp hs
  rw [h1] at this
  refine this.mono ?_
  rintro _ H2 ⟨rfl, r2, m2⟩
  refine ⟨_, rfl, (rerr_ok r2).mono ?_⟩
  rintro _ _ ⟨rfl, rfl⟩
  refine ⟨_, rfl, cond_pos rfl (cond_dec (fun hb => by omega) fun _ => (rerr_ok r2).mono ?_)⟩
  rintro _ _ ⟨rfl, rfl⟩
  refine ⟨_, rfl, cond_pos rfl ⟨?_, r2, h2, m2⟩⟩
  cases x <;> rfl
theorem yw_bool {n0 : Nat} {x : Bool} (ok : Ok H) (h : Wr H n0 b bs) (hs : bs.length ≤ 140737488355000) :
    FW Ee F_wire_Writer_Bool [.pointer (some ⟨b, 0, none⟩), .bool x] H fun r H' => r = .tuple ⟨[]⟩ ∧ Wr H' n0 b (bs ++ enc (cond x 1 0)) ∧ WrX H b H' := by
  refine fw_wire_Writer_Bool ?_
  cases x
  · refine cond_neg rfl ((yw_number (n := 0) ok h (by omega) hs).mono ?_)
    rintro _ H2 ⟨rfl, h2⟩
    exact ⟨rfl, rfl, h2⟩
  · refine cond_pos rfl ((yw_number (n := 1) ok h (by omega) hs).mono ?_)
    rintro _ H2 ⟨rfl, h2⟩
    exact ⟨rfl, rfl, h2⟩
set_option maxRecDepth 100000 in
theorem idx5 {b0 b1 b2 b3 b4 : Bool} (h : Nat → Bool) (e : [b0, b1, b2, b3, b4] = [h 0, h 1, h 2, h 3, h 4]) {i : Nat} (hi : i < 5) : indexv Ee T_5_bool (.agg ⟨[.bool b0, .bool b1, .bool b2, .bool b3, .bool b4]⟩) (.int .i64 (i : Int)) = some (.bool (h i)) := by
  cases e
  rcases five hi with rfl | rfl | rfl | rfl | rfl <;> kernel_rfl
theorem aC_v {h : Nat → Bool} {v : Nat → Int} {i : Nat} (hi : i < 5) : (aC h v)[5 + i]? = some (.int .i64 (v i)) := by
  rcases five hi with rfl | rfl | rfl | rfl | rfl <;> rfl
theorem aC_h {h : Nat → Bool} {v : Nat → Int} {i : Nat} (hi : i < 5) : (aC h v)[0 + i]? = some (.bool (h i)) := by
  rcases five hi with rfl | rfl | rfl | rfl | rfl <;> rfl
theorem putagg_ok {n0 : Nat} {h : Nat → Bool} {v : Nat → Int} (hv : ∀ i, I64 (v i)) (ok : Ok H) (hw : Wr H n0 b bs) (hs : bs.length ≤ 140737488354000) :
    FW Ee F_agg_Put [.pointer (some ⟨b, 0, none⟩), .agg ⟨aC h v⟩] H fun r H' => r = .tuple ⟨[]⟩ ∧ Wr H' n0 b (bs ++ aggB h v) ∧ WrX H b H' := by
  refine fw_agg_Put ?_
  intro H1 e1
  obtain ⟨g1, b1, n1⟩ := new_job ok e1
  have b1 : H1.get H.next = some (.cells (aC h v) 0) := b1
  have x0 := WrX.grow ok hw g1
  have w1 := hw.grow g1
  have o1 : ¬ WrS H1 b H.next := hw.new ok g1 (Nat.le_refl _)
  refine ⟨_, _, _, _, _, cell_of b1 rfl, cell_of b1 rfl, cell_of b1 rfl, cell_of b1 rfl, cell_of b1 rfl, ?_⟩
  refine ⟨fun m t Hb => ∃ (i : Nat) (cs : List UInt8), t = i ∧ i ≤ 5 ∧ m = 5 - i ∧ Wr Hb n0 b (bs ++ cs) ∧ cs ++ aggL h v (5 - i) i = aggB h v ∧ WrX H1 b Hb, ⟨_, 0, [], rfl, by omega, rfl, by simpa using w1, rfl, WrX.grow g1.ok w1 (.refl g1.ok)⟩, ?_⟩
  rintro m t H2 ⟨i, cs, rfl, hi, rfl, w2, hcs, x2⟩
  have htot := aggL_len (h := h) hv 5 0
  have hl := congrArg List.length hcs
  rw [List.length_append] at hl
  refine cond_dec (fun hlt => ?_) (fun hge => ?_)
  · have hi5 : i < 5 := by omega
    have hbl : (bs ++ cs).length ≤ 140737488354200 := by rw [List.length_append]; unfold aggB at hl; omega
    have hstep : aggL h v (5 - i) i = stepB h v i ++ aggL h v (5 - (i + 1)) (i + 1) := by
      rw [show 5 - i = 5 - (i + 1) + 1 from by omega]; rfl
    refine ⟨h i, idx5 h rfl hi5, (yw_bool (x := h i) x2.mod.ok w2 (by omega)).mono ?_⟩
    rintro _ H3 ⟨rfl, w3, x3⟩
    have x13 := x2.trans g1.ok x3
    refine ⟨rfl, cond_intro (fun hh => ?_) (fun hh => ?_)⟩
    · refine ⟨by omega, by omega, v i, ?_, ?_⟩
      · rw [show 5 + ((i : Nat) : Int).toNat * 1 = 5 + i from by omega]
        exact cell_of (x13.mod.get _ _ o1 b1) (aC_v hi5)
      have k1 := enc_len64 (show cond (h i) 1 0 < 18446744073709551616 by cases h i <;> simp)
      refine (yw_signed x3.mod.ok w3 (hv i) (by rw [List.length_append]; omega)).mono ?_
      rintro _ H4 ⟨rfl, w4, x4⟩
      refine ⟨rfl, ?_⟩
      intro t22 e22
      rw [wrap_i64 (by omega) (by omega)] at e22
      subst e22
      refine ⟨5 - (i + 1), by omega, i + 1, cs ++ stepB h v i, by simp, by omega, rfl, ?_, ?_, x13.trans g1.ok x4⟩
      · unfold stepB
        rw [hh] at w4 ⊢
        simpa only [cond_true, List.append_assoc] using w4
      · rw [List.append_assoc, ← hstep]; exact hcs
    · intro t22 e22
      rw [wrap_i64 (by omega) (by omega)] at e22
      subst e22
      refine ⟨5 - (i + 1), by omega, i + 1, cs ++ stepB h v i, by simp, by omega, rfl, ?_, ?_, x13⟩
      · unfold stepB
        rw [hh] at w3 ⊢
        simpa only [cond_false, List.append_assoc] using w3
      · rw [List.append_assoc, ← hstep]; exact hcs
  · have hi5 : i = 5 := by omega
    subst hi5
    refine ⟨rfl, ?_, x0.trans ok x2⟩
    have : cs = aggB h v := by rw [← hcs]; simp [aggL]
    rw [← this]; exact w2
theorem aC_sethU {h : Nat → Bool} {i : Nat} (hi : i < 5) (w : Nat → Int) : (aC (upTo false h i) w).set (0 + i) (.bool (h i)) = aC (upTo false h (i + 1)) w := by
  rcases five hi with rfl | rfl | rfl | rfl | rfl <;> simp [aC, upTo]
theorem aC_setvU {v : Nat → Int} {i : Nat} (hi : i < 5) (g : Nat → Bool) : (aC g (upTo 0 v i)).set (5 + i) (.int .i64 (v i)) = aC g (upTo 0 v (i + 1)) := by
  rcases five hi with rfl | rfl | rfl | rfl | rfl <;> simp [aC, upTo]
theorem aC_len (h : Nat → Bool) (v : Nat → Int) : (aC h v).length = 10 := rfl
theorem aC_same {h g : Nat → Bool} {v w : Nat → Int} (e1 : ∀ i, i < 5 → h i = g i) (e2 : ∀ i, i < 5 → v i = w i) : aC h v = aC g w := by
  unfold aC
  rw [e1 0 (by omega), e1 1 (by omega), e1 2 (by omega), e1 3 (by omega), e1 4 (by omega), e2 0 (by omega), e2 1 (by omega), e2 2 (by omega), e2 3 (by omega), e2 4 (by omega)]
theorem ret_agg {Q : Value → AH → Prop} {H : AH} {vb rb : Nat} {h : Nat → Bool} {v : Nat → Int} {g : Nat → Bool} {w : Nat → Int} (ok : Ok H) (hv : H.get vb = some (.cells (aC h v) 0)) (hr : H.get rb = some (.cells (aC g w) 0)) (hQ : ∀ H3, Mod (· = rb) H H3 → Q (.agg ⟨aC h v⟩) H3) :
    ∃ (t0 : Bool) (t1 : Bool) (t2 : Bool) (t3 : Bool) (t4 : Bool) (t5 : Int) (t6 : Int) (t7 : Int) (t8 : Int) (t9 : Int),
      H.cell vb (0 + 0) = some (.bool t0) ∧ H.cell vb (0 + 1) = some (.bool t1) ∧ H.cell vb (0 + 2) = some (.bool t2) ∧ H.cell vb (0 + 3) = some (.bool t3) ∧ H.cell vb (0 + 4) = some (.bool t4) ∧ H.cell vb (0 + 5) = some (.int .i64 t5) ∧ H.cell vb (0 + 6) = some (.int .i64 t6) ∧ H.cell vb (0 + 7) = some (.int .i64 t7) ∧ H.cell vb (0 + 8) = some (.int .i64 t8) ∧ H.cell vb (0 + 9) = some (.int .i64 t9) ∧
      ∃ (H10 : AH), storeCellsv H rb 0 [.bool t0, .bool t1, .bool t2, .bool t3, .bool t4, .int .i64 t5, .int .i64 t6, .int .i64 t7, .int .i64 t8, .int .i64 t9] = some H10 ∧
      ∃ (r0 : Bool) (r1 : Bool) (r2 : Bool) (r3 : Bool) (r4 : Bool) (r5 : Int) (r6 : Int) (r7 : Int) (r8 : Int) (r9 : Int),
      H10.cell rb (0 + 0) = some (.bool r0) ∧ H10.cell rb (0 + 1) = some (.bool r1) ∧ H10.cell rb (0 + 2) = some (.bool r2) ∧ H10.cell rb (0 + 3) = some (.bool r3) ∧ H10.cell rb (0 + 4) = some (.bool r4) ∧ H10.cell rb (0 + 5) = some (.int .i64 r5) ∧ H10.cell rb (0 + 6) = some (.int .i64 r6) ∧ H10.cell rb (0 + 7) = some (.int .i64 r7) ∧ H10.cell rb (0 + 8) = some (.int .i64 r8) ∧ H10.cell rb (0 + 9) = some (.int .i64 r9) ∧
      Q (.agg ⟨[.bool r0, .bool r1, .bool r2, .bool r3, .bool r4, .int .i64 r5, .int .i64 r6, .int .i64 r7, .int .i64 r8, .int .i64 r9]⟩) H10 := by
  have k := get_set_self H rb (.cells (lset (aC g w) 0 (aC h v)) 0)
  exact ⟨_, _, _, _, _, _, _, _, _, _, cell_of hv rfl, cell_of hv rfl, cell_of hv rfl, cell_of hv rfl, cell_of hv rfl, cell_of hv rfl, cell_of hv rfl, cell_of hv rfl, cell_of hv rfl, cell_of hv rfl, _, store_of (o := 0) hr (by simp [aC]) rfl,
    _, _, _, _, _, _, _, _, _, _, cell_of k rfl, cell_of k rfl, cell_of k rfl, cell_of k rfl, cell_of k rfl, cell_of k rfl, cell_of k rfl, cell_of k rfl, cell_of k rfl, cell_of k rfl, hQ _ (Mod.set ok hr _)⟩
/-- an aggregate that was put is taken -/
theorem tk_agg {h : Nat → Bool} {v : Nat → Int} (hv : ∀ i, I64 (v i)) (hn : ∀ i, i < 5 → h i = false → v i = 0) (ok : Ok H) (hr : Rd H b s p 0) (hp : p ≤ s.length) (hs : s.length ≤ 4611686018427387904) (hd : s.drop p = aggB h v ++ t) :
    FW Ee F_agg_Take [.pointer (some ⟨b, 0, none⟩)] H fun r H' => r = .agg ⟨aC h v⟩ ∧ Rd H' b s (p + (aggB h v).length) 0 ∧ s.drop (p + (aggB h v).length) = t ∧ Mod (· = b) H H' := by
  have hbl := ok.lt hr
  refine fw_agg_Take ?_
  intro H1 e1 H2 e2
  obtain ⟨g1, z1, n1⟩ := new_job ok e1
  obtain ⟨g2, a2, n2⟩ := new_job g1.ok e2
  have g02 := g1.trans g2
  have z2 : H2.get H.next = some (.cells (aC (fun _ => false) (fun _ => 0)) 0) := g2.get _ _ id z1
  have a2 : H2.get H1.next = some (.cells (aC (upTo false h 0) (upTo 0 v 0)) 0) := a2
  refine ⟨fun m t5 Hb => ∃ (i p' : Nat), t5 = i ∧ i ≤ 5 ∧ m = 5 - i ∧ Rd Hb b s p' 0 ∧ p' ≤ s.length ∧ s.drop p' = aggL h v (5 - i) i ++ t ∧ p' + (aggL h v (5 - i) i).length = p + (aggB h v).length ∧ Hb.get H1.next = some (.cells (aC (upTo false h i) (upTo 0 v i)) 0) ∧ Hb.get H.next = some (.cells (aC (fun _ => false) (fun _ => 0)) 0) ∧ Mod (· = b) H Hb ∧ H2.next ≤ Hb.next,
    ⟨_, 0, p, rfl, by omega, rfl, hr.mod g02 id, hp, hd, rfl, a2, z2, g02.le (fun _ h _ => h.elim) ok, Nat.le_refl _⟩, ?_⟩
  rintro m t5 H3 ⟨i, p', rfl, hi, rfl, r3, hp3, hd3, hl3, a3, z3, m3, n3⟩
  refine cond_dec (fun hlt => ?_) (fun hge => ?_)
  · have hi5 : i < 5 := by omega
    have hstep : aggL h v (5 - i) i = stepB h v i ++ aggL h v (5 - (i + 1)) (i + 1) := by
      rw [show 5 - i = 5 - (i + 1) + 1 from by omega]; rfl
    rw [hstep, List.append_assoc] at hd3
    rw [hstep, List.length_append] at hl3
    have e0 : ((i : Nat) : Int).toNat * 1 = i := by omega
    have hst : stepB h v i = enc (cond (h i) 1 0) ++ cond (h i) (sgB (v i)) [] := by
      unfold stepB; cases h i <;> simp
    rw [hst, List.append_assoc] at hd3
    rw [hst, List.length_append] at hl3
    refine (tk_bool (x := h i) m3.ok r3 hp3 hs hd3).mono ?_
    rintro _ H4 ⟨rfl, r4, hd4, m4⟩
    have a4 := m4.get _ _ (show ¬ H1.next = b by omega) a3
    have z4 := m4.get _ _ (show ¬ H.next = b by omega) z3
    have hp4 : p' + (enc (cond (h i) 1 0)).length ≤ s.length := drop_le hd3 (enc_len_pos _)
    refine ⟨_, rfl, by omega, by omega, ?_⟩
    rw [e0]
    have hset : lset (aC (upTo false h i) (upTo 0 v i)) (0 + i) [.bool (h i)] = aC (upTo false h (i + 1)) (upTo 0 v i) := by
      rw [lset_one (by rw [aC_len]; omega)]; exact aC_sethU hi5 _
    have m5 := Mod.set m4.ok a4 (.cells (aC (upTo false h (i + 1)) (upTo 0 v i)) 0)
    have a5 := get_set_self H4 H1.next (.cells (aC (upTo false h (i + 1)) (upTo 0 v i)) 0)
    have s5 := store_of (o := 0 + i) (vs := [.bool (h i)]) a4 (by rw [aC_len]; simp; omega) rfl
    rw [hset] at s5
    refine ⟨_, s5, by omega, by omega, h i, ?_, ?_⟩
    · refine cell_of a5 ?_
      rw [aC_h hi5, upTo_lt (by omega)]
    have r5 := r4.mod m5 (by omega)
    have z5 := m5.get _ _ (show ¬ H.next = H1.next by omega) z4
    have n4 := m4.next
    have mm5 := (m3.trans m4).ext m5 ok fun x hx => .inr (by omega)
    refine cond_intro (fun hh => ?_) (fun hh => ?_)
    · simp only [hh, cond_true] at hd4 hl3 r5 hp4
      refine (tk_sig (hv i) m5.ok r5 hp4 hs hd4).mono ?_
      rintro _ H6 ⟨rfl, r6, hd6, m6⟩
      have a6 := m6.get _ _ (show ¬ H1.next = b by omega) a5
      have z6 := m6.get _ _ (show ¬ H.next = b by omega) z5
      have n6 := m6.next
      have hset2 : lset (aC (upTo false h (i + 1)) (upTo 0 v i)) (5 + i) [.int .i64 (v i)] = aC (upTo false h (i + 1)) (upTo 0 v (i + 1)) := by
        rw [lset_one (by rw [aC_len]; omega)]; exact aC_setvU hi5 _
      have m7 := Mod.set m6.ok a6 (.cells (aC (upTo false h (i + 1)) (upTo 0 v (i + 1))) 0)
      have s7 := store_of (o := 5 + i) (vs := [.int .i64 (v i)]) a6 (by rw [aC_len]; simp; omega) rfl
      rw [hset2] at s7
      refine ⟨_, rfl, by omega, by omega, _, s7, ?_⟩
      intro t22 e22
      rw [wrap_i64 (by omega) (by omega)] at e22
      subst e22
      refine ⟨5 - (i + 1), by omega, i + 1, _, by simp, by omega, rfl, r6.mod m7 (by omega), ?_, hd6, ?_, get_set_self _ _ _, m7.get _ _ (by omega) z6, (mm5.trans m6).ext m7 ok fun x hx => .inr (by omega), ?_⟩
      · exact drop_le hd4 (enc_len_pos _)
      · omega
      · have : (H4.set H1.next (.cells (aC (upTo false h (i + 1)) (upTo 0 v i)) 0)).next = H4.next := rfl
        show H2.next ≤ H6.next
        omega
    · intro t22 e22
      rw [wrap_i64 (by omega) (by omega)] at e22
      subst e22
      have hv0 : v i = 0 := hn i hi5 hh
      have ha : aC (upTo false h (i + 1)) (upTo 0 v i) = aC (upTo false h (i + 1)) (upTo 0 v (i + 1)) := by
        refine aC_same (fun _ _ => rfl) fun k hk => ?_
        unfold upTo
        by_cases h1 : k < i
        · rw [if_pos h1, if_pos (by omega)]
        · rw [if_neg h1]
          by_cases h2 : k < i + 1
          · have : k = i := by omega
            subst this
            rw [if_pos h2, hv0]
          · rw [if_neg h2]
      rw [ha] at a5
      simp only [hh, cond_false, List.nil_append, List.length_nil] at hd4 hl3 r5 hp4
      refine ⟨5 - (i + 1), by omega, i + 1, _, by simp, by omega, rfl, r5, hp4, hd4, by omega, ?_, z5, mm5, ?_⟩
      · rw [ha]; exact a5
      · show H2.next ≤ H4.next
        omega
  · have hi5 : i = 5 := by omega
    subst hi5
    have hd5 : s.drop p' = t := by simpa [aggL] using hd3
    have hl5 : p' = p + (aggB h v).length := by simpa [aggL] using hl3
    subst hl5
    have ha : aC (upTo false h 5) (upTo 0 v 5) = aC h v := aC_same (fun i hi => upTo_lt hi) (fun i hi => upTo_lt hi)
    rw [ha] at a3
    refine (rerr_ok r3).mono ?_
    rintro _ _ ⟨rfl, rfl⟩
    refine ⟨_, rfl, cond_neg rfl ?_⟩
    exact ret_agg (Q := fun r H' => r = .agg ⟨aC h v⟩ ∧ Rd H' b s (p + (aggB h v).length) 0 ∧ s.drop (p + (aggB h v).length) = t ∧ Mod (· = b) H H') m3.ok a3 z3 fun Hx mx => ⟨rfl, mx.get _ _ (by omega) r3, hd5, m3.ext mx ok fun x hx => .inr (by omega)⟩
end
end Go.Proofs.Cx

namespace Go.Ev
open Go
def repC (f : Nat → Int) (h : Nat → Bool) (v : Nat → Int) (a : Option Addr) (l c : Nat) : List Value :=
  [.int .i64 (f 0), .int .i64 (f 1), .int .i64 (f 2), .int .i64 (f 3), .int .i64 (f 4), .int .i64 (f 5), .int .i64 (f 6), .int .i64 (f 7), .int .i64 (f 8), .bool (h 0), .bool (h 1), .bool (h 2), .bool (h 3), .bool (h 4), .int .i64 (v 0), .int .i64 (v 1), .int .i64 (v 2), .int .i64 (v 3), .int .i64 (v 4), .slice a l c]
def valsB (vs : List (Int × Int)) : List UInt8 := enc vs.length ++ vs.flatMap pairB
def repB (f : Nat → Int) (h : Nat → Bool) (v : Nat → Int) (vs : List (Int × Int)) : List UInt8 := cntL (fun i => (f i).toNat) 9 0 ++ (aggB h v ++ valsB vs)
theorem nine {i : Nat} (h : i < 9) : i = 0 ∨ i = 1 ∨ i = 2 ∨ i = 3 ∨ i = 4 ∨ i = 5 ∨ i = 6 ∨ i = 7 ∨ i = 8 := by omega
theorem lset_all : ∀ {z w : List Value}, z.length = w.length → lset z 0 w = w := by
  intro z w h
  have : ∀ (w : List Value) (z : List Value), z.length = w.length → lset z 0 w = w := by
    intro w
    induction w with
    | nil => intro z h; have := List.length_eq_zero_iff.1 h; subst this; rfl
    | cons x w ih =>
      intro z h
      cases z with
      | nil => simp at h
      | cons y z =>
        have := ih z (by simpa using h)
        simp only [lset] at this ⊢
        exact congrArg _ this
  exact this w z h
theorem pairs_len : ∀ {es : List (Int × Int)}, (∀ e ∈ es, PairI e) → (es.flatMap pairB).length ≤ es.length * 20
  | [], _ => by simp
  | e :: es, h => by
    have h1 := pairs_len (es := es) fun x hx => h x (List.mem_cons_of_mem _ hx)
    have h2 := enc_len64 (fold_lt (h e List.mem_cons_self).1)
    have h3 := enc_len64 (fold_lt (h e List.mem_cons_self).2)
    rw [List.flatMap_cons, List.length_append, List.length_cons]
    have : (pairB e).length ≤ 20 := by rw [pairB, List.length_append]; unfold sgB; omega
    omega
/-- where the program puts the numbers that it reads -/
def rptr (xb eb i : Nat) : Option Addr := if i = 5 then some ⟨eb, 0, none⟩ else some ⟨xb, i, none⟩
def xF (f : Nat → Int) (i : Nat) : Nat → Int := fun k => if k = 5 then 0 else upTo 0 f i k
def xR (f : Nat → Int) (i : Nat) : List Value := repC (xF f i) (fun _ => false) (fun _ => 0) none 0 0
theorem rep_store {f : Nat → Int} {H6 : AH} {xb eb i : Nat} (ok : Ok H6) (hi : i < 9) (hne : xb ≠ eb) (hx : H6.get xb = some (.cells (xR f i) 0)) (he : H6.get eb = some (.cells [.int .i64 (upTo 0 f i 5)] 0)) :
    (rptr xb eb i).isSome = true ∧ ∃ H7, storeCellsv H6 (adr (rptr xb eb i)).block (adr (rptr xb eb i)).off [.int .i64 (f i)] = some H7 ∧ H7.get xb = some (.cells (xR f (i + 1)) 0) ∧ H7.get eb = some (.cells [.int .i64 (upTo 0 f (i + 1) 5)] 0) ∧ Mod (fun x => x = xb ∨ x = eb) H6 H7 ∧ H7.next = H6.next := by
  unfold rptr
  by_cases h5 : i = 5
  · rw [if_pos h5]
    subst h5
    have m := Mod.set ok he (.cells [.int .i64 (f 5)] 0)
    refine ⟨rfl, _, store_of (o := 0) he (by simp) rfl, ?_, ?_, m.le (fun x hx _ => .inr hx) ok, rfl⟩
    · have := m.get _ _ hne hx
      have e : xR f 5 = xR f (5 + 1) := by simp [xR, xF, repC, upTo]
      rw [e] at this
      exact this
    · rw [upTo_lt (show 5 < 5 + 1 by omega)]
      exact get_set_self _ _ _
  · rw [if_neg h5]
    have hset : lset (xR f i) i [.int .i64 (f i)] = xR f (i + 1) := by
      rcases nine hi with rfl | rfl | rfl | rfl | rfl | rfl | rfl | rfl | rfl <;> first | exact (h5 rfl).elim | (simp [xR, xF, repC, upTo, lset])
    have m := Mod.set ok hx (.cells (xR f (i + 1)) 0)
    have s := store_of (o := i) (vs := [.int .i64 (f i)]) hx (by simp [xR, repC]; omega) rfl
    rw [hset] at s
    refine ⟨rfl, _, s, get_set_self _ _ _, ?_, m.le (fun x hx _ => .inl hx) ok, rfl⟩
    have := m.get _ _ (fun e => hne e.symm) he
    rw [this]
    unfold upTo
    by_cases h1 : 5 < i
    · rw [if_pos h1, if_pos (by omega)]
    · rw [if_neg h1, if_neg (by omega)]
theorem rptr_cell {H : AH} {pb xb eb i : Nat} (hi : i < 9) (h : H.get pb = some (.cells [.pointer (some ⟨xb, 0, none⟩), .pointer (some ⟨xb, 1, none⟩), .pointer (some ⟨xb, 2, none⟩), .pointer (some ⟨xb, 3, none⟩), .pointer (some ⟨xb, 4, none⟩), .pointer (some ⟨eb, 0, none⟩), .pointer (some ⟨xb, 6, none⟩), .pointer (some ⟨xb, 7, none⟩), .pointer (some ⟨xb, 8, none⟩)] 0)) :
    H.cell pb (0 + (i : Int).toNat * 1) = some (.pointer (rptr xb eb i)) := by
  refine cell_of h ?_
  rcases nine hi with rfl | rfl | rfl | rfl | rfl | rfl | rfl | rfl | rfl <;> rfl
theorem ret_rep {Q : Value → AH → Prop} {H : AH} {vb rb : Nat} {y0 : Int} {y1 : Int} {y2 : Int} {y3 : Int} {y4 : Int} {y5 : Int} {y6 : Int} {y7 : Int} {y8 : Int} {y9 : Bool} {y10 : Bool} {y11 : Bool} {y12 : Bool} {y13 : Bool} {y14 : Int} {y15 : Int} {y16 : Int} {y17 : Int} {y18 : Int} {y19a : Option Addr} {y19l : Nat} {y19c : Nat} {z : List Value} (ok : Ok H) (hv : H.get vb = some (.cells [.int .i64 y0, .int .i64 y1, .int .i64 y2, .int .i64 y3, .int .i64 y4, .int .i64 y5, .int .i64 y6, .int .i64 y7, .int .i64 y8, .bool y9, .bool y10, .bool y11, .bool y12, .bool y13, .int .i64 y14, .int .i64 y15, .int .i64 y16, .int .i64 y17, .int .i64 y18, .slice y19a y19l y19c] 0)) (hr : H.get rb = some (.cells z 0)) (hz : z.length = 20) (hQ : ∀ H3, Mod (· = rb) H H3 → Q (.agg ⟨[.int .i64 y0, .int .i64 y1, .int .i64 y2, .int .i64 y3, .int .i64 y4, .int .i64 y5, .int .i64 y6, .int .i64 y7, .int .i64 y8, .bool y9, .bool y10, .bool y11, .bool y12, .bool y13, .int .i64 y14, .int .i64 y15, .int .i64 y16, .int .i64 y17, .int .i64 y18, .slice y19a y19l y19c]⟩) H3) :
    ∃ (t0 : Int) (t1 : Int) (t2 : Int) (t3 : Int) (t4 : Int) (t5 : Int) (t6 : Int) (t7 : Int) (t8 : Int) (t9 : Bool) (t10 : Bool) (t11 : Bool) (t12 : Bool) (t13 : Bool) (t14 : Int) (t15 : Int) (t16 : Int) (t17 : Int) (t18 : Int) (t19a : Option Addr) (t19l : Nat) (t19c : Nat), H.cell vb (0 + 0) = some (.int .i64 t0) ∧ H.cell vb (0 + 1) = some (.int .i64 t1) ∧ H.cell vb (0 + 2) = some (.int .i64 t2) ∧ H.cell vb (0 + 3) = some (.int .i64 t3) ∧ H.cell vb (0 + 4) = some (.int .i64 t4) ∧ H.cell vb (0 + 5) = some (.int .i64 t5) ∧ H.cell vb (0 + 6) = some (.int .i64 t6) ∧ H.cell vb (0 + 7) = some (.int .i64 t7) ∧ H.cell vb (0 + 8) = some (.int .i64 t8) ∧ H.cell vb (0 + 9) = some (.bool t9) ∧ H.cell vb (0 + 10) = some (.bool t10) ∧ H.cell vb (0 + 11) = some (.bool t11) ∧ H.cell vb (0 + 12) = some (.bool t12) ∧ H.cell vb (0 + 13) = some (.bool t13) ∧ H.cell vb (0 + 14) = some (.int .i64 t14) ∧ H.cell vb (0 + 15) = some (.int .i64 t15) ∧ H.cell vb (0 + 16) = some (.int .i64 t16) ∧ H.cell vb (0 + 17) = some (.int .i64 t17) ∧ H.cell vb (0 + 18) = some (.int .i64 t18) ∧ H.cell vb (0 + 19) = some (.slice t19a t19l t19c) ∧
      ∃ (H10 : AH), storeCellsv H rb 0 [.int .i64 t0, .int .i64 t1, .int .i64 t2, .int .i64 t3, .int .i64 t4, .int .i64 t5, .int .i64 t6, .int .i64 t7, .int .i64 t8, .bool t9, .bool t10, .bool t11, .bool t12, .bool t13, .int .i64 t14, .int .i64 t15, .int .i64 t16, .int .i64 t17, .int .i64 t18, .slice t19a t19l t19c] = some H10 ∧
      ∃ (r0 : Int) (r1 : Int) (r2 : Int) (r3 : Int) (r4 : Int) (r5 : Int) (r6 : Int) (r7 : Int) (r8 : Int) (r9 : Bool) (r10 : Bool) (r11 : Bool) (r12 : Bool) (r13 : Bool) (r14 : Int) (r15 : Int) (r16 : Int) (r17 : Int) (r18 : Int) (r19a : Option Addr) (r19l : Nat) (r19c : Nat), H10.cell rb (0 + 0) = some (.int .i64 r0) ∧ H10.cell rb (0 + 1) = some (.int .i64 r1) ∧ H10.cell rb (0 + 2) = some (.int .i64 r2) ∧ H10.cell rb (0 + 3) = some (.int .i64 r3) ∧ H10.cell rb (0 + 4) = some (.int .i64 r4) ∧ H10.cell rb (0 + 5) = some (.int .i64 r5) ∧ H10.cell rb (0 + 6) = some (.int .i64 r6) ∧ H10.cell rb (0 + 7) = some (.int .i64 r7) ∧ H10.cell rb (0 + 8) = some (.int .i64 r8) ∧ H10.cell rb (0 + 9) = some (.bool r9) ∧ H10.cell rb (0 + 10) = some (.bool r10) ∧ H10.cell rb (0 + 11) = some (.bool r11) ∧ H10.cell rb (0 + 12) = some (.bool r12) ∧ H10.cell rb (0 + 13) = some (.bool r13) ∧ H10.cell rb (0 + 14) = some (.int .i64 r14) ∧ H10.cell rb (0 + 15) = some (.int .i64 r15) ∧ H10.cell rb (0 + 16) = some (.int .i64 r16) ∧ H10.cell rb (0 + 17) = some (.int .i64 r17) ∧ H10.cell rb (0 + 18) = some (.int .i64 r18) ∧ H10.cell rb (0 + 19) = some (.slice r19a r19l r19c) ∧
      Q (.agg ⟨[.int .i64 r0, .int .i64 r1, .int .i64 r2, .int .i64 r3, .int .i64 r4, .int .i64 r5, .int .i64 r6, .int .i64 r7, .int .i64 r8, .bool r9, .bool r10, .bool r11, .bool r12, .bool r13, .int .i64 r14, .int .i64 r15, .int .i64 r16, .int .i64 r17, .int .i64 r18, .slice r19a r19l r19c]⟩) H10 := by
  have k : (H.set rb (.cells (lset z 0 [.int .i64 y0, .int .i64 y1, .int .i64 y2, .int .i64 y3, .int .i64 y4, .int .i64 y5, .int .i64 y6, .int .i64 y7, .int .i64 y8, .bool y9, .bool y10, .bool y11, .bool y12, .bool y13, .int .i64 y14, .int .i64 y15, .int .i64 y16, .int .i64 y17, .int .i64 y18, .slice y19a y19l y19c]) 0)).get rb = some (.cells [.int .i64 y0, .int .i64 y1, .int .i64 y2, .int .i64 y3, .int .i64 y4, .int .i64 y5, .int .i64 y6, .int .i64 y7, .int .i64 y8, .bool y9, .bool y10, .bool y11, .bool y12, .bool y13, .int .i64 y14, .int .i64 y15, .int .i64 y16, .int .i64 y17, .int .i64 y18, .slice y19a y19l y19c] 0) := by
    rw [get_set_self]
    have : lset z 0 [.int .i64 y0, .int .i64 y1, .int .i64 y2, .int .i64 y3, .int .i64 y4, .int .i64 y5, .int .i64 y6, .int .i64 y7, .int .i64 y8, .bool y9, .bool y10, .bool y11, .bool y12, .bool y13, .int .i64 y14, .int .i64 y15, .int .i64 y16, .int .i64 y17, .int .i64 y18, .slice y19a y19l y19c] = [.int .i64 y0, .int .i64 y1, .int .i64 y2, .int .i64 y3, .int .i64 y4, .int .i64 y5, .int .i64 y6, .int .i64 y7, .int .i64 y8, .bool y9, .bool y10, .bool y11, .bool y12, .bool y13, .int .i64 y14, .int .i64 y15, .int .i64 y16, .int .i64 y17, .int .i64 y18, .slice y19a y19l y19c] := lset_all (by rw [hz]; rfl)
    rw [this]
  exact ⟨_, _, _, _, _, _, _, _, _, _, _, _, _, _, _, _, _, _, _, _, _, _, cell_of hv rfl, cell_of hv rfl, cell_of hv rfl, cell_of hv rfl, cell_of hv rfl, cell_of hv rfl, cell_of hv rfl, cell_of hv rfl, cell_of hv rfl, cell_of hv rfl, cell_of hv rfl, cell_of hv rfl, cell_of hv rfl, cell_of hv rfl, cell_of hv rfl, cell_of hv rfl, cell_of hv rfl, cell_of hv rfl, cell_of hv rfl, cell_of hv rfl, _, store_of (o := 0) hr (by rw [hz]; simp) rfl, _, _, _, _, _, _, _, _, _, _, _, _, _, _, _, _, _, _, _, _, _, _, cell_of k rfl, cell_of k rfl, cell_of k rfl, cell_of k rfl, cell_of k rfl, cell_of k rfl, cell_of k rfl, cell_of k rfl, cell_of k rfl, cell_of k rfl, cell_of k rfl, cell_of k rfl, cell_of k rfl, cell_of k rfl, cell_of k rfl, cell_of k rfl, cell_of k rfl, cell_of k rfl, cell_of k rfl, cell_of k rfl, hQ _ (Mod.set ok hr _)⟩
end Go.Ev
namespace Go.Proofs.Cx
open Go Go.Ev
section
variable {H : AH} {b : Nat} {s bs t : List UInt8} {p : Nat}
theorem putvals_ok {F : Nat → Prop} {n0 : Nat} {a : Option Addr} {l c : Nat} {vs : List (Int × Int)} (ok : Ok H) (hw : Wr H n0 b bs) (hV : SlE F H a l vs) (hF : ∀ x, F x → x < H.next ∧ ¬ WrS H b x) (hI : ∀ e ∈ vs, PairI e) (hl : vs.length ≤ 256) (hs : bs.length ≤ 140737488300000) :
    FW Ee F_master_putValues [.pointer (some ⟨b, 0, none⟩), .slice a l c] H fun r H' => r = .tuple ⟨[]⟩ ∧ Wr H' n0 b (bs ++ valsB vs) ∧ WrX H b H' := by
  have hlen := hV.len
  subst hlen
  have l3 := enc_len64 (show vs.length < 18446744073709551616 by omega)
  refine fw_master_putValues ?_
  refine (yw_count ok hw (by omega) (by omega)).mono ?_
  rintro _ H1 ⟨rfl, w1, x1⟩
  refine ⟨rfl, ?_⟩
  refine ⟨fun m t Hb => ∃ p : Nat, t = p ∧ p ≤ vs.length ∧ m = vs.length - p ∧ Wr Hb n0 b (bs ++ enc vs.length ++ (vs.take p).flatMap pairB) ∧ WrX H b Hb, ⟨_, 0, rfl, by omega, rfl, by simpa using w1, x1⟩, ?_⟩
  rintro m t H5 ⟨p, rfl, hp, rfl, w5, x5⟩
  refine cond_dec (fun hlt => ?_) (fun hge => ?_)
  · have hpk : p < vs.length := by omega
    obtain ⟨hs1, c1, c2⟩ := (hV.mod loc_edge x5.mod fun x hx => (hF x hx).2).nth hpk
    obtain ⟨i1, i2⟩ := hI _ (List.getElem_mem hpk)
    refine grd_intro hs1 ⟨by omega, by omega, _, _, c1, c2, ?_⟩
    intro H6 e6
    obtain ⟨H7, e7, b7, g7, n7⟩ := fresh_store (vs := [.int .i64 vs[p].1, .int .i64 vs[p].2]) e6 rfl rfl x5.mod.ok
    have hfl := pairsB_take hI p
    have hbl : (bs ++ enc vs.length ++ (vs.take p).flatMap pairB).length ≤ 140737488350000 := by
      simp only [List.length_append]; omega
    have o7 : ¬ WrS H7 b H5.next := w5.new x5.mod.ok g7 (Nat.le_refl _)
    have x7 := WrX.grow x5.mod.ok w5 g7
    refine ⟨H7, e7, _, cell_of b7 rfl, (yw_signed g7.ok (w5.grow g7) i1 (by omega)).mono ?_⟩
    rintro _ H8 ⟨rfl, w8, x8⟩
    have l8 := enc_len64 (fold_lt i1)
    refine ⟨rfl, _, cell_of (x8.mod.get _ _ o7 b7) rfl, (yw_signed x8.mod.ok w8 i2 (by rw [List.length_append]; unfold sgB at *; omega)).mono ?_⟩
    rintro _ H9 ⟨rfl, w9, x9⟩
    refine ⟨rfl, ?_⟩
    intro t34 e34
    rw [wrap_i64 (by omega) (by omega)] at e34
    subst e34
    refine ⟨vs.length - (p + 1), by omega, p + 1, by simp, by omega, rfl, ?_, ((x5.trans ok x7).trans ok x8).trans ok x9⟩
    rw [take_flat hpk, ← List.append_assoc]
    simpa [pairB] using w9
  · have hpn : p = vs.length := by omega
    subst hpn
    rw [List.take_length, List.append_assoc] at w5
    exact ⟨rfl, w5, x5⟩
theorem tk_vals {vs : List (Int × Int)} (hI : ∀ e ∈ vs, PairI e) (hl : vs.length ≤ 256) (ok : Ok H) (hr : Rd H b s p 0) (hp : p ≤ s.length) (hs : s.length ≤ 4611686018427387904) (hd : s.drop p = valsB vs ++ t) :
    FW Ee F_master_takeValues [.pointer (some ⟨b, 0, none⟩)] H fun r H' => ∃ a l c, r = .slice a l c ∧ SlE (fun x => H.next ≤ x ∧ x < H'.next) H' a l vs ∧ Rd H' b s (p + (valsB vs).length) 0 ∧ s.drop (p + (valsB vs).length) = t ∧ Mod (· = b) H H' := by
  have hbl := ok.lt hr
  have hlenB : (valsB vs).length = (enc vs.length).length + (vs.flatMap pairB).length := by rw [valsB, List.length_append]
  have hd0 := hd
  rw [valsB, List.append_assoc] at hd
  refine fw_master_takeValues ?_
  refine (tk_cnt hl (by omega) ok hr hp hs hd).mono ?_
  rintro _ H1 ⟨rfl, r1, hd1, m1⟩
  have hp1 := drop_le hd (enc_len_pos _)
  have n1 := m1.next
  refine ⟨_, rfl, ?_⟩
  refine ⟨fun m a l c n4 Hb => ∃ (j p' : Nat), n4 = ((vs.length - j : Nat) : Int) ∧ j ≤ vs.length ∧ m = vs.length - j ∧ Rd Hb b s p' 0 ∧ p' ≤ s.length ∧ s.drop p' = (vs.drop j).flatMap pairB ++ t ∧ p' + ((vs.drop j).flatMap pairB).length = p + (valsB vs).length ∧ Own Hb 2 a l c ((vs.take j).flatMap edgeC) ∧ (∀ x, a = some x → H1.next ≤ x.block) ∧ Mod (· = b) H Hb ∧ H1.next ≤ Hb.next,
    ⟨_, 0, _, by simp, by omega, rfl, r1, hp1, by simpa using hd1, by simp only [List.drop_zero]; omega, Own.nil _ _, fun x e => (by cases e), m1, Nat.le_refl _⟩, ?_⟩
  rintro m a l c n4 Hb ⟨j, p', rfl, hj, rfl, hr, hp', hd', hl', hO, hfar, hm, hn⟩
  have hll : l = j := by
    have := hO.len
    rw [flatMap_len (sz := 2) (fun _ => rfl), List.length_take] at this
    omega
  refine cond_dec (fun hpos => ?_) (fun hz => ?_)
  · have hjl : j < vs.length := by omega
    refine (rerr_ok hr).mono ?_
    rintro _ _ ⟨rfl, rfl⟩
    refine ⟨_, rfl, cond_pos rfl ?_⟩
    obtain ⟨i1, i2⟩ := hI _ (List.getElem_mem hjl)
    rw [List.drop_eq_getElem_cons hjl, List.flatMap_cons, pairB, List.append_assoc, List.append_assoc] at hd'
    rw [List.drop_eq_getElem_cons hjl, List.flatMap_cons, pairB, List.length_append, List.length_append] at hl'
    refine (tk_sig i1 hm.ok hr hp' hs hd').mono ?_
    rintro _ H4 ⟨rfl, r4, hd4, m4⟩
    have hp4 := drop_le hd' (enc_len_pos _)
    refine ⟨_, rfl, (tk_sig i2 m4.ok r4 hp4 hs hd4).mono ?_⟩
    rintro _ H5 ⟨rfl, r5, hd5, m5⟩
    have hp5 := drop_le hd4 (enc_len_pos _)
    have m45 := m4.trans m5
    have n5 := m45.next
    refine ⟨_, rfl, ?_⟩
    intro H6 e6
    have g6 : Grow H5 H6 := e6 ▸ Grow.new m5.ok _
    have n6 : H6.next = H5.next + 1 := by rw [e6]; rfl
    obtain ⟨H7, k1, k2, k3, k4⟩ := ((hO.mod m45 fun x hx y ey e => by have := hfar y ey; omega).mod g6 fun _ h => h.elim).append (n := 1) (bytes := 16) (new := [.int .i64 vs[j].1, .int .i64 vs[j].2]) (x := .slice (some ⟨H5.next, 0, none⟩) 1 2) g6.ok rfl (takev_new e6 rfl) (by omega) rfl rfl (by omega) (by omega)
    have lowS : ∀ {x : Nat}, x < H1.next → ¬ (¬ Off a x) := fun hx h => h fun z ez e => by have := hfar z ez; omega
    refine ⟨_, _, _, H7, k1, ?_⟩
    intro t15 e15
    rw [wrap_i64 (by omega) (by omega)] at e15
    refine ⟨vs.length - (j + 1), by omega, j + 1, _, by omega, by omega, rfl, k4.get _ _ (lowS (by omega)) (g6.get _ _ id r5), hp5, hd5, by omega, ?_, ?_, ?_, by omega⟩
    · rw [take_flat hjl]; exact k2
    · intro z ez
      cases ez
      simp only; omega
    · refine ((hm.trans m45).add g6).ext k4 ok fun x hx => .inr ?_
      obtain ⟨z, ez, rfl⟩ := off_not hx
      have := hfar z ez
      omega
  · have hjl : j = vs.length := by omega
    subst hjl
    rw [List.take_length] at hO
    rw [List.drop_length] at hd' hl'
    have hl' : p' = p + (valsB vs).length := by simpa using hl'
    subst hl'
    refine ⟨a, l, c, rfl, ?_, hr, by simpa using hd', hm⟩
    exact edges_sl hO fun x ex => ⟨by have := hfar x ex; omega, own_lt hO hm.ok ex⟩
theorem cnt9 {f : Nat → Int} {i : Nat} (hi : i < 9) : ([.int .i64 (f 0), .int .i64 (f 1), .int .i64 (f 2), .int .i64 (f 3), .int .i64 (f 4), .int .i64 (f 5), .int .i64 (f 6), .int .i64 (f 7), .int .i64 (f 8)] : List Value)[0 + (i : Int).toNat * 1]? = some (.int .i64 (f i)) := by
  rcases nine hi with rfl | rfl | rfl | rfl | rfl | rfl | rfl | rfl | rfl <;> rfl
theorem putrep_ok {F : Nat → Prop} {n0 : Nat} {f : Nat → Int} {h : Nat → Bool} {v : Nat → Int} {a : Option Addr} {l c : Nat} {vs : List (Int × Int)} (hf : ∀ i, 0 ≤ f i ∧ f i ≤ 2147483647) (hv : ∀ i, I64 (v i)) (ok : Ok H) (hw : Wr H n0 b bs) (hV : SlE F H a l vs) (hF : ∀ x, F x → x < H.next ∧ ¬ WrS H b x) (hI : ∀ e ∈ vs, PairI e) (hl : vs.length ≤ 256) (hs : bs.length ≤ 140737488200000) :
    FW Ee F_master_PutReport [.pointer (some ⟨b, 0, none⟩), .agg ⟨repC f h v a l c⟩] H fun r H' => r = .tuple ⟨[]⟩ ∧ Wr H' n0 b (bs ++ repB f h v vs) ∧ WrX H b H' := by
  have hfn : ∀ i, (f i).toNat < 18446744073709551616 := fun i => by have := hf i; omega
  have htot := cntL_len hfn 9 0
  have hagl := aggL_len (h := h) hv 5 0
  refine fw_master_PutReport ?_
  intro H1 e1
  obtain ⟨g1, b1, n1⟩ := new_job ok e1
  refine ⟨_, cell_of b1 rfl, _, cell_of b1 rfl, _, cell_of b1 rfl, _, cell_of b1 rfl, _, cell_of b1 rfl, _, cell_of b1 rfl, _, cell_of b1 rfl, _, cell_of b1 rfl, _, cell_of b1 rfl, ?_⟩
  intro H2 e2
  obtain ⟨g2, c2, n2⟩ := new_job g1.ok e2
  have g02 := g1.trans g2
  have x0 := WrX.grow ok hw g02
  have w2 := hw.grow g02
  have o1 : ¬ WrS H2 b H.next := hw.new ok g02 (Nat.le_refl _)
  have o2 : ¬ WrS H2 b H1.next := hw.new ok g02 (by omega)
  have b2 := g2.get _ _ id b1
  have F2 := x0.keep hF
  have V2 := hV.grow loc_edge g02
  refine ⟨fun m t Hb => ∃ (i : Nat) (cs : List UInt8), t = i ∧ i ≤ 9 ∧ m = 9 - i ∧ Wr Hb n0 b (bs ++ cs) ∧ cs ++ cntL (fun i => (f i).toNat) (9 - i) i = cntL (fun i => (f i).toNat) 9 0 ∧ WrX H2 b Hb, ⟨_, 0, [], rfl, by omega, rfl, by simpa using w2, rfl, WrX.grow g02.ok w2 (.refl g02.ok)⟩, ?_⟩
  rintro m t H3 ⟨i, cs, rfl, hi, rfl, w3, hcs, x3⟩
  have hle := congrArg List.length hcs
  rw [List.length_append] at hle
  refine cond_dec (fun hlt => ?_) (fun hge => ?_)
  · have hi9 : i < 9 := by omega
    have c3 := x3.mod.get _ _ o2 c2
    have hstep : cntL (fun i => (f i).toNat) (9 - i) i = enc (f i).toNat ++ cntL (fun i => (f i).toNat) (9 - (i + 1)) (i + 1) := by
      rw [show 9 - i = 9 - (i + 1) + 1 from by omega]; rfl
    refine ⟨by omega, by omega, f i, cell_of c3 (cnt9 hi9), ?_⟩
    have hfi := hf i
    rw [show f i = (((f i).toNat : Nat) : Int) from by omega]
    refine (yw_count x3.mod.ok w3 (by omega) (by rw [List.length_append]; omega)).mono ?_
    rintro _ H4 ⟨rfl, w4, x4⟩
    refine ⟨rfl, ?_⟩
    intro t33 e33
    rw [wrap_i64 (by omega) (by omega)] at e33
    subst e33
    refine ⟨9 - (i + 1), by omega, i + 1, cs ++ enc (f i).toNat, by simp, by omega, rfl, ?_, ?_, x3.trans g02.ok x4⟩
    · rw [← List.append_assoc]; exact w4
    · rw [List.append_assoc, ← hstep]; exact hcs
  · have hi9 : i = 9 := by omega
    subst hi9
    have hc : cs = cntL (fun i => (f i).toNat) 9 0 := by rw [← hcs]; simp [cntL]
    have b3 := x3.mod.get _ _ o1 b2
    refine ⟨_, _, _, _, _, _, _, _, _, _, cell_of b3 rfl, cell_of b3 rfl, cell_of b3 rfl, cell_of b3 rfl, cell_of b3 rfl, cell_of b3 rfl, cell_of b3 rfl, cell_of b3 rfl, cell_of b3 rfl, cell_of b3 rfl, (putagg_ok (h := h) hv x3.mod.ok w3 (by rw [List.length_append]; omega)).mono ?_⟩
    rintro _ H5 ⟨rfl, w5, x5⟩
    have x25 := x3.trans g02.ok x5
    have b5 := x25.mod.get _ _ o1 b2
    refine ⟨rfl, _, _, _, cell_of b5 rfl, (putvals_ok x5.mod.ok w5 (V2.mod loc_edge x25.mod fun x hx => (F2 x hx).2) (x25.keep F2) hI hl (by unfold aggB; simp only [List.length_append]; omega)).mono ?_⟩
    rintro _ H6 ⟨rfl, w6, x6⟩
    refine ⟨rfl, rfl, ?_, x0.trans ok (x25.trans g02.ok x6)⟩
    rw [hc] at w6
    unfold repB
    simpa only [List.append_assoc] using w6
theorem tk_rep {f : Nat → Int} {h : Nat → Bool} {v : Nat → Int} {vs : List (Int × Int)} (hf : ∀ i, 0 ≤ f i ∧ f i ≤ 2147483647) (hv : ∀ i, I64 (v i)) (hn : ∀ i, i < 5 → h i = false → v i = 0) (hI : ∀ e ∈ vs, PairI e) (hl : vs.length ≤ 256) (ok : Ok H) (hr : Rd H b s p 0) (hp : p ≤ s.length) (hs : s.length ≤ 4611686018427387904) (hd : s.drop p = repB f h v vs ++ t) :
    FW Ee F_master_TakeReport [.pointer (some ⟨b, 0, none⟩)] H fun r H' => ∃ a l c, r = .agg ⟨repC f h v a l c⟩ ∧ SlE (fun x => H.next ≤ x ∧ x < H'.next) H' a l vs ∧ Rd H' b s (p + (repB f h v vs).length) 0 ∧ s.drop (p + (repB f h v vs).length) = t ∧ Mod (· = b) H H' := by
  have hbl := ok.lt hr
  have hlB : (repB f h v vs).length = (cntL (fun i => (f i).toNat) 9 0).length + ((aggB h v).length + (valsB vs).length) := by unfold repB; simp only [List.length_append]
  unfold repB at hd
  rw [List.append_assoc] at hd
  refine fw_master_TakeReport ?_
  intro H1 e1 H2 e2 H3 e3 H4 e4
  obtain ⟨g1, z1, n1⟩ := new_job ok e1
  obtain ⟨g2, x2, n2⟩ := new_job g1.ok e2
  obtain ⟨g3, y3, n3⟩ := new_job g2.ok e3
  obtain ⟨g4, q4, n4⟩ := new_job g3.ok e4
  have g04 := ((g1.trans g2).trans g3).trans g4
  have g24 := g3.trans g4
  have z4 := g24.get _ _ id (g2.get _ _ id z1)
  have x4 : H4.get H1.next = some (.cells (xR f 0) 0) := by
    have e : xR f 0 = [.int .i64 0, .int .i64 0, .int .i64 0, .int .i64 0, .int .i64 0, .int .i64 0, .int .i64 0, .int .i64 0, .int .i64 0, .bool false, .bool false, .bool false, .bool false, .bool false, .int .i64 0, .int .i64 0, .int .i64 0, .int .i64 0, .int .i64 0, .slice none 0 0] := by simp [xR, xF, repC, upTo]
    rw [e]
    exact g24.get _ _ id x2
  have y4 : H4.get H2.next = some (.cells [.int .i64 (upTo 0 f 0 5)] 0) := g4.get _ _ id y3
  refine ⟨fun m t17 Hb => ∃ (i p' : Nat), t17 = i ∧ i ≤ 9 ∧ m = 9 - i ∧ Rd Hb b s p' 0 ∧ p' ≤ s.length ∧ s.drop p' = cntL (fun i => (f i).toNat) (9 - i) i ++ ((aggB h v ++ valsB vs) ++ t) ∧ p' + (cntL (fun i => (f i).toNat) (9 - i) i).length = p + (cntL (fun i => (f i).toNat) 9 0).length ∧ Hb.get H1.next = some (.cells (xR f i) 0) ∧ Hb.get H2.next = some (.cells [.int .i64 (upTo 0 f i 5)] 0) ∧
      Hb.get H3.next = some (.cells [.pointer (some ⟨H1.next, 0, none⟩), .pointer (some ⟨H1.next, 1, none⟩), .pointer (some ⟨H1.next, 2, none⟩), .pointer (some ⟨H1.next, 3, none⟩), .pointer (some ⟨H1.next, 4, none⟩), .pointer (some ⟨H2.next, 0, none⟩), .pointer (some ⟨H1.next, 6, none⟩), .pointer (some ⟨H1.next, 7, none⟩), .pointer (some ⟨H1.next, 8, none⟩)] 0) ∧
      Hb.get H.next = some (.cells [.int .i64 0, .int .i64 0, .int .i64 0, .int .i64 0, .int .i64 0, .int .i64 0, .int .i64 0, .int .i64 0, .int .i64 0, .bool false, .bool false, .bool false, .bool false, .bool false, .int .i64 0, .int .i64 0, .int .i64 0, .int .i64 0, .int .i64 0, .slice none 0 0] 0) ∧ Mod (· = b) H Hb ∧ H4.next ≤ Hb.next,
    ⟨_, 0, p, rfl, by omega, rfl, hr.mod g04 id, hp, hd, rfl, x4, y4, q4, z4, g04.le (fun _ h _ => h.elim) ok, Nat.le_refl _⟩, ?_⟩
  rintro m t17 H5 ⟨i, p', rfl, hi, rfl, r5, hp5, hd5, hl5, x5, y5, q5, z5, m5, n5⟩
  refine cond_dec (fun hlt => ?_) (fun hge => ?_)
  · have hi9 : i < 9 := by omega
    have hfi := hf i
    have hstep : cntL (fun i => (f i).toNat) (9 - i) i = enc (f i).toNat ++ cntL (fun i => (f i).toNat) (9 - (i + 1)) (i + 1) := by
      rw [show 9 - i = 9 - (i + 1) + 1 from by omega]; rfl
    rw [hstep, List.append_assoc] at hd5
    rw [hstep, List.length_append] at hl5
    refine ⟨by omega, by omega, _, rptr_cell hi9 q5, (tk_cnt (m := 2147483647) (show (f i).toNat ≤ 2147483647 by omega) (by omega) m5.ok r5 hp5 hs hd5).mono ?_⟩
    rintro _ H6 ⟨rfl, r6, hd6, m6⟩
    have n6 := m6.next
    have x6 := m6.get _ _ (show ¬ H1.next = b by omega) x5
    have y6 := m6.get _ _ (show ¬ H2.next = b by omega) y5
    have q6 := m6.get _ _ (show ¬ H3.next = b by omega) q5
    have z6 := m6.get _ _ (show ¬ H.next = b by omega) z5
    have hp6 := drop_le hd5 (enc_len_pos _)
    rw [show (((f i).toNat : Nat) : Int) = f i from by omega]
    obtain ⟨k0, H7, k1, k2, k3, k4, k5⟩ := rep_store m6.ok hi9 (by omega) x6 y6
    refine ⟨_, rfl, grd_intro k0 (grd_intro k0 ⟨H7, k1, ?_⟩)⟩
    intro t25 e25
    rw [wrap_i64 (by omega) (by omega)] at e25
    subst e25
    exact ⟨9 - (i + 1), by omega, i + 1, _, by simp, by omega, rfl, r6.mod k4 (by omega), hp6, hd6, by omega, k2, k3, k4.get _ _ (by omega) q6, k4.get _ _ (by omega) z6, (m5.trans m6).ext k4 ok fun x hx => .inr (by omega), by omega⟩
  · have hi9 : i = 9 := by omega
    subst hi9
    have hd5 : s.drop p' = (aggB h v ++ valsB vs) ++ t := by simpa [cntL] using hd5
    have hl5 : p' = p + (cntL (fun i => (f i).toNat) 9 0).length := by simpa [cntL] using hl5
    rw [List.append_assoc] at hd5
    have y5 : H5.get H2.next = some (.cells [.int .i64 (f 5)] 0) := by rw [y5, upTo_lt (show 5 < 9 by omega)]
    refine ⟨_, cell_of y5 rfl, (tk_agg hv hn m5.ok r5 hp5 hs hd5).mono ?_⟩
    rintro _ H8 ⟨rfl, r8, hd8, m8⟩
    have n8 := m8.next
    have y8 := m8.get _ _ (show ¬ H2.next = b by omega) y5
    have hp8 : p' + (aggB h v).length ≤ s.length := by
      have : 0 < (aggB h v).length := by
        unfold aggB aggL
        rw [List.length_append]
        have : 0 < (stepB h v 0).length := by
          unfold stepB
          cases h 0
          · exact enc_len_pos _
          · simp only [cond_true, List.length_append]
            have := enc_len_pos 1
            omega
        omega
      exact drop_le hd5 this
    refine ⟨_, _, _, _, _, _, _, _, _, _, rfl, (tk_vals hI hl m8.ok r8 hp8 hs hd8).mono ?_⟩
    rintro _ H9 ⟨a, l, c, rfl, hV, r9, hd9, m9⟩
    have n9 := m9.next
    have m89 := m8.trans m9
    have y9 := m9.get _ _ (show ¬ H2.next = b by omega) y8
    have x9 := m89.get _ _ (show ¬ H1.next = b by omega) x5
    have z9 := m89.get _ _ (show ¬ H.next = b by omega) z5
    have f0 : ∀ k, k < 9 → k ≠ 5 → xF f 9 k = f k := fun k hk h5 => by unfold xF; rw [if_neg h5, upTo_lt hk]
    have e9 : xR f 9 = [.int .i64 (f 0), .int .i64 (f 1), .int .i64 (f 2), .int .i64 (f 3), .int .i64 (f 4), .int .i64 0, .int .i64 (f 6), .int .i64 (f 7), .int .i64 (f 8), .bool false, .bool false, .bool false, .bool false, .bool false, .int .i64 0, .int .i64 0, .int .i64 0, .int .i64 0, .int .i64 0, .slice none 0 0] := by
      simp [xR, xF, repC, upTo]
    rw [e9] at x9
    have m10 := Mod.set m9.ok x9 (.cells (lset [.int .i64 (f 0), .int .i64 (f 1), .int .i64 (f 2), .int .i64 (f 3), .int .i64 (f 4), .int .i64 0, .int .i64 (f 6), .int .i64 (f 7), .int .i64 (f 8), .bool false, .bool false, .bool false, .bool false, .bool false, .int .i64 0, .int .i64 0, .int .i64 0, .int .i64 0, .int .i64 0, .slice none 0 0] 5 [.int .i64 (f 5)]) 0)
    have s10 := store_of (o := 5) (vs := [.int .i64 (f 5)]) x9 (by simp) rfl
    obtain ⟨H10, h10⟩ : ∃ x, x = H9.set H1.next (.cells (lset [.int .i64 (f 0), .int .i64 (f 1), .int .i64 (f 2), .int .i64 (f 3), .int .i64 (f 4), .int .i64 0, .int .i64 (f 6), .int .i64 (f 7), .int .i64 (f 8), .bool false, .bool false, .bool false, .bool false, .bool false, .int .i64 0, .int .i64 0, .int .i64 0, .int .i64 0, .int .i64 0, .slice none 0 0] 5 [.int .i64 (f 5)]) 0) := ⟨_, rfl⟩
    have x10 : H10.get H1.next = some (.cells [.int .i64 (f 0), .int .i64 (f 1), .int .i64 (f 2), .int .i64 (f 3), .int .i64 (f 4), .int .i64 (f 5), .int .i64 (f 6), .int .i64 (f 7), .int .i64 (f 8), .bool false, .bool false, .bool false, .bool false, .bool false, .int .i64 0, .int .i64 0, .int .i64 0, .int .i64 0, .int .i64 0, .slice none 0 0] 0) := by
      rw [h10, get_set_self]; rfl
    rw [← h10] at m10 s10
    have s11 := store_of (o := 9) (vs := aC h v) x10 (by simp [aC]) rfl
    have m11 := Mod.set m10.ok x10 (.cells (lset [.int .i64 (f 0), .int .i64 (f 1), .int .i64 (f 2), .int .i64 (f 3), .int .i64 (f 4), .int .i64 (f 5), .int .i64 (f 6), .int .i64 (f 7), .int .i64 (f 8), .bool false, .bool false, .bool false, .bool false, .bool false, .int .i64 0, .int .i64 0, .int .i64 0, .int .i64 0, .int .i64 0, .slice none 0 0] 9 (aC h v)) 0)
    obtain ⟨H11, h11⟩ : ∃ x, x = H10.set H1.next (.cells (lset [.int .i64 (f 0), .int .i64 (f 1), .int .i64 (f 2), .int .i64 (f 3), .int .i64 (f 4), .int .i64 (f 5), .int .i64 (f 6), .int .i64 (f 7), .int .i64 (f 8), .bool false, .bool false, .bool false, .bool false, .bool false, .int .i64 0, .int .i64 0, .int .i64 0, .int .i64 0, .int .i64 0, .slice none 0 0] 9 (aC h v)) 0) := ⟨_, rfl⟩
    have x11 : H11.get H1.next = some (.cells (repC f h v none 0 0) 0) := by
      rw [h11, get_set_self]; rfl
    rw [← h11] at m11 s11
    have s12 := store_of (o := 19) (vs := [.slice a l c]) x11 (by simp [repC]) rfl
    have m12 := Mod.set m11.ok x11 (.cells (lset (repC f h v none 0 0) 19 [.slice a l c]) 0)
    obtain ⟨H12, h12⟩ : ∃ x, x = H11.set H1.next (.cells (lset (repC f h v none 0 0) 19 [.slice a l c]) 0) := ⟨_, rfl⟩
    have x12 : H12.get H1.next = some (.cells (repC f h v a l c) 0) := by
      rw [h12, get_set_self]; rfl
    rw [← h12] at m12 s12
    have x912 := (m10.trans m11).trans m12
    have z12 := x912.get _ _ (show ¬ H.next = H1.next by omega) z9
    have n12 : H12.next = H9.next := by rw [h12, h11, h10]; rfl
    refine ⟨_, _, _, rfl, H10, s10, H11, s11, H12, s12, cell_of y9 rfl, cell_of y8 rfl, ?_⟩
    refine ret_rep (Q := fun r H' => ∃ a l c, r = .agg ⟨repC f h v a l c⟩ ∧ SlE (fun x => H.next ≤ x ∧ x < H'.next) H' a l vs ∧ Rd H' b s (p + (repB f h v vs).length) 0 ∧ s.drop (p + (repB f h v vs).length) = t ∧ Mod (· = b) H H') m12.ok x12 z12 rfl fun Hx mx => ⟨a, l, c, rfl, ?_, ?_, ?_, ?_⟩
    · have nx := mx.next
      exact ((hV.mod loc_edge x912 fun x hx e => by omega).mod loc_edge mx fun x hx e => by omega).weak (fun x hx _ => ⟨by omega, by omega⟩) (edge_lt mx.ok)
    · have : p + (repB f h v vs).length = p' + (aggB h v).length + (valsB vs).length := by omega
      rw [this]
      exact mx.get _ _ (by omega) (x912.get _ _ (by omega) r9)
    · have : p + (repB f h v vs).length = p' + (aggB h v).length + (valsB vs).length := by omega
      rw [this]; exact hd9
    · exact ((m5.trans m89).ext x912 ok fun x hx => .inr (by omega)).ext mx ok fun x hx => .inr (by omega)
end
end Go.Proofs.Cx
