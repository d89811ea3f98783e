/- Jobs that come in. Aggregates, reports: what is put is taken. Reports: what is put is taken. Tasks: what is put is taken. Tasks that are taken. -/
import Derived.Test.YtphgkdcifemmmaaGreatB3
import Derived.Test.YtphgkdcifemmmaaGreatC4
import Derived.Test.YtphgkdcifemmmaaGreatVc1
namespace Go.Proofs.Cx
open Go Go.Ev Go.RowKit
/-! graphs as they come in -/
section
variable {Hh : Type} {enc : TypeId × Value → Hh} {W : World} [Sy]
end
def toE (x : Int × Int × Unit) : Int × Int := (x.1, x.2.1)
theorem lt_of_cell {H : AH} (ok : Ok H) {b i : Nat} {v : Value} (h : H.cell b i = some v) : b < H.next := by
  rcases Nat.lt_or_ge b H.next with h1 | h1
  · exact h1
  · have := ok b h1
    unfold AH.cell AH.rd at h
    rw [this] at h; cases h
theorem Sl.into {α β : Type} {sz : Nat} {P : AH → Nat → Nat → α → Prop} {Q : AH → Nat → Nat → β → Prop} {F : Nat → Prop} {H : AH} {f : α → β} {a : Option Addr} {l : Nat} {xs : List α} (h : Sl (fun _ => True) H sz P a l xs)
    (hF : ∀ b o x, P H b o x → F b) (k : ∀ b o x, x ∈ xs → P H b o x → Q H b o (f x)) : Sl F H sz Q a l (xs.map f) := by
  refine ⟨by rw [List.length_map]; exact h.len, fun hp => ⟨(h.base hp).1, ?_⟩, fun i hi => ?_⟩
  · have h1 : 0 < xs.length := by rw [← h.len]; exact hp
    exact hF _ _ _ (h.cells 0 h1)
  · rw [List.length_map] at hi
    rw [List.getElem_map]
    exact k _ _ _ (List.getElem_mem _) (h.cells i hi)
theorem i64_wf {x : Int} (h : (Lit.int .i64 x).wf = true) : I64 x := by
  simp only [Lit.wf, Bool.and_eq_true, decide_eq_true_eq] at h
  have h1 : IntKind.i64.min = -9223372036854775808 := by decide
  have h2 : IntKind.i64.max = 9223372036854775807 := by decide
  rw [h1, h2] at h
  exact h
theorem ints_in {H : AH} (ok : Ok H) {a : Option Addr} {l : Nat} {xs : List Int} (h : Sl (fun _ => True) H 1 (PCs (RInt .i64)) a l xs) : SlI (fun b => b < H.next) H a l xs ∧ ∀ x ∈ xs, I64 x := by
  have one : ∀ b o x, PCs (RInt .i64) H b o x → PInt .i64 H b o x ∧ I64 x := by
    rintro b o x ⟨cs, hc, rfl, w⟩
    exact ⟨hc 0 _ rfl, i64_wf w⟩
  refine ⟨?_, fun x hx => ?_⟩
  · have := Sl.into (f := fun x : Int => x) (Q := PInt .i64) h (fun b o x hx => lt_of_cell ok (one b o x hx).1) (fun b o x _ hx => (one b o x hx).1)
    rwa [List.map_id'] at this
  · obtain ⟨i, hi, rfl⟩ := List.getElem_of_mem hx
    exact (one _ _ _ (h.cells i hi)).2
section
variable {Hh : Type} {enc : TypeId × Value → Hh} {W : World} [Sy]
end
end Go.Proofs.Cx
namespace Go.Ev
open Go
def aC (h : Nat → Bool) (v : Nat → Int) : List Value := [.bool (h 0), .bool (h 1), .bool (h 2), .bool (h 3), .bool (h 4), .int .i64 (v 0), .int .i64 (v 1), .int .i64 (v 2), .int .i64 (v 3), .int .i64 (v 4)]
def stepB (h : Nat → Bool) (v : Nat → Int) (i : Nat) : List UInt8 := cond (h i) (enc 1 ++ sgB (v i)) (enc 0)
def aggL (h : Nat → Bool) (v : Nat → Int) : Nat → Nat → List UInt8
  | 0, _ => []
  | k + 1, i => stepB h v i ++ aggL h v k (i + 1)
def aggB (h : Nat → Bool) (v : Nat → Int) : List UInt8 := aggL h v 5 0
def cntL (f : Nat → Nat) : Nat → Nat → List UInt8
  | 0, _ => []
  | k + 1, i => enc (f i) ++ cntL f k (i + 1)
theorem aggL_len {h : Nat → Bool} {v : Nat → Int} (hv : ∀ i, I64 (v i)) : ∀ k i, (aggL h v k i).length ≤ k * 20
  | 0, _ => by simp [aggL]
  | k + 1, i => by
    have h1 := aggL_len (h := h) hv k (i + 1)
    have h2 := enc_len64 (fold_lt (hv i))
    have h3 := enc_len64 (show 1 < 18446744073709551616 by omega)
    have h4 := enc_len64 (show 0 < 18446744073709551616 by omega)
    unfold aggL stepB sgB
    rw [List.length_append]
    cases h i
    · simp only [cond_false]; omega
    · simp only [cond_true, List.length_append]; omega
theorem cntL_len {f : Nat → Nat} (hf : ∀ i, f i < 18446744073709551616) : ∀ k i, (cntL f k i).length ≤ k * 10
  | 0, _ => by simp [cntL]
  | k + 1, i => by
    have h1 := cntL_len hf k (i + 1)
    have h2 := enc_len64 (hf i)
    unfold cntL
    rw [List.length_append]; omega
def upTo {α : Type} (z : α) (f : Nat → α) (i : Nat) : Nat → α := fun k => if k < i then f k else z
theorem upTo_lt {α : Type} {z : α} {f : Nat → α} {i k : Nat} (h : k < i) : upTo z f i k = f k := if_pos h
theorem five {i : Nat} (h : i < 5) : i = 0 ∨ i = 1 ∨ i = 2 ∨ i = 3 ∨ i = 4 := by omega
end Go.Ev
namespace Go.Proofs.Cx
open Go Go.Ev
section
variable {H : AH} {b : Nat} {s bs t : List UInt8} {p : Nat}
theorem yw_bool {n0 : Nat} {x : Bool} (ok : Ok H) (h : Wr H n0 b bs) (hs : bs.length ≤ 140737488355000) :
    FW Ee F_wire_Writer_Bool [.pointer (some ⟨b, 0, none⟩), .bool x] H fun r H' => r = .tuple ⟨[]⟩ ∧ Wr H' n0 b (bs ++ enc (cond x 1 0)) ∧ WrX H b H' := by
  refine fw_wire_Writer_Bool ?_
  cases x
  · refine cond_neg rfl ((yw_number (n := 0) ok h (by omega) hs).mono ?_)
    rintro _ H2 ⟨rfl, h2⟩
    exact ⟨rfl, rfl, h2⟩
  · refine cond_pos rfl ((yw_number (n := 1) ok h (by omega) hs).mono ?_)
    rintro _ H2 ⟨rfl, h2⟩
    exact ⟨rfl, rfl, h2⟩
set_option maxRecDepth 100000 in
theorem idx5 {b0 b1 b2 b3 b4 : Bool} (h : Nat → Bool) (e : [b0, b1, b2, b3, b4] = [h 0, h 1, h 2, h 3, h 4]) {i : Nat} (hi : i < 5) : indexv Ee T_5_bool (.agg ⟨[.bool b0, .bool b1, .bool b2, .bool b3, .bool b4]⟩) (.int .i64 (i : Int)) = some (.bool (h i)) := by
  cases e
  rcases five hi with rfl | rfl | rfl | rfl | rfl <;> kernel_rfl
theorem aC_v {h : Nat → Bool} {v : Nat → Int} {i : Nat} (hi : i < 5) : (aC h v)[5 + i]? = some (.int .i64 (v i)) := by
  rcases five hi with rfl | rfl | rfl | rfl | rfl <;> rfl
theorem aC_h {h : Nat → Bool} {v : Nat → Int} {i : Nat} (hi : i < 5) : (aC h v)[0 + i]? = some (.bool (h i)) := by
  rcases five hi with rfl | rfl | rfl | rfl | rfl <;> rfl
theorem putagg_ok {n0 : Nat} {h : Nat → Bool} {v : Nat → Int} (hv : ∀ i, I64 (v i)) (ok : Ok H) (hw : Wr H n0 b bs) (hs : bs.length ≤ 140737488354000) :
    FW Ee F_agg_Put [.pointer (some ⟨b, 0, none⟩), .agg ⟨aC h v⟩] H fun r H' => r = .tuple ⟨[]⟩ ∧ Wr H' n0 b (bs ++ aggB h v) ∧ WrX H b H' := by
  refine fw_agg_Put ?_
  intro H1 e1
  obtain ⟨g1, b1, n1⟩ := new_job ok e1
  have b1 : H1.get H.next = some (.cells (aC h v) 0) := b1
  have x0 := WrX.grow ok hw g1
  have w1 := hw.grow g1
  have o1 : ¬ WrS H1 b H.next := hw.new ok g1 (Nat.le_refl _)
  refine ⟨_, _, _, _, _, cell_of b1 rfl, cell_of b1 rfl, cell_of b1 rfl, cell_of b1 rfl, cell_of b1 rfl, ?_⟩
  refine ⟨fun m t Hb => ∃ (i : Nat) (cs : List UInt8), t = i ∧ i ≤ 5 ∧ m = 5 - i ∧ Wr Hb n0 b (bs ++ cs) ∧ cs ++ aggL h v (5 - i) i = aggB h v ∧ WrX H1 b Hb, ⟨_, 0, [], rfl, by omega, rfl, by simpa using w1, rfl, WrX.grow g1.ok w1 (.refl g1.ok)⟩, ?_⟩
  rintro m t H2 ⟨i, cs, rfl, hi, rfl, w2, hcs, x2⟩
  have htot := aggL_len (h := h) hv 5 0
  have hl := congrArg List.length hcs
  rw [List.length_append] at hl
  refine cond_dec (fun hlt => ?_) (fun hge => ?_)
  · have hi5 : i < 5 := by omega
    have hbl : (bs ++ cs).length ≤ 140737488354200 := by rw [List.length_append]; unfold aggB at hl; omega
    have hstep : aggL h v (5 - i) i = stepB h v i ++ aggL h v (5 - (i + 1)) (i + 1) := by
      rw [show 5 - i = 5 - (i + 1) + 1 from by omega]; rfl
    refine ⟨h i, idx5 h rfl hi5, (yw_bool (x := h i) x2.mod.ok w2 (by omega)).mono ?_⟩
    rintro _ H3 ⟨rfl, w3, x3⟩
    have x13 := x2.trans g1.ok x3
    refine ⟨rfl, cond_intro (fun hh => ?_) (fun hh => ?_)⟩
    · refine ⟨by omega, by omega, v i, ?_, ?_⟩
      · rw [show 5 + ((i : Nat) : Int).toNat * 1 = 5 + i from by omega]
        exact cell_of (x13.mod.get _ _ o1 b1) (aC_v hi5)
      have k1 := enc_len64 (show cond (h i) 1 0 < 18446744073709551616 by cases h i <;> simp)
      refine (yw_signed x3.mod.ok w3 (hv i) (by rw [List.length_append]; omega)).mono ?_
      rintro _ H4 ⟨rfl, w4, x4⟩
      refine ⟨rfl, ?_⟩
      intro t22 e22
      rw [wrap_i64 (by omega) (by omega)] at e22
      subst e22
      refine ⟨5 - (i + 1), by omega, i + 1, cs ++ stepB h v i, by simp, by omega, rfl, ?_, ?_, x13.trans g1.ok x4⟩
      · unfold stepB
        rw [hh] at w4 ⊢
        simpa only [cond_true, List.append_assoc] using w4
      · rw [List.append_assoc, ← hstep]; exact hcs
    · intro t22 e22
      rw [wrap_i64 (by omega) (by omega)] at e22
      subst e22
      refine ⟨5 - (i + 1), by omega, i + 1, cs ++ stepB h v i, by simp, by omega, rfl, ?_, ?_, x13⟩
      · unfold stepB
        rw [hh] at w3 ⊢
        simpa only [cond_false, List.append_assoc] using w3
      · rw [List.append_assoc, ← hstep]; exact hcs
  · have hi5 : i = 5 := by omega
    subst hi5
    refine ⟨rfl, ?_, x0.trans ok x2⟩
    have : cs = aggB h v := by rw [← hcs]; simp [aggL]
    rw [← this]; exact w2
theorem aC_len (h : Nat → Bool) (v : Nat → Int) : (aC h v).length = 10 := rfl
theorem ret_agg {Q : Value → AH → Prop} {H : AH} {vb rb : Nat} {h : Nat → Bool} {v : Nat → Int} {g : Nat → Bool} {w : Nat → Int} (ok : Ok H) (hv : H.get vb = some (.cells (aC h v) 0)) (hr : H.get rb = some (.cells (aC g w) 0)) (hQ : ∀ H3, Mod (· = rb) H H3 → Q (.agg ⟨aC h v⟩) H3) :
    ∃ (t0 : Bool) (t1 : Bool) (t2 : Bool) (t3 : Bool) (t4 : Bool) (t5 : Int) (t6 : Int) (t7 : Int) (t8 : Int) (t9 : Int),
      H.cell vb (0 + 0) = some (.bool t0) ∧ H.cell vb (0 + 1) = some (.bool t1) ∧ H.cell vb (0 + 2) = some (.bool t2) ∧ H.cell vb (0 + 3) = some (.bool t3) ∧ H.cell vb (0 + 4) = some (.bool t4) ∧ H.cell vb (0 + 5) = some (.int .i64 t5) ∧ H.cell vb (0 + 6) = some (.int .i64 t6) ∧ H.cell vb (0 + 7) = some (.int .i64 t7) ∧ H.cell vb (0 + 8) = some (.int .i64 t8) ∧ H.cell vb (0 + 9) = some (.int .i64 t9) ∧
      ∃ (H10 : AH), storeCellsv H rb 0 [.bool t0, .bool t1, .bool t2, .bool t3, .bool t4, .int .i64 t5, .int .i64 t6, .int .i64 t7, .int .i64 t8, .int .i64 t9] = some H10 ∧
      ∃ (r0 : Bool) (r1 : Bool) (r2 : Bool) (r3 : Bool) (r4 : Bool) (r5 : Int) (r6 : Int) (r7 : Int) (r8 : Int) (r9 : Int),
      H10.cell rb (0 + 0) = some (.bool r0) ∧ H10.cell rb (0 + 1) = some (.bool r1) ∧ H10.cell rb (0 + 2) = some (.bool r2) ∧ H10.cell rb (0 + 3) = some (.bool r3) ∧ H10.cell rb (0 + 4) = some (.bool r4) ∧ H10.cell rb (0 + 5) = some (.int .i64 r5) ∧ H10.cell rb (0 + 6) = some (.int .i64 r6) ∧ H10.cell rb (0 + 7) = some (.int .i64 r7) ∧ H10.cell rb (0 + 8) = some (.int .i64 r8) ∧ H10.cell rb (0 + 9) = some (.int .i64 r9) ∧
      Q (.agg ⟨[.bool r0, .bool r1, .bool r2, .bool r3, .bool r4, .int .i64 r5, .int .i64 r6, .int .i64 r7, .int .i64 r8, .int .i64 r9]⟩) H10 := by
  have k := get_set_self H rb (.cells (lset (aC g w) 0 (aC h v)) 0)
  exact ⟨_, _, _, _, _, _, _, _, _, _, cell_of hv rfl, cell_of hv rfl, cell_of hv rfl, cell_of hv rfl, cell_of hv rfl, cell_of hv rfl, cell_of hv rfl, cell_of hv rfl, cell_of hv rfl, cell_of hv rfl, _, store_of (o := 0) hr (by simp [aC]) rfl,
    _, _, _, _, _, _, _, _, _, _, cell_of k rfl, cell_of k rfl, cell_of k rfl, cell_of k rfl, cell_of k rfl, cell_of k rfl, cell_of k rfl, cell_of k rfl, cell_of k rfl, cell_of k rfl, hQ _ (Mod.set ok hr _)⟩
end
end Go.Proofs.Cx
namespace Go.Ev
open Go
def repC (f : Nat → Int) (h : Nat → Bool) (v : Nat → Int) (a : Option Addr) (l c : Nat) : List Value :=
  [.int .i64 (f 0), .int .i64 (f 1), .int .i64 (f 2), .int .i64 (f 3), .int .i64 (f 4), .int .i64 (f 5), .int .i64 (f 6), .int .i64 (f 7), .int .i64 (f 8), .bool (h 0), .bool (h 1), .bool (h 2), .bool (h 3), .bool (h 4), .int .i64 (v 0), .int .i64 (v 1), .int .i64 (v 2), .int .i64 (v 3), .int .i64 (v 4), .slice a l c]
def valsB (vs : List (Int × Int)) : List UInt8 := enc vs.length ++ vs.flatMap pairB
def repB (f : Nat → Int) (h : Nat → Bool) (v : Nat → Int) (vs : List (Int × Int)) : List UInt8 := cntL (fun i => (f i).toNat) 9 0 ++ (aggB h v ++ valsB vs)
theorem nine {i : Nat} (h : i < 9) : i = 0 ∨ i = 1 ∨ i = 2 ∨ i = 3 ∨ i = 4 ∨ i = 5 ∨ i = 6 ∨ i = 7 ∨ i = 8 := by omega
theorem lset_all : ∀ {z w : List Value}, z.length = w.length → lset z 0 w = w := by
  intro z w h
  have : ∀ (w : List Value) (z : List Value), z.length = w.length → lset z 0 w = w := by
    intro w
    induction w with
    | nil => intro z h; have := List.length_eq_zero_iff.1 h; subst this; rfl
    | cons x w ih =>
      intro z h
      cases z with
      | nil => simp at h
      | cons y z =>
        have := ih z (by simpa using h)
        simp only [lset] at this ⊢
        exact congrArg _ this
  exact this w z h
theorem pairs_len : ∀ {es : List (Int × Int)}, (∀ e ∈ es, PairI e) → (es.flatMap pairB).length ≤ es.length * 20
  | [], _ => by simp
  | e :: es, h => by
    have h1 := pairs_len (es := es) fun x hx => h x (List.mem_cons_of_mem _ hx)
    have h2 := enc_len64 (fold_lt (h e List.mem_cons_self).1)
    have h3 := enc_len64 (fold_lt (h e List.mem_cons_self).2)
    rw [List.flatMap_cons, List.length_append, List.length_cons]
    have : (pairB e).length ≤ 20 := by rw [pairB, List.length_append]; unfold sgB; omega
    omega
def rptr (xb eb i : Nat) : Option Addr := if i = 5 then some ⟨eb, 0, none⟩ else some ⟨xb, i, none⟩
def xF (f : Nat → Int) (i : Nat) : Nat → Int := fun k => if k = 5 then 0 else upTo 0 f i k
def xR (f : Nat → Int) (i : Nat) : List Value := repC (xF f i) (fun _ => false) (fun _ => 0) none 0 0
theorem rep_store {f : Nat → Int} {H6 : AH} {xb eb i : Nat} (ok : Ok H6) (hi : i < 9) (hne : xb ≠ eb) (hx : H6.get xb = some (.cells (xR f i) 0)) (he : H6.get eb = some (.cells [.int .i64 (upTo 0 f i 5)] 0)) :
    (rptr xb eb i).isSome = true ∧ ∃ H7, storeCellsv H6 (adr (rptr xb eb i)).block (adr (rptr xb eb i)).off [.int .i64 (f i)] = some H7 ∧ H7.get xb = some (.cells (xR f (i + 1)) 0) ∧ H7.get eb = some (.cells [.int .i64 (upTo 0 f (i + 1) 5)] 0) ∧ Mod (fun x => x = xb ∨ x = eb) H6 H7 ∧ H7.next = H6.next := by
  unfold rptr
  by_cases h5 : i = 5
  · rw [if_pos h5]
    subst h5
    have m := Mod.set ok he (.cells [.int .i64 (f 5)] 0)
    refine ⟨rfl, _, store_of (o := 0) he (by simp) rfl, ?_, ?_, m.le (fun x hx _ => .inr hx) ok, rfl⟩
    · have := m.get _ _ hne hx
      have e : xR f 5 = xR f (5 + 1) := by simp [xR, xF, repC, upTo]
      rw [e] at this
      exact this
    · rw [upTo_lt (show 5 < 5 + 1 by omega)]
      exact get_set_self _ _ _
  · rw [if_neg h5]
    have hset : lset (xR f i) i [.int .i64 (f i)] = xR f (i + 1) := by
      rcases nine hi with rfl | rfl | rfl | rfl | rfl | rfl | rfl | rfl | rfl <;> first | exact (h5 rfl).elim | (simp [xR, xF, repC, upTo, lset])
    have m := Mod.set ok hx (.cells (xR f (i + 1)) 0)
    have s := store_of (o := i) (vs := [.int .i64 (f i)]) hx (by simp [xR, repC]; omega) rfl
    rw [hset] at s
    refine ⟨rfl, _, s, get_set_self _ _ _, ?_, m.le (fun x hx _ => .inl hx) ok, rfl⟩
    have := m.get _ _ (fun e => hne e.symm) he
    rw [this]
    unfold upTo
    by_cases h1 : 5 < i
    · rw [if_pos h1, if_pos (by omega)]
    · rw [if_neg h1, if_neg (by omega)]
theorem rptr_cell {H : AH} {pb xb eb i : Nat} (hi : i < 9) (h : H.get pb = some (.cells [.pointer (some ⟨xb, 0, none⟩), .pointer (some ⟨xb, 1, none⟩), .pointer (some ⟨xb, 2, none⟩), .pointer (some ⟨xb, 3, none⟩), .pointer (some ⟨xb, 4, none⟩), .pointer (some ⟨eb, 0, none⟩), .pointer (some ⟨xb, 6, none⟩), .pointer (some ⟨xb, 7, none⟩), .pointer (some ⟨xb, 8, none⟩)] 0)) :
    H.cell pb (0 + (i : Int).toNat * 1) = some (.pointer (rptr xb eb i)) := by
  refine cell_of h ?_
  rcases nine hi with rfl | rfl | rfl | rfl | rfl | rfl | rfl | rfl | rfl <;> rfl
theorem ret_rep {Q : Value → AH → Prop} {H : AH} {vb rb : Nat} {y0 : Int} {y1 : Int} {y2 : Int} {y3 : Int} {y4 : Int} {y5 : Int} {y6 : Int} {y7 : Int} {y8 : Int} {y9 : Bool} {y10 : Bool} {y11 : Bool} {y12 : Bool} {y13 : Bool} {y14 : Int} {y15 : Int} {y16 : Int} {y17 : Int} {y18 : Int} {y19a : Option Addr} {y19l : Nat} {y19c : Nat} {z : List Value} (ok : Ok H) (hv : H.get vb = some (.cells [.int .i64 y0, .int .i64 y1, .int .i64 y2, .int .i64 y3, .int .i64 y4, .int .i64 y5, .int .i64 y6, .int .i64 y7, .int .i64 y8, .bool y9, .bool y10, .bool y11, .bool y12, .bool y13, .int .i64 y14, .int .i64 y15, .int .i64 y16, .int .i64 y17, .int .i64 y18, .slice y19a y19l y19c] 0)) (hr : H.get rb = some (.cells z 0)) (hz : z.length = 20) (hQ : ∀ H3, Mod (· = rb) H H3 → Q (.agg ⟨[.int .i64 y0, .int .i64 y1, .int .i64 y2, .int .i64 y3, .int .i64 y4, .int .i64 y5, .int .i64 y6, .int .i64 y7, .int .i64 y8, .bool y9, .bool y10, .bool y11, .bool y12, .bool y13, .int .i64 y14, .int .i64 y15, .int .i64 y16, .int .i64 y17, .int .i64 y18, .slice y19a y19l y19c]⟩) H3) :
    ∃ (t0 : Int) (t1 : Int) (t2 : Int) (t3 : Int) (t4 : Int) (t5 : Int) (t6 : Int) (t7 : Int) (t8 : Int) (t9 : Bool) (t10 : Bool) (t11 : Bool) (t12 : Bool) (t13 : Bool) (t14 : Int) (t15 : Int) (t16 : Int) (t17 : Int) (t18 : Int) (t19a : Option Addr) (t19l : Nat) (t19c : Nat), H.cell vb (0 + 0) = some (.int .i64 t0) ∧ H.cell vb (0 + 1) = some (.int .i64 t1) ∧ H.cell vb (0 + 2) = some (.int .i64 t2) ∧ H.cell vb (0 + 3) = some (.int .i64 t3) ∧ H.cell vb (0 + 4) = some (.int .i64 t4) ∧ H.cell vb (0 + 5) = some (.int .i64 t5) ∧ H.cell vb (0 + 6) = some (.int .i64 t6) ∧ H.cell vb (0 + 7) = some (.int .i64 t7) ∧ H.cell vb (0 + 8) = some (.int .i64 t8) ∧ H.cell vb (0 + 9) = some (.bool t9) ∧ H.cell vb (0 + 10) = some (.bool t10) ∧ H.cell vb (0 + 11) = some (.bool t11) ∧ H.cell vb (0 + 12) = some (.bool t12) ∧ H.cell vb (0 + 13) = some (.bool t13) ∧ H.cell vb (0 + 14) = some (.int .i64 t14) ∧ H.cell vb (0 + 15) = some (.int .i64 t15) ∧ H.cell vb (0 + 16) = some (.int .i64 t16) ∧ H.cell vb (0 + 17) = some (.int .i64 t17) ∧ H.cell vb (0 + 18) = some (.int .i64 t18) ∧ H.cell vb (0 + 19) = some (.slice t19a t19l t19c) ∧
      ∃ (H10 : AH), storeCellsv H rb 0 [.int .i64 t0, .int .i64 t1, .int .i64 t2, .int .i64 t3, .int .i64 t4, .int .i64 t5, .int .i64 t6, .int .i64 t7, .int .i64 t8, .bool t9, .bool t10, .bool t11, .bool t12, .bool t13, .int .i64 t14, .int .i64 t15, .int .i64 t16, .int .i64 t17, .int .i64 t18, .slice t19a t19l t19c] = some H10 ∧
      ∃ (r0 : Int) (r1 : Int) (r2 : Int) (r3 : Int) (r4 : Int) (r5 : Int) (r6 : Int) (r7 : Int) (r8 : Int) (r9 : Bool) (r10 : Bool) (r11 : Bool) (r12 : Bool) (r13 : Bool) (r14 : Int) (r15 : Int) (r16 : Int) (r17 : Int) (r18 : Int) (r19a : Option Addr) (r19l : Nat) (r19c : Nat), H10.cell rb (0 + 0) = some (.int .i64 r0) ∧ H10.cell rb (0 + 1) = some (.int .i64 r1) ∧ H10.cell rb (0 + 2) = some (.int .i64 r2) ∧ H10.cell rb (0 + 3) = some (.int .i64 r3) ∧ H10.cell rb (0 + 4) = some (.int .i64 r4) ∧ H10.cell rb (0 + 5) = some (.int .i64 r5) ∧ H10.cell rb (0 + 6) = some (.int .i64 r6) ∧ H10.cell rb (0 + 7) = some (.int .i64 r7) ∧ H10.cell rb (0 + 8) = some (.int .i64 r8) ∧ H10.cell rb (0 + 9) = some (.bool r9) ∧ H10.cell rb (0 + 10) = some (.bool r10) ∧ H10.cell rb (0 + 11) = some (.bool r11) ∧ H10.cell rb (0 + 12) = some (.bool r12) ∧ H10.cell rb (0 + 13) = some (.bool r13) ∧ H10.cell rb (0 + 14) = some (.int .i64 r14) ∧ H10.cell rb (0 + 15) = some (.int .i64 r15) ∧ H10.cell rb (0 + 16) = some (.int .i64 r16) ∧ H10.cell rb (0 + 17) = some (.int .i64 r17) ∧ H10.cell rb (0 + 18) = some (.int .i64 r18) ∧ H10.cell rb (0 + 19) = some (.slice r19a r19l r19c) ∧
      Q (.agg ⟨[.int .i64 r0, .int .i64 r1, .int .i64 r2, .int .i64 r3, .int .i64 r4, .int .i64 r5, .int .i64 r6, .int .i64 r7, .int .i64 r8, .bool r9, .bool r10, .bool r11, .bool r12, .bool r13, .int .i64 r14, .int .i64 r15, .int .i64 r16, .int .i64 r17, .int .i64 r18, .slice r19a r19l r19c]⟩) H10 := by
  have k : (H.set rb (.cells (lset z 0 [.int .i64 y0, .int .i64 y1, .int .i64 y2, .int .i64 y3, .int .i64 y4, .int .i64 y5, .int .i64 y6, .int .i64 y7, .int .i64 y8, .bool y9, .bool y10, .bool y11, .bool y12, .bool y13, .int .i64 y14, .int .i64 y15, .int .i64 y16, .int .i64 y17, .int .i64 y18, .slice y19a y19l y19c]) 0)).get rb = some (.cells [.int .i64 y0, .int .i64 y1, .int .i64 y2, .int .i64 y3, .int .i64 y4, .int .i64 y5, .int .i64 y6, .int .i64 y7, .int .i64 y8, .bool y9, .bool y10, .bool y11, .bool y12, .bool y13, .int .i64 y14, .int .i64 y15, .int .i64 y16, .int .i64 y17, .int .i64 y18, .slice y19a y19l y19c] 0) := by
    rw [get_set_self]
    have : lset z 0 [.int .i64 y0, .int .i64 y1, .int .i64 y2, .int .i64 y3, .int .i64 y4, .int .i64 y5, .int .i64 y6, .int .i64 y7, .int .i64 y8, .bool y9, .bool y10, .bool y11, .bool y12, .bool y13, .int .i64 y14, .int .i64 y15, .int .i64 y16, .int .i64 y17, .int .i64 y18, .slice y19a y19l y19c] = [.int .i64 y0, .int .i64 y1, .int .i64 y2, .int .i64 y3, .int .i64 y4, .int .i64 y5, .int .i64 y6, .int .i64 y7, .int .i64 y8, .bool y9, .bool y10, .bool y11, .bool y12, .bool y13, .int .i64 y14, .int .i64 y15, .int .i64 y16, .int .i64 y17, .int .i64 y18, .slice y19a y19l y19c] := lset_all (by rw [hz]; rfl)
    rw [this]
  exact ⟨_, _, _, _, _, _, _, _, _, _, _, _, _, _, _, _, _, _, _, _, _, _, cell_of hv rfl, cell_of hv rfl, cell_of hv rfl, cell_of hv rfl, cell_of hv rfl, cell_of hv rfl, cell_of hv rfl, cell_of hv rfl, cell_of hv rfl, cell_of hv rfl, cell_of hv rfl, cell_of hv rfl, cell_of hv rfl, cell_of hv rfl, cell_of hv rfl, cell_of hv rfl, cell_of hv rfl, cell_of hv rfl, cell_of hv rfl, cell_of hv rfl, _, store_of (o := 0) hr (by rw [hz]; simp) rfl, _, _, _, _, _, _, _, _, _, _, _, _, _, _, _, _, _, _, _, _, _, _, cell_of k rfl, cell_of k rfl, cell_of k rfl, cell_of k rfl, cell_of k rfl, cell_of k rfl, cell_of k rfl, cell_of k rfl, cell_of k rfl, cell_of k rfl, cell_of k rfl, cell_of k rfl, cell_of k rfl, cell_of k rfl, cell_of k rfl, cell_of k rfl, cell_of k rfl, cell_of k rfl, cell_of k rfl, cell_of k rfl, hQ _ (Mod.set ok hr _)⟩
end Go.Ev
namespace Go.Proofs.Cx
open Go Go.Ev
section
variable {H : AH} {b : Nat} {s bs t : List UInt8} {p : Nat}
theorem cnt9 {f : Nat → Int} {i : Nat} (hi : i < 9) : ([.int .i64 (f 0), .int .i64 (f 1), .int .i64 (f 2), .int .i64 (f 3), .int .i64 (f 4), .int .i64 (f 5), .int .i64 (f 6), .int .i64 (f 7), .int .i64 (f 8)] : List Value)[0 + (i : Int).toNat * 1]? = some (.int .i64 (f i)) := by
  rcases nine hi with rfl | rfl | rfl | rfl | rfl | rfl | rfl | rfl | rfl <;> rfl
end
end Go.Proofs.Cx
namespace Go.Ev
open Go
abbrev Sl3 := Option Addr × Nat × Nat
def nil3 : Sl3 := (none, 0, 0)
def sv (x : Sl3) : Value := .slice x.1 x.2.1 x.2.2
def upd {α : Type} (s : Nat → α) (i : Nat) (x : α) : Nat → α := fun k => if k = i then x else s k
theorem upd_same {α : Type} {s : Nat → α} {i : Nat} {x : α} : upd s i x i = x := if_pos rfl
theorem upd_ne {α : Type} {s : Nat → α} {i k : Nat} {x : α} (h : k ≠ i) : upd s i x k = s k := if_neg h
theorem upd_upd {α : Type} {s : Nat → α} {i : Nat} {x y : α} : upd (upd s i x) i y = upd s i y := by
  funext k; unfold upd; by_cases h : k = i
  · simp [h]
  · simp [h]
theorem upd_self {α : Type} {s : Nat → α} {i : Nat} {x : α} (h : s i = x) : upd s i x = s := by
  funext k; unfold upd; by_cases e : k = i
  · subst e; simp [h]
  · simp [e]
def natsB (ns : List Int) : List UInt8 := enc ns.length ++ ns.flatMap fun x => enc x.toNat
def NatI (x : Int) : Prop := 0 ≤ x ∧ x ≤ 2147483647
def zjw : JobW := ⟨[], [], [], 0, 0, 0⟩
structure TaskW where
  f : Nat → Int
  L : Nat → List Int
  h : Nat → Bool
  v : Nat → Int
  j : JobW
  k : Bool
def tskC (f : Nat → Int) (s : Nat → Sl3) (j : JobW) (a : Option Addr) (l c : Nat) (pa : Option Addr) (pl pc : Nat) (h : Nat → Bool) (v : Nat → Int) (k : Bool) : List Value :=
  [.int .i64 (f 0), .int .i64 (f 1), .int .i64 (f 2), .int .i64 (f 3), sv (s 0), sv (s 1), .string ⟨⟨j.prog⟩⟩, .slice a l c, .slice pa pl pc, .int .i64 j.steps, .int .i64 j.sent, .int .i64 j.parts, .bool (h 0), .bool (h 1), .bool (h 2), .bool (h 3), .bool (h 4), .int .i64 (v 0), .int .i64 (v 1), .int .i64 (v 2), .int .i64 (v 3), .int .i64 (v 4), .int .i64 (f 4), .int .i64 (f 5), .int .i64 (f 6), .bool k]
def taskB (t : TaskW) : List UInt8 := cntL (fun i => (t.f i).toNat) 7 0 ++ (natsB (t.L 0) ++ (natsB (t.L 1) ++ (enc (cond t.k 1 0) ++ (aggB t.h t.v ++ jobB t.j))))
theorem seven {i : Nat} (h : i < 7) : i = 0 ∨ i = 1 ∨ i = 2 ∨ i = 3 ∨ i = 4 ∨ i = 5 ∨ i = 6 := by omega
theorem two {i : Nat} (h : i < 2) : i = 0 ∨ i = 1 := by omega
def tptr (xb i : Nat) : Option Addr := if i < 4 then some ⟨xb, i, none⟩ else some ⟨xb, 18 + i, none⟩
def tR (f : Nat → Int) (i : Nat) (s : Nat → Sl3) : List Value := tskC (upTo 0 f i) s zjw none 0 0 none 0 0 (fun _ => false) (fun _ => 0) false
theorem tR_len (f : Nat → Int) (i : Nat) (s : Nat → Sl3) : (tR f i s).length = 26 := rfl
theorem task_store {f : Nat → Int} {s : Nat → Sl3} {H6 : AH} {xb i : Nat} (ok : Ok H6) (hi : i < 7) (hx : H6.get xb = some (.cells (tR f i s) 0)) :
    (tptr xb i).isSome = true ∧ ∃ H7, storeCellsv H6 (adr (tptr xb i)).block (adr (tptr xb i)).off [.int .i64 (f i)] = some H7 ∧ H7.get xb = some (.cells (tR f (i + 1) s) 0) ∧ Mod (· = xb) H6 H7 ∧ H7.next = H6.next := by
  unfold tptr
  by_cases h4 : i < 4
  · rw [if_pos h4]
    have hset : lset (tR f i s) i [.int .i64 (f i)] = tR f (i + 1) s := by
      rcases seven hi with rfl | rfl | rfl | rfl | rfl | rfl | rfl <;> first | (exfalso; omega) | (simp [tR, tskC, upTo, lset])
    have st := store_of (o := i) (vs := [.int .i64 (f i)]) hx (by rw [tR_len]; simp; omega) rfl
    rw [hset] at st
    exact ⟨rfl, _, st, get_set_self _ _ _, Mod.set ok hx _, rfl⟩
  · rw [if_neg h4]
    have hset : lset (tR f i s) (18 + i) [.int .i64 (f i)] = tR f (i + 1) s := by
      rcases seven hi with rfl | rfl | rfl | rfl | rfl | rfl | rfl <;> first | (exfalso; omega) | (simp [tR, tskC, upTo, lset])
    have st := store_of (o := 18 + i) (vs := [.int .i64 (f i)]) hx (by rw [tR_len]; simp; omega) rfl
    rw [hset] at st
    exact ⟨rfl, _, st, get_set_self _ _ _, Mod.set ok hx _, rfl⟩
theorem tptr_cell {H : AH} {pb xb i : Nat} (hi : i < 7) (h : H.get pb = some (.cells [.pointer (some ⟨xb, 0, none⟩), .pointer (some ⟨xb, 1, none⟩), .pointer (some ⟨xb, 2, none⟩), .pointer (some ⟨xb, 3, none⟩), .pointer (some ⟨xb, 22, none⟩), .pointer (some ⟨xb, 23, none⟩), .pointer (some ⟨xb, 24, none⟩)] 0)) :
    H.cell pb (0 + (i : Int).toNat * 1) = some (.pointer (tptr xb i)) := by
  refine cell_of h ?_
  rcases seven hi with rfl | rfl | rfl | rfl | rfl | rfl | rfl <;> rfl
theorem tR_get {f : Nat → Int} {s : Nat → Sl3} {n i : Nat} (hi : i < 2) : (tR f n s)[4 + i]? = some (sv (s i)) := by
  rcases two hi with rfl | rfl <;> rfl
theorem tR_set {f : Nat → Int} {s : Nat → Sl3} {n i : Nat} {x : Sl3} (hi : i < 2) : lset (tR f n s) (4 + i) [sv x] = tR f n (upd s i x) := by
  rcases two hi with rfl | rfl <;> simp [tR, tskC, upd, lset]
theorem ret_task {Q : Value → AH → Prop} {H : AH} {vb rb : Nat} {y0 : Int} {y1 : Int} {y2 : Int} {y3 : Int} {y4a : Option Addr} {y4l : Nat} {y4c : Nat} {y5a : Option Addr} {y5l : Nat} {y5c : Nat} {y6 : List UInt8} {y7a : Option Addr} {y7l : Nat} {y7c : Nat} {y8a : Option Addr} {y8l : Nat} {y8c : Nat} {y9 : Int} {y10 : Int} {y11 : Int} {y12 : Bool} {y13 : Bool} {y14 : Bool} {y15 : Bool} {y16 : Bool} {y17 : Int} {y18 : Int} {y19 : Int} {y20 : Int} {y21 : Int} {y22 : Int} {y23 : Int} {y24 : Int} {y25 : Bool} {z : List Value} (ok : Ok H) (hv : H.get vb = some (.cells [.int .i64 y0, .int .i64 y1, .int .i64 y2, .int .i64 y3, .slice y4a y4l y4c, .slice y5a y5l y5c, .string ⟨⟨y6⟩⟩, .slice y7a y7l y7c, .slice y8a y8l y8c, .int .i64 y9, .int .i64 y10, .int .i64 y11, .bool y12, .bool y13, .bool y14, .bool y15, .bool y16, .int .i64 y17, .int .i64 y18, .int .i64 y19, .int .i64 y20, .int .i64 y21, .int .i64 y22, .int .i64 y23, .int .i64 y24, .bool y25] 0)) (hr : H.get rb = some (.cells z 0)) (hz : z.length = 26) (hQ : ∀ H3, Mod (· = rb) H H3 → Q (.agg ⟨[.int .i64 y0, .int .i64 y1, .int .i64 y2, .int .i64 y3, .slice y4a y4l y4c, .slice y5a y5l y5c, .string ⟨⟨y6⟩⟩, .slice y7a y7l y7c, .slice y8a y8l y8c, .int .i64 y9, .int .i64 y10, .int .i64 y11, .bool y12, .bool y13, .bool y14, .bool y15, .bool y16, .int .i64 y17, .int .i64 y18, .int .i64 y19, .int .i64 y20, .int .i64 y21, .int .i64 y22, .int .i64 y23, .int .i64 y24, .bool y25]⟩) H3) :
    ∃ (t0 : Int) (t1 : Int) (t2 : Int) (t3 : Int) (t4a : Option Addr) (t4l : Nat) (t4c : Nat) (t5a : Option Addr) (t5l : Nat) (t5c : Nat) (t6 : List UInt8) (t7a : Option Addr) (t7l : Nat) (t7c : Nat) (t8a : Option Addr) (t8l : Nat) (t8c : Nat) (t9 : Int) (t10 : Int) (t11 : Int) (t12 : Bool) (t13 : Bool) (t14 : Bool) (t15 : Bool) (t16 : Bool) (t17 : Int) (t18 : Int) (t19 : Int) (t20 : Int) (t21 : Int) (t22 : Int) (t23 : Int) (t24 : Int) (t25 : Bool), H.cell vb (0 + 0) = some (.int .i64 t0) ∧ H.cell vb (0 + 1) = some (.int .i64 t1) ∧ H.cell vb (0 + 2) = some (.int .i64 t2) ∧ H.cell vb (0 + 3) = some (.int .i64 t3) ∧ H.cell vb (0 + 4) = some (.slice t4a t4l t4c) ∧ H.cell vb (0 + 5) = some (.slice t5a t5l t5c) ∧ H.cell vb (0 + 6) = some (.string ⟨⟨t6⟩⟩) ∧ H.cell vb (0 + 7) = some (.slice t7a t7l t7c) ∧ H.cell vb (0 + 8) = some (.slice t8a t8l t8c) ∧ H.cell vb (0 + 9) = some (.int .i64 t9) ∧ H.cell vb (0 + 10) = some (.int .i64 t10) ∧ H.cell vb (0 + 11) = some (.int .i64 t11) ∧ H.cell vb (0 + 12) = some (.bool t12) ∧ H.cell vb (0 + 13) = some (.bool t13) ∧ H.cell vb (0 + 14) = some (.bool t14) ∧ H.cell vb (0 + 15) = some (.bool t15) ∧ H.cell vb (0 + 16) = some (.bool t16) ∧ H.cell vb (0 + 17) = some (.int .i64 t17) ∧ H.cell vb (0 + 18) = some (.int .i64 t18) ∧ H.cell vb (0 + 19) = some (.int .i64 t19) ∧ H.cell vb (0 + 20) = some (.int .i64 t20) ∧ H.cell vb (0 + 21) = some (.int .i64 t21) ∧ H.cell vb (0 + 22) = some (.int .i64 t22) ∧ H.cell vb (0 + 23) = some (.int .i64 t23) ∧ H.cell vb (0 + 24) = some (.int .i64 t24) ∧ H.cell vb (0 + 25) = some (.bool t25) ∧
      ∃ (H10 : AH), storeCellsv H rb 0 [.int .i64 t0, .int .i64 t1, .int .i64 t2, .int .i64 t3, .slice t4a t4l t4c, .slice t5a t5l t5c, .string ⟨⟨t6⟩⟩, .slice t7a t7l t7c, .slice t8a t8l t8c, .int .i64 t9, .int .i64 t10, .int .i64 t11, .bool t12, .bool t13, .bool t14, .bool t15, .bool t16, .int .i64 t17, .int .i64 t18, .int .i64 t19, .int .i64 t20, .int .i64 t21, .int .i64 t22, .int .i64 t23, .int .i64 t24, .bool t25] = some H10 ∧
      ∃ (r0 : Int) (r1 : Int) (r2 : Int) (r3 : Int) (r4a : Option Addr) (r4l : Nat) (r4c : Nat) (r5a : Option Addr) (r5l : Nat) (r5c : Nat) (r6 : List UInt8) (r7a : Option Addr) (r7l : Nat) (r7c : Nat) (r8a : Option Addr) (r8l : Nat) (r8c : Nat) (r9 : Int) (r10 : Int) (r11 : Int) (r12 : Bool) (r13 : Bool) (r14 : Bool) (r15 : Bool) (r16 : Bool) (r17 : Int) (r18 : Int) (r19 : Int) (r20 : Int) (r21 : Int) (r22 : Int) (r23 : Int) (r24 : Int) (r25 : Bool), H10.cell rb (0 + 0) = some (.int .i64 r0) ∧ H10.cell rb (0 + 1) = some (.int .i64 r1) ∧ H10.cell rb (0 + 2) = some (.int .i64 r2) ∧ H10.cell rb (0 + 3) = some (.int .i64 r3) ∧ H10.cell rb (0 + 4) = some (.slice r4a r4l r4c) ∧ H10.cell rb (0 + 5) = some (.slice r5a r5l r5c) ∧ H10.cell rb (0 + 6) = some (.string ⟨⟨r6⟩⟩) ∧ H10.cell rb (0 + 7) = some (.slice r7a r7l r7c) ∧ H10.cell rb (0 + 8) = some (.slice r8a r8l r8c) ∧ H10.cell rb (0 + 9) = some (.int .i64 r9) ∧ H10.cell rb (0 + 10) = some (.int .i64 r10) ∧ H10.cell rb (0 + 11) = some (.int .i64 r11) ∧ H10.cell rb (0 + 12) = some (.bool r12) ∧ H10.cell rb (0 + 13) = some (.bool r13) ∧ H10.cell rb (0 + 14) = some (.bool r14) ∧ H10.cell rb (0 + 15) = some (.bool r15) ∧ H10.cell rb (0 + 16) = some (.bool r16) ∧ H10.cell rb (0 + 17) = some (.int .i64 r17) ∧ H10.cell rb (0 + 18) = some (.int .i64 r18) ∧ H10.cell rb (0 + 19) = some (.int .i64 r19) ∧ H10.cell rb (0 + 20) = some (.int .i64 r20) ∧ H10.cell rb (0 + 21) = some (.int .i64 r21) ∧ H10.cell rb (0 + 22) = some (.int .i64 r22) ∧ H10.cell rb (0 + 23) = some (.int .i64 r23) ∧ H10.cell rb (0 + 24) = some (.int .i64 r24) ∧ H10.cell rb (0 + 25) = some (.bool r25) ∧
      Q (.agg ⟨[.int .i64 r0, .int .i64 r1, .int .i64 r2, .int .i64 r3, .slice r4a r4l r4c, .slice r5a r5l r5c, .string ⟨⟨r6⟩⟩, .slice r7a r7l r7c, .slice r8a r8l r8c, .int .i64 r9, .int .i64 r10, .int .i64 r11, .bool r12, .bool r13, .bool r14, .bool r15, .bool r16, .int .i64 r17, .int .i64 r18, .int .i64 r19, .int .i64 r20, .int .i64 r21, .int .i64 r22, .int .i64 r23, .int .i64 r24, .bool r25]⟩) H10 := by
  have k : (H.set rb (.cells (lset z 0 [.int .i64 y0, .int .i64 y1, .int .i64 y2, .int .i64 y3, .slice y4a y4l y4c, .slice y5a y5l y5c, .string ⟨⟨y6⟩⟩, .slice y7a y7l y7c, .slice y8a y8l y8c, .int .i64 y9, .int .i64 y10, .int .i64 y11, .bool y12, .bool y13, .bool y14, .bool y15, .bool y16, .int .i64 y17, .int .i64 y18, .int .i64 y19, .int .i64 y20, .int .i64 y21, .int .i64 y22, .int .i64 y23, .int .i64 y24, .bool y25]) 0)).get rb = some (.cells [.int .i64 y0, .int .i64 y1, .int .i64 y2, .int .i64 y3, .slice y4a y4l y4c, .slice y5a y5l y5c, .string ⟨⟨y6⟩⟩, .slice y7a y7l y7c, .slice y8a y8l y8c, .int .i64 y9, .int .i64 y10, .int .i64 y11, .bool y12, .bool y13, .bool y14, .bool y15, .bool y16, .int .i64 y17, .int .i64 y18, .int .i64 y19, .int .i64 y20, .int .i64 y21, .int .i64 y22, .int .i64 y23, .int .i64 y24, .bool y25] 0) := by
    rw [get_set_self]
    have : lset z 0 [.int .i64 y0, .int .i64 y1, .int .i64 y2, .int .i64 y3, .slice y4a y4l y4c, .slice y5a y5l y5c, .string ⟨⟨y6⟩⟩, .slice y7a y7l y7c, .slice y8a y8l y8c, .int .i64 y9, .int .i64 y10, .int .i64 y11, .bool y12, .bool y13, .bool y14, .bool y15, .bool y16, .int .i64 y17, .int .i64 y18, .int .i64 y19, .int .i64 y20, .int .i64 y21, .int .i64 y22, .int .i64 y23, .int .i64 y24, .bool y25] = [.int .i64 y0, .int .i64 y1, .int .i64 y2, .int .i64 y3, .slice y4a y4l y4c, .slice y5a y5l y5c, .string ⟨⟨y6⟩⟩, .slice y7a y7l y7c, .slice y8a y8l y8c, .int .i64 y9, .int .i64 y10, .int .i64 y11, .bool y12, .bool y13, .bool y14, .bool y15, .bool y16, .int .i64 y17, .int .i64 y18, .int .i64 y19, .int .i64 y20, .int .i64 y21, .int .i64 y22, .int .i64 y23, .int .i64 y24, .bool y25] := lset_all (by rw [hz]; rfl)
    rw [this]
  exact ⟨_, _, _, _, _, _, _, _, _, _, _, _, _, _, _, _, _, _, _, _, _, _, _, _, _, _, _, _, _, _, _, _, _, _, cell_of hv rfl, cell_of hv rfl, cell_of hv rfl, cell_of hv rfl, cell_of hv rfl, cell_of hv rfl, cell_of hv rfl, cell_of hv rfl, cell_of hv rfl, cell_of hv rfl, cell_of hv rfl, cell_of hv rfl, cell_of hv rfl, cell_of hv rfl, cell_of hv rfl, cell_of hv rfl, cell_of hv rfl, cell_of hv rfl, cell_of hv rfl, cell_of hv rfl, cell_of hv rfl, cell_of hv rfl, cell_of hv rfl, cell_of hv rfl, cell_of hv rfl, cell_of hv rfl, _, store_of (o := 0) hr (by rw [hz]; simp) rfl, _, _, _, _, _, _, _, _, _, _, _, _, _, _, _, _, _, _, _, _, _, _, _, _, _, _, _, _, _, _, _, _, _, _, cell_of k rfl, cell_of k rfl, cell_of k rfl, cell_of k rfl, cell_of k rfl, cell_of k rfl, cell_of k rfl, cell_of k rfl, cell_of k rfl, cell_of k rfl, cell_of k rfl, cell_of k rfl, cell_of k rfl, cell_of k rfl, cell_of k rfl, cell_of k rfl, cell_of k rfl, cell_of k rfl, cell_of k rfl, cell_of k rfl, cell_of k rfl, cell_of k rfl, cell_of k rfl, cell_of k rfl, cell_of k rfl, cell_of k rfl, hQ _ (Mod.set ok hr _)⟩
end Go.Ev
namespace Go.Proofs.Cx
open Go Go.Ev
section
variable {H : AH} {b : Nat} {s bs t : List UInt8} {p : Nat}
theorem cnt7 {f : Nat → Int} {i : Nat} (hi : i < 7) : ([.int .i64 (f 0), .int .i64 (f 1), .int .i64 (f 2), .int .i64 (f 3), .int .i64 (f 4), .int .i64 (f 5), .int .i64 (f 6)] : List Value)[0 + (i : Int).toNat * 1]? = some (.int .i64 (f i)) := by
  rcases seven hi with rfl | rfl | rfl | rfl | rfl | rfl | rfl <;> rfl
def natsU (L : Nat → List Int) (i : Nat) : List UInt8 := (List.range i).flatMap fun k => natsB (L k)
theorem natsU_succ (L : Nat → List Int) (i : Nat) : natsU L (i + 1) = natsU L i ++ natsB (L i) := by
  unfold natsU; rw [List.range_succ, List.flatMap_append]; simp
end
end Go.Proofs.Cx
namespace Go.Proofs.Cx
open Go Go.Ev
section
variable {H : AH} {b : Nat} {s bs t : List UInt8} {p : Nat}
end
end Go.Proofs.Cx
