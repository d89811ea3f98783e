/- Outcomes as bytes: run.Encode, run.Decode. RunBytes: the law, as formulas have it. Outcomes that come in. -/
import Derived.Test.YtkegomailfhnpaaGreatC1
import Derived.Test.YtkegomailfhnpaaGreatVc2
import Derived.Test.YtkegomailfhnpaaGreatB3
namespace Go.Ev
open Go
structure OutW where
  kind : Nat
  err : Nat
  steps : Nat
  vals : List (Int × Int)
structure OutW.Lim (o : OutW) : Prop where
  kind : o.kind ≤ 2
  err : o.err ≤ 1000
  steps : o.steps ≤ 1000
  len : o.vals.length ≤ 256
  each : ∀ x ∈ o.vals, I64 x.1 ∧ I64 x.2
def valB (x : Int × Int) : List UInt8 := sgB x.1 ++ sgB x.2
def outB (o : OutW) : List UInt8 := enc o.kind ++ enc o.err ++ enc o.steps ++ enc o.vals.length ++ o.vals.flatMap valB
theorem outB_eq (o : OutW) : outB o = enc o.kind ++ (enc o.err ++ (enc o.steps ++ (enc o.vals.length ++ o.vals.flatMap valB))) := by
  simp only [outB, List.append_assoc]
theorem sgB_len {x : Int} (h : I64 x) : (sgB x).length ≤ 10 := enc_len64 (fold_lt h)
theorem valB_len {x : Int × Int} (h : I64 x.1 ∧ I64 x.2) : (valB x).length ≤ 20 := by
  have := sgB_len h.1
  have := sgB_len h.2
  rw [valB, List.length_append]; omega
theorem flatB_len : ∀ {vs : List (Int × Int)}, (∀ x ∈ vs, I64 x.1 ∧ I64 x.2) → (vs.flatMap valB).length ≤ vs.length * 20
  | [], _ => by simp
  | x :: vs, h => by
    have h1 := flatB_len (vs := vs) fun y hy => h y (List.mem_cons_of_mem _ hy)
    have h2 := valB_len (h x List.mem_cons_self)
    rw [List.flatMap_cons, List.length_append, List.length_cons]; omega
theorem flat_inj : ∀ {vs us : List (Int × Int)} {t : List UInt8}, us.flatMap valB = vs.flatMap valB ++ t → vs.length ≤ us.length → ∃ ws, us = vs ++ ws ∧ t = ws.flatMap valB
  | [], us, t, h, _ => ⟨us, rfl, by simpa using h.symm⟩
  | v :: vs, [], t, _, h2 => by simp at h2
  | v :: vs, u :: us, t, h, h2 => by
    simp only [List.flatMap_cons, valB, List.append_assoc] at h
    obtain ⟨e1, h⟩ := sgB_inj h
    obtain ⟨e2, h⟩ := sgB_inj h
    obtain ⟨ws, h3, h4⟩ := flat_inj h (by simpa using h2)
    exact ⟨ws, by rw [h3, List.cons_append, Prod.ext e1 e2], h4⟩
/-- these bytes are no outcome's -/
def NoOut (s : List UInt8) : Prop := ∀ o : OutW, o.Lim → s ≠ outB o
def PPair (H : AH) (b o : Nat) (x : Int × Int) : Prop := H.cell b o = some (.int .i64 x.1) ∧ H.cell b (o + 1) = some (.int .i64 x.2)
theorem loc_pair {F : Nat → Prop} : Loc F PPair := fun _ _ hk _ _ _ hb h => ⟨loc_cell hk hb h.1, loc_cell hk hb h.2⟩
abbrev SlP (F : Nat → Prop) (H : AH) (a : Option Addr) (l : Nat) (vs : List (Int × Int)) : Prop := Sl F H 2 PPair a l vs
def pairV (x : Int × Int) : List Value := [.int .i64 x.1, .int .i64 x.2]
theorem pairV_len (x : Int × Int) : (pairV x).length = 2 := rfl
theorem pairs_one (vs : List (Int × Int)) : (vs.flatMap pairV).all oneCell = true := by
  induction vs with
  | nil => rfl
  | cons x vs ih => rw [List.flatMap_cons, List.all_append, ih]; rfl
theorem own_pairs {F : Nat → Prop} {H : AH} {a : Option Addr} {l c : Nat} {vs : List (Int × Int)} (h : Own H 2 a l c (vs.flatMap pairV)) (hF : ∀ x, a = some x → F x.block) : SlP F H a l vs :=
  h.sl pairV_len (by omega) hF fun b o i hi k => ⟨k 0 _ rfl, k 1 _ rfl⟩
theorem own_pairs_len {H : AH} {a : Option Addr} {l c : Nat} {vs : List (Int × Int)} (h : Own H 2 a l c (vs.flatMap pairV)) : l = vs.length := by
  have := h.len
  rw [flatMap_len pairV_len] at this
  omega

/-! what is known as far as it was read -/
section
variable {s : List UInt8} {p e : Nat}
theorem noout1 (hno : ∀ m t, m ≤ 2 → s ≠ enc m ++ t) : NoOut s := fun o hL e => hno _ _ hL.kind (e.trans (outB_eq o))
theorem noout2 {k : Nat} {r : List UInt8} (hs : s = enc k ++ r) (hno : ∀ m t, m ≤ 1000 → r ≠ enc m ++ t) : NoOut s := fun o hL e => by
  rw [hs, outB_eq] at e
  obtain ⟨_, h⟩ := enc_inj _ _ _ _ e
  exact hno _ _ hL.err h
theorem noout3 {k er : Nat} {r : List UInt8} (hs : s = enc k ++ enc er ++ r) (hno : ∀ m t, m ≤ 1000 → r ≠ enc m ++ t) : NoOut s := fun o hL e => by
  rw [hs, outB_eq, List.append_assoc] at e
  obtain ⟨_, h⟩ := enc_inj _ _ _ _ e
  obtain ⟨_, h⟩ := enc_inj _ _ _ _ h
  exact hno _ _ hL.steps h
theorem noout4 {k er st : Nat} {r : List UInt8} (hs : s = enc k ++ enc er ++ enc st ++ r) (hno : ∀ m t, m ≤ 256 → r ≠ enc m ++ t) : NoOut s := fun o hL e => by
  rw [hs, outB_eq] at e
  simp only [List.append_assoc] at e
  obtain ⟨_, h⟩ := enc_inj _ _ _ _ e
  obtain ⟨_, h⟩ := enc_inj _ _ _ _ h
  obtain ⟨_, h⟩ := enc_inj _ _ _ _ h
  exact hno _ _ hL.len h
theorem out_rest {k er st cnt : Nat} {vs : List (Int × Int)} {r : List UInt8} (hs : s = enc k ++ enc er ++ enc st ++ enc cnt ++ vs.flatMap valB ++ r) (hv : vs.length ≤ cnt) {o : OutW} (e : s = outB o) :
    ∃ ws, o.vals = vs ++ ws ∧ r = ws.flatMap valB ∧ o.vals.length = cnt := by
  rw [hs, outB_eq] at e
  simp only [List.append_assoc] at e
  obtain ⟨_, h⟩ := enc_inj _ _ _ _ e
  obtain ⟨_, h⟩ := enc_inj _ _ _ _ h
  obtain ⟨_, h⟩ := enc_inj _ _ _ _ h
  obtain ⟨h1, h⟩ := enc_inj _ _ _ _ h
  obtain ⟨ws, h2, h3⟩ := flat_inj h.symm (by omega)
  exact ⟨ws, h2, h3, h1.symm⟩
theorem noout5 {k er st cnt : Nat} {vs : List (Int × Int)} {r : List UInt8} (hs : s = enc k ++ enc er ++ enc st ++ enc cnt ++ vs.flatMap valB ++ r) (hv : vs.length < cnt) (hno : ∀ y t, I64 y → r ≠ sgB y ++ t) : NoOut s := fun o hL e => by
  obtain ⟨ws, h1, h2, h3⟩ := out_rest hs (by omega) e
  cases ws with
  | nil => rw [h1, List.append_nil] at h3; omega
  | cons w ws =>
    refine hno w.1 (sgB w.2 ++ ws.flatMap valB) (hL.each w (by rw [h1]; simp)).1 (h2.trans ?_)
    rw [List.flatMap_cons, valB, List.append_assoc]
theorem noout6 {k er st cnt : Nat} {vs : List (Int × Int)} {x : Int} {r q : List UInt8} (hs : s = enc k ++ enc er ++ enc st ++ enc cnt ++ vs.flatMap valB ++ q) (hq : q = sgB x ++ r) (hv : vs.length < cnt) (hno : ∀ y t, I64 y → r ≠ sgB y ++ t) : NoOut s := fun o hL e => by
  obtain ⟨ws, h1, h2, h3⟩ := out_rest hs (by omega) e
  cases ws with
  | nil => rw [h1, List.append_nil] at h3; omega
  | cons w ws =>
    rw [hq, List.flatMap_cons, valB, List.append_assoc] at h2
    obtain ⟨_, h2⟩ := sgB_inj h2
    exact hno w.2 _ (hL.each w (by rw [h1]; simp)).2 h2
theorem noout7 {k er st cnt : Nat} {vs : List (Int × Int)} {r : List UInt8} (hs : s = enc k ++ enc er ++ enc st ++ enc cnt ++ vs.flatMap valB ++ r) (hv : vs.length = cnt) (hr : r ≠ []) : NoOut s := fun o hL e => by
  obtain ⟨ws, h1, h2, h3⟩ := out_rest hs (by omega) e
  have h4 := congrArg List.length h1
  rw [List.length_append] at h4
  have : ws = [] := List.length_eq_zero_iff.1 (by omega)
  subst this
  exact hr h2
end
end Go.Ev
namespace Go.Proofs.Cx
open Go Go.Ev

theorem encode_ok {F : Nat → Prop} {H : AH} {a : Option Addr} {l c : Nat} {o : OutW} (ok : Ok H) (hL : o.Lim) (hV : SlP F H a l o.vals) (hF : ∀ b, F b → b < H.next) :
    FW Ee F_run_Encode [.agg ⟨[.int .i64 o.kind, .int .i64 o.err, .int .i64 o.steps, .slice a l c]⟩] H fun r H' => r = .string ⟨⟨outB o⟩⟩ ∧ Grow H H' := by
  have hlen := hV.len
  have hk := hL.kind
  have her := hL.err
  have hst := hL.steps
  have hll := hL.len
  subst hlen
  refine fw_run_Encode ?_
  intro H1 e1
  have g1 : Grow H H1 := e1 ▸ Grow.new ok _
  have b1 : H1.get H.next = some (.cells [.int .i64 o.kind, .int .i64 o.err, .int .i64 o.steps, .slice a o.vals.length c] 0) := e1 ▸ get_new_self _ _
  have n1 : H1.next = H.next + 1 := by rw [e1]; rfl
  refine (newwriter_ok g1.ok).mono ?_
  rintro _ H2 ⟨rfl, w2, g2⟩
  have b2 := g2.get _ _ id b1
  have l1 := enc_len64 (show o.kind < 18446744073709551616 by omega)
  have l2 := enc_len64 (show o.err < 18446744073709551616 by omega)
  have l3 := enc_len64 (show o.steps < 18446744073709551616 by omega)
  have l4 := enc_len64 (show o.vals.length < 18446744073709551616 by omega)
  refine ⟨_, rfl, _, cell_of b2 rfl, (wcount_ok g2.ok w2 (by omega) (by simp)).mono ?_⟩
  rintro _ H3 ⟨rfl, w3, m3⟩
  have q3 : Mod (H1.next ≤ ·) H2 H3 := m3.le (fun x hx _ => w2.low hx) g2.ok
  refine ⟨rfl, _, cell_of (q3.get _ _ (by omega) b2) rfl, (wcount_ok m3.ok w3 (by omega) (by simp; omega)).mono ?_⟩
  rintro _ H4 ⟨rfl, w4, m4⟩
  have q4 := q3.trans (m4.le (fun x hx _ => w3.low hx) m3.ok)
  refine ⟨rfl, _, cell_of (q4.get _ _ (by omega) b2) rfl, (wcount_ok m4.ok w4 (by omega) (by simp; omega)).mono ?_⟩
  rintro _ H5 ⟨rfl, w5, m5⟩
  have q5 := q4.trans (m5.le (fun x hx _ => w4.low hx) m4.ok)
  refine ⟨rfl, _, _, _, cell_of (q5.get _ _ (by omega) b2) rfl, (wcount_ok m5.ok w5 (by omega) (by simp; omega)).mono ?_⟩
  rintro _ H6 ⟨rfl, w6, m6⟩
  have q6 := q5.trans (m6.le (fun x hx _ => w5.low hx) m5.ok)
  refine ⟨rfl, _, _, _, cell_of (q6.get _ _ (by omega) b2) rfl, ?_⟩
  have hV6 : SlP F H6 a o.vals.length o.vals := (hV.grow loc_pair (g1.trans g2)).mod loc_pair q6 fun b hb h => by have := hF b hb; omega
  refine ⟨fun m t Hb => ∃ p : Nat, t = p ∧ p ≤ o.vals.length ∧ m = o.vals.length - p ∧ Wr Hb H1.next H1.next ([] ++ enc o.kind ++ enc o.err ++ enc o.steps ++ enc o.vals.length ++ (o.vals.take p).flatMap valB) ∧ Mod (H1.next ≤ ·) H6 Hb,
    ⟨_, 0, rfl, by omega, rfl, by simpa using w6, .refl q6.ok⟩, ?_⟩
  rintro m t Hb ⟨p, rfl, hp, rfl, hw, hm⟩
  refine cond_dec (fun hlt => ?_) (fun hge => ?_)
  · have hpk : p < o.vals.length := by omega
    obtain ⟨hs, hc1, hc2⟩ := (hV6.mod loc_pair hm fun b hb h => by have := hF b hb; omega).nth hpk
    obtain ⟨hi1, hi2⟩ := hL.each _ (List.getElem_mem hpk)
    have hfl := flatB_len (vs := o.vals.take p) fun x hx => hL.each x (List.mem_of_mem_take hx)
    rw [List.length_take] at hfl
    refine grd_intro hs ⟨by omega, by omega, _, _, hc1, hc2, ?_⟩
    intro H8 e8
    obtain ⟨H9, e9, b9, g9, n9⟩ := fresh_store (vs := [.int .i64 o.vals[p].1, .int .i64 o.vals[p].2]) e8 rfl rfl hm.ok
    have hbs : ([] ++ enc o.kind ++ enc o.err ++ enc o.steps ++ enc o.vals.length ++ (o.vals.take p).flatMap valB).length ≤ 10000 := by
      simp only [List.length_append, List.length_nil]
      omega
    have n1b := hm.next
    have n16 := q6.next
    have n12 := g2.next
    refine ⟨H9, e9, _, cell_of b9 rfl, (wsigned_ok g9.ok (hw.grow g9) hi1 (by omega)).mono ?_⟩
    rintro _ H10 ⟨rfl, w10, m10⟩
    have l5 := sgB_len hi1
    have b10 := m10.get _ _ (fun h => by have := hw.lt hm.ok (hw.old g9 h); omega) b9
    refine ⟨rfl, _, cell_of b10 rfl, (wsigned_ok m10.ok w10 hi2 (by rw [List.length_append]; omega)).mono ?_⟩
    rintro _ H11 ⟨rfl, w11, m11⟩
    refine ⟨rfl, ?_⟩
    intro t et
    rw [wrap_i64 (by omega) (by omega)] at et
    subst et
    refine ⟨o.vals.length - (p + 1), by omega, p + 1, by simp, by omega, rfl, ?_, ?_⟩
    · rw [List.take_succ_eq_append_getElem hpk, List.flatMap_append, ← List.append_assoc]
      simpa [valB] using w11
    · have z9 := hm.add g9
      exact (z9.trans (m10.le (fun x hx _ => (hw.grow g9).low hx) g9.ok)).trans (m11.le (fun x hx _ => w10.low hx) m10.ok)
  · have hpn : p = o.vals.length := by omega
    subst hpn
    refine (wall_ok hw).mono ?_
    rintro _ _ ⟨rfl, rfl⟩
    refine ⟨_, rfl, ?_, ((g1.trans g2).ext q6 ok fun b hb => .inr (by omega)).ext hm ok fun b hb => .inr (by omega)⟩
    rw [List.take_length, List.nil_append]; rfl

theorem decode_vc {Q : Value → AH → Prop} {H : AH} {s : List UInt8} (ok : Ok H) (hs : s.length ≤ 4611686018427387904)
    (hQ : ∀ (k er st : Int) (a : Option Addr) (l c : Nat) (e : Int) (H' : AH), Grow H H' → ((e = 0 ∧ ∃ o : OutW, o.Lim ∧ s = outB o ∧ k = o.kind ∧ er = o.err ∧ st = o.steps ∧ SlP (fun b => H.next ≤ b ∧ b < H'.next) H' a l o.vals) ∨
      (e ≠ 0 ∧ k = 0 ∧ er = 0 ∧ st = 0 ∧ a = none ∧ l = 0 ∧ c = 0 ∧ NoOut s)) → Q (.tuple ⟨[.agg ⟨[.int .i64 k, .int .i64 er, .int .i64 st, .slice a l c]⟩, .int .i64 e]⟩) H') :
    FW Ee F_run_Decode [.string ⟨⟨s⟩⟩] H Q := by
  refine fw_run_Decode ?_
  intro H1 e1
  have g1 : Grow H H1 := e1 ▸ Grow.new ok _
  have b1 : H1.get H.next = some (.cells [.int .i64 0, .int .i64 0, .int .i64 0, .slice none 0 0] 0) := e1 ▸ get_new_self _ _
  have n1 : H1.next = H.next + 1 := by rw [e1]; rfl
  refine (newreader_ok g1.ok).mono ?_
  rintro _ H2 ⟨rfl, r2, g2⟩
  have b2 := g2.get _ _ id b1
  have n2 := g2.next
  refine ⟨_, rfl, (rcount_ok g2.ok r2 (by omega) hs 2 (by omega)).mono ?_⟩
  rintro _ H3 ⟨k, p3, e3, rfl, r3, hp3, m3, hk, res3⟩
  refine ⟨_, rfl, (rcount_ok m3.ok r3 hp3 hs 1000 (by omega)).mono ?_⟩
  rintro _ H4 ⟨er, p4, e4, rfl, r4, hp4, m4, her, res4⟩
  refine ⟨_, rfl, (rcount_ok m4.ok r4 hp4 hs 1000 (by omega)).mono ?_⟩
  rintro _ H5 ⟨st, p5, e5, rfl, r5, hp5, m5, hst, res5⟩
  refine ⟨_, rfl, ?_⟩
  have m25 := (m3.trans m4).trans m5
  have b5 := m25.get _ _ (show ¬ H.next = H1.next by omega) b2
  have n5 := m25.next
  intro H6 e6
  obtain ⟨H7, e7, b7, g7, n7⟩ := fresh_store (vs := [.int .i64 k, .int .i64 er, .int .i64 st, .slice none 0 0]) e6 rfl rfl m5.ok
  have r7 := r5.mod g7 id
  refine ⟨H7, e7, (rcount_ok g7.ok r7 hp5 hs 256 (by omega)).mono ?_⟩
  rintro _ H8 ⟨cnt, p8, e8, rfl, r8, hp8, m8, hcnt, res8⟩
  refine ⟨_, rfl, ?_⟩
  have hlt5 : H1.next < H5.next := m5.ok.lt r5
  have b8 := m8.get _ _ (show ¬ H.next = H1.next by omega) (g7.get _ _ id b5)
  have o8 := m8.get _ _ (show ¬ H5.next = H1.next by omega) b7
  have n8 := m8.next
  have z8 : Grow H H8 := (((g1.trans g2).ext m25 ok fun b hb => .inr (by omega)).trans g7).ext m8 ok fun b hb => .inr (by omega)
  -- as far as the count
  have hgood : e8 = 0 → s = enc k ++ enc er ++ enc st ++ enc cnt ++ ([] : List (Int × Int)).flatMap valB ++ s.drop p8 := by
    intro h
    subst h
    rcases res8 with ⟨q1, q2, _⟩ | ⟨q1, _, _, q4⟩ | ⟨_, q2, _⟩
    · exact (q1 q2.symm).elim
    · subst q1
      rcases res5 with ⟨q1, q2, _⟩ | ⟨q1, _, _, q5⟩ | ⟨_, q2, _⟩
      · exact (q1 q2.symm).elim
      · subst q1
        rcases res4 with ⟨q1, q2, _⟩ | ⟨q1, _, _, q6⟩ | ⟨_, q2, _⟩
        · exact (q1 q2.symm).elim
        · subst q1
          rcases res3 with ⟨q1, q2, _⟩ | ⟨_, _, _, q7⟩ | ⟨_, q2, _⟩
          · exact (q1 q2.symm).elim
          · rw [List.drop_zero] at q7
            rw [List.flatMap_nil, List.append_nil, List.append_assoc, ← q4, List.append_assoc, ← q5, List.append_assoc, ← q6]
            exact q7
          · exact (q2 rfl).elim
        · exact (q2 rfl).elim
      · exact (q2 rfl).elim
    · exact (q2 rfl).elim
  have hbad : e8 ≠ 0 → NoOut s := by
    intro h
    rcases res3 with ⟨q1, _⟩ | ⟨_, q2, _, q3⟩ | ⟨_, _, _, q3⟩
    · exact (q1 rfl).elim
    · subst q2
      rw [List.drop_zero] at q3
      rcases res4 with ⟨q1, _⟩ | ⟨_, q2, _, q4⟩ | ⟨_, _, _, q4⟩
      · exact (q1 rfl).elim
      · subst q2
        rcases res5 with ⟨q1, _⟩ | ⟨_, q2, _, q5⟩ | ⟨_, _, _, q5⟩
        · exact (q1 rfl).elim
        · subst q2
          rcases res8 with ⟨q1, _⟩ | ⟨_, q2, _⟩ | ⟨_, _, _, q6⟩
          · exact (q1 rfl).elim
          · exact (h q2).elim
          · refine noout4 (k := k) (er := er) (st := st) (r := s.drop p5) ?_ q6
            rw [List.append_assoc, ← q5, List.append_assoc, ← q4]; exact q3
        · refine noout3 (k := k) (er := er) (r := s.drop p4) ?_ q5
          rw [List.append_assoc, ← q4]; exact q3
      · exact noout2 q3 q4
    · exact noout1 (by simpa using q3)
  refine ⟨fun m n Hb => ∃ (j : Nat) (vs : List (Int × Int)) (p : Nat) (e : Int) (a : Option Addr) (l c : Nat), n = j ∧ j = m ∧ vs.length + j = cnt ∧ Rd Hb H1.next s p e ∧ p ≤ s.length ∧ Hb.get H5.next = some (.cells [.int .i64 k, .int .i64 er, .int .i64 st, .slice a l c] 0) ∧
      Own Hb 2 a l c (vs.flatMap pairV) ∧ (∀ x, a = some x → H8.next ≤ x.block) ∧ Hb.get H.next = some (.cells [.int .i64 0, .int .i64 0, .int .i64 0, .slice none 0 0] 0) ∧ (∀ x ∈ vs, I64 x.1 ∧ I64 x.2) ∧
      (e = 0 → s = enc k ++ enc er ++ enc st ++ enc cnt ++ vs.flatMap valB ++ s.drop p) ∧ (e ≠ 0 → NoOut s) ∧ H8.next ≤ Hb.next ∧ Grow H Hb,
    ⟨_, cnt, [], p8, e8, none, 0, 0, rfl, rfl, by simp, r8, hp8, o8, Own.nil _ _, fun x e => (by cases e), b8, fun x h => (by simp at h), hgood, hbad, Nat.le_refl _, z8⟩, ?_⟩
  rintro m n Hb ⟨j, vs, p, e, a, l, c, rfl, rfl, hvl, hr, hp, hob, hO, hfar, hres, heach, hG, hB, hn8, hgr⟩
  have hl := own_pairs_len hO
  -- the end
  have fin : (e ≠ 0 ∨ j = 0) → FW Ee F_wire_Reader_End [.pointer (some ⟨H1.next, 0, none⟩)] Hb fun v_8 H16 =>
      ∃ (r39 : Int), v_8 = .int .i64 r39 ∧
      cond (r39 != 0) (
        ∃ (H17 : AH), storeCellsv H16 H.next 0 [.int .i64 0, .int .i64 0, .int .i64 0, .slice none 0 0] = some H17 ∧
        ∃ (r2_Kind : Int) (r2_Err : Int) (r2_Steps : Int) (r2_Valuesa : Option Addr) (r2_Valuesl : Nat) (r2_Valuesc : Nat),
        H17.cell H.next (0 + 0) = some (.int .i64 r2_Kind) ∧ H17.cell H.next (0 + 1) = some (.int .i64 r2_Err) ∧ H17.cell H.next (0 + 2) = some (.int .i64 r2_Steps) ∧ H17.cell H.next (0 + 3) = some (.slice r2_Valuesa r2_Valuesl r2_Valuesc) ∧
        Q (.tuple ⟨[.agg ⟨[.int .i64 r2_Kind, .int .i64 r2_Err, .int .i64 r2_Steps, .slice r2_Valuesa r2_Valuesl r2_Valuesc]⟩, .int .i64 r39]⟩) H17) (
        ∃ (t44_Kind : Int) (t44_Err : Int) (t44_Steps : Int) (t44_Valuesa : Option Addr) (t44_Valuesl : Nat) (t44_Valuesc : Nat),
        H16.cell H5.next (0 + 0) = some (.int .i64 t44_Kind) ∧ H16.cell H5.next (0 + 1) = some (.int .i64 t44_Err) ∧ H16.cell H5.next (0 + 2) = some (.int .i64 t44_Steps) ∧ H16.cell H5.next (0 + 3) = some (.slice t44_Valuesa t44_Valuesl t44_Valuesc) ∧
        ∃ (H18 : AH), storeCellsv H16 H.next 0 [.int .i64 t44_Kind, .int .i64 t44_Err, .int .i64 t44_Steps, .slice t44_Valuesa t44_Valuesl t44_Valuesc] = some H18 ∧
        ∃ (r2_Kind_1 : Int) (r2_Err_1 : Int) (r2_Steps_1 : Int) (r2_Valuesa_1 : Option Addr) (r2_Valuesl_1 : Nat) (r2_Valuesc_1 : Nat),
        H18.cell H.next (0 + 0) = some (.int .i64 r2_Kind_1) ∧ H18.cell H.next (0 + 1) = some (.int .i64 r2_Err_1) ∧ H18.cell H.next (0 + 2) = some (.int .i64 r2_Steps_1) ∧ H18.cell H.next (0 + 3) = some (.slice r2_Valuesa_1 r2_Valuesl_1 r2_Valuesc_1) ∧
        Q (.tuple ⟨[.agg ⟨[.int .i64 r2_Kind_1, .int .i64 r2_Err_1, .int .i64 r2_Steps_1, .slice r2_Valuesa_1 r2_Valuesl_1 r2_Valuesc_1]⟩, .int .i64 0]⟩) H18) := by
    intro hend
    refine (rend_ok hgr.ok hr hp hs).mono ?_
    rintro _ H16 ⟨e', rfl, r16, m16, res16⟩
    have o16 := m16.get _ _ (show ¬ H5.next = H1.next by omega) hob
    have x16 := m16.get _ _ (show ¬ H.next = H1.next by omega) hres
    have z16 : Grow H H16 := hgr.ext m16 ok fun b hb => .inr (by omega)
    refine ⟨e', rfl, cond_intro (fun he => ?_) (fun he => ?_)⟩
    · have he : e' ≠ 0 := by simpa using he
      have m17 := Mod.set z16.ok x16 (.cells (lset [.int .i64 0, .int .i64 0, .int .i64 0, .slice none 0 0] 0 [.int .i64 0, .int .i64 0, .int .i64 0, .slice none 0 0]) 0)
      have c17 := get_set_self H16 H.next (.cells (lset [.int .i64 0, .int .i64 0, .int .i64 0, .slice none 0 0] 0 [.int .i64 0, .int .i64 0, .int .i64 0, .slice none 0 0]) 0)
      refine ⟨_, store_of (o := 0) x16 (by simp) rfl, 0, 0, 0, none, 0, 0, cell_of c17 rfl, cell_of c17 rfl, cell_of c17 rfl, cell_of c17 rfl, hQ _ _ _ _ _ _ _ _ (z16.ext m17 ok fun b hb => .inr (by omega)) (.inr ⟨he, rfl, rfl, rfl, rfl, rfl, rfl, ?_⟩)⟩
      rcases res16 with ⟨q1, _⟩ | ⟨_, _, q3⟩ | ⟨q1, q2, _⟩
      · exact hB q1
      · exact (he q3).elim
      · have hj : j = 0 := hend.elim (fun h => (h q1).elim) id
        refine noout7 (hG q1) (by omega) fun h => ?_
        have := congrArg List.length h
        rw [List.length_drop] at this
        simp at this; omega
    · have he : e' = 0 := by simpa using he
      subst he
      rcases res16 with ⟨q1, q2⟩ | ⟨q1, q2, _⟩ | ⟨_, _, q3⟩
      · exact (q1 q2.symm).elim
      · have hj : j = 0 := hend.elim (fun h => (h q1).elim) id
        have m18 := Mod.set z16.ok x16 (.cells (lset [.int .i64 0, .int .i64 0, .int .i64 0, .slice none 0 0] 0 [.int .i64 k, .int .i64 er, .int .i64 st, .slice a l c]) 0)
        have c18 := get_set_self H16 H.next (.cells (lset [.int .i64 0, .int .i64 0, .int .i64 0, .slice none 0 0] 0 [.int .i64 k, .int .i64 er, .int .i64 st, .slice a l c]) 0)
        refine ⟨_, _, _, _, _, _, cell_of o16 rfl, cell_of o16 rfl, cell_of o16 rfl, cell_of o16 rfl, _, store_of (o := 0) x16 (by simp) rfl, _, _, _, _, _, _, cell_of c18 rfl, cell_of c18 rfl, cell_of c18 rfl, cell_of c18 rfl,
          hQ _ _ _ _ _ _ _ _ (z16.ext m18 ok fun b hb => .inr (by omega)) (.inl ⟨rfl, ⟨k, er, st, vs⟩, ⟨hk, her, hst, by simp only; omega, heach⟩, ?_, rfl, rfl, rfl, ?_⟩)⟩
        · have := hG q1
          rw [q2, List.drop_length, List.append_nil] at this
          rw [outB]
          simp only
          rw [show vs.length = cnt from by omega]
          exact this
        · have n16 := m16.next
          have hO16 := (hO.mod m16 fun b hb y ey e => by have := hfar y ey; omega).mod m18 fun b hb y ey e => by have := hfar y ey; omega
          refine own_pairs hO16 fun x ex => ⟨by have := hfar x ex; omega, ?_⟩
          have := own_lt hO hgr.ok ex
          show x.block < H16.next
          omega
      · cases q3
  refine cond_dec (fun hpos => ?_) (fun hz => fin (.inr (by omega)))
  refine (rerr_ok hr).mono ?_
  rintro _ _ ⟨rfl, rfl⟩
  refine ⟨_, rfl, cond_intro (fun he => ?_) (fun he => fin (.inl (by simpa using he)))⟩
  have he : e = 0 := by simpa using he
  have hGs := hG he
  refine ⟨a, l, c, cell_of hob rfl, (rsigned_ok hgr.ok hr hp hs).mono ?_⟩
  rintro _ H11 ⟨x, p11, e11, rfl, r11, hp11, m11, hx, res11⟩
  refine ⟨_, rfl, (rsigned_ok m11.ok r11 hp11 hs).mono ?_⟩
  rintro _ H12 ⟨y, p12, e12, rfl, r12, hp12, m12, hy, res12⟩
  refine ⟨_, rfl, ?_⟩
  intro H13 e13
  have m1112 := m11.trans m12
  have g13 : Grow H12 H13 := e13 ▸ Grow.new m12.ok _
  have n13 : H13.next = H12.next + 1 := by rw [e13]; rfl
  have n12 := m1112.next
  have hO13 := (hO.mod m1112 fun b hb y ey e => by have := hfar y ey; omega).mod g13 fun b hb => hb.elim
  have hob11 := m11.get _ _ (show ¬ H5.next = H1.next by omega) hob
  have hob13 := g13.get _ _ id (m1112.get _ _ (show ¬ H5.next = H1.next by omega) hob)
  obtain ⟨H14, k1, k2, k3, k4⟩ := hO13.append (n := 1) (bytes := 16) (new := pairV (x, y)) (x := .slice (some ⟨H12.next, 0, none⟩) 1 2) g13.ok rfl (takev_new e13 rfl) (by omega) rfl rfl (by omega) (by omega)
  have lowS : ∀ {b : Nat}, b < H8.next → ¬ (¬ Off a b) := fun hb h => h fun z ez e => by have := hfar z ez; omega
  have hob14 := k4.get _ _ (lowS (by omega)) hob13
  have hres14 := k4.get _ _ (lowS (by omega)) (g13.get _ _ id (m1112.get _ _ (show ¬ H.next = H1.next by omega) hres))
  have r14 := (r12.mod g13 id).mod k4 (lowS (by omega))
  have m15 := Mod.set k4.ok hob14 (.cells (lset [.int .i64 k, .int .i64 er, .int .i64 st, .slice a l c] 3 [.slice (some ⟨H13.next, 0, none⟩) (l + 1) (2 * (l + 1) + 1)]) 0)
  refine ⟨_, _, _, H14, k1, _, store_of (o := 3) hob14 (by simp) rfl, cell_of hob13 rfl, cell_of hob11 rfl, ?_⟩
  intro t et
  rw [wrap_i64 (by omega) (by omega)] at et
  have et : t = ((j - 1 : Nat) : Int) := by omega
  subst et
  refine ⟨j - 1, by omega, j - 1, vs ++ [(x, y)], p12, e12, _, _, _, rfl, rfl, by rw [List.length_append, List.length_singleton]; omega, r14.mod m15 (by omega), hp12, get_set_self _ _ _, ?_, ?_, m15.get _ _ (by omega) hres14, ?_, ?_, ?_, ?_, ?_⟩
  · rw [List.flatMap_append, List.flatMap_singleton]
    exact k2.mod m15 fun b hb z ez e => by cases ez; simp only at e; omega
  · intro z ez
    cases ez
    simp only; omega
  · intro z hz
    rcases List.mem_append.1 hz with h | h
    · exact heach z h
    · have : z = (x, y) := by simpa using h
      subst this; exact ⟨hx, hy⟩
  · intro h
    subst h
    rcases res12 with ⟨q1, q2, _⟩ | ⟨q1, _, _, q4⟩ | ⟨_, q2, _⟩
    · exact (q1 q2.symm).elim
    · subst q1
      rcases res11 with ⟨q1, q2, _⟩ | ⟨_, _, _, q5⟩ | ⟨_, q2, _⟩
      · exact (q1 q2.symm).elim
      · rw [q5, q4] at hGs
        rw [List.flatMap_append, List.flatMap_singleton, valB, ← List.append_assoc, List.append_assoc _ (sgB x ++ sgB y), List.append_assoc (sgB x)]
        exact hGs
      · exact (q2 rfl).elim
    · exact (q2 rfl).elim
  · intro h
    rcases res11 with ⟨q1, _⟩ | ⟨_, q2, _, q4⟩ | ⟨_, _, _, q4⟩
    · exact (q1 he).elim
    · subst q2
      rcases res12 with ⟨q1, _⟩ | ⟨_, q2, _⟩ | ⟨_, _, _, q5⟩
      · exact (q1 rfl).elim
      · exact (h q2).elim
      · exact noout6 hGs q4 (by omega) q5
    · exact noout5 hGs (by omega) q4
  · show H8.next ≤ H14.next
    omega
  · have z12 : Grow H H12 := hgr.ext m1112 ok fun b hb => .inr (by omega)
    refine ((z12.trans g13).ext k4 ok fun b hb => .inr ?_).ext m15 ok fun b hb => .inr (by omega)
    obtain ⟨z, ez, rfl⟩ := off_not hb
    have := hfar z ez
    omega
end Go.Proofs.Cx

namespace Go.Ev
open Go
theorem outB_inj {o o' : OutW} (h : outB o = outB o') : o = o' := by
  rw [outB_eq, outB_eq] at h
  obtain ⟨h1, h⟩ := enc_inj _ _ _ _ h
  obtain ⟨h2, h⟩ := enc_inj _ _ _ _ h
  obtain ⟨h3, h⟩ := enc_inj _ _ _ _ h
  obtain ⟨h4, h⟩ := enc_inj _ _ _ _ h
  obtain ⟨ws, h5, _⟩ := flat_inj (vs := o'.vals) (us := o.vals) (t := []) (by rw [List.append_nil]; exact h) (by omega)
  have h6 := congrArg List.length h5
  rw [List.length_append] at h6
  have : ws = [] := List.length_eq_zero_iff.1 (by omega)
  rw [this, List.append_nil] at h5
  cases o; cases o'
  simp only at h1 h2 h3 h5
  subst h1 h2 h3 h5
  rfl
end Go.Ev
namespace Go.Proofs.Cx
open Go Go.Ev

theorem awake_ok {H : AH} : FW Ee F_cohortlaw09_awake [] H fun v H' => v = .bool true ∧ H = H' := by
  have e : (evalN Ee 1).call F_cohortlaw09_awake [] H = some (.bool true, H) := by kernel_rfl
  exact ⟨1, _, _, e, rfl, rfl⟩

theorem refbytes_ok {F : Nat → Prop} {H : AH} {a : Option Addr} {l c : Nat} {o : OutW} (ok : Ok H) (hL : o.Lim) (hV : SlP F H a l o.vals) (_ : ∀ b, F b → b < H.next) :
    FW Ee F_cohortref09_Bytes [.agg ⟨[.int .i64 o.kind, .int .i64 o.err, .int .i64 o.steps, .slice a l c]⟩] H fun r H' => r = .string ⟨⟨outB o⟩⟩ ∧ Grow H H' := by
  have hlen := hV.len
  have hk := hL.kind
  have her := hL.err
  have hst := hL.steps
  have hll := hL.len
  subst hlen
  have l1 := enc_len64 (show o.kind < 18446744073709551616 by omega)
  have l2 := enc_len64 (show o.err < 18446744073709551616 by omega)
  have l3 := enc_len64 (show o.steps < 18446744073709551616 by omega)
  have l4 := enc_len64 (show o.vals.length < 18446744073709551616 by omega)
  refine fw_cohortref09_Bytes ?_
  intro H1 e1
  have g1 : Grow H H1 := e1 ▸ Grow.new ok _
  have b1 : H1.get H.next = some (.cells [.int .i64 o.kind, .int .i64 o.err, .int .i64 o.steps, .slice a o.vals.length c] 0) := e1 ▸ get_new_self _ _
  refine ⟨_, cell_of b1 rfl, ?_⟩
  intro t7 e7
  rw [wrap_u64 (by omega) (by omega)] at e7
  subst e7
  refine (refnumber_ok _ g1.ok (by omega)).mono ?_
  rintro _ H2 ⟨rfl, g2⟩
  have b2 := g2.get _ _ id b1
  refine ⟨_, rfl, _, cell_of b2 rfl, ?_⟩
  intro t11 e11
  rw [wrap_u64 (by omega) (by omega)] at e11
  subst e11
  refine (refnumber_ok _ g2.ok (by omega)).mono ?_
  rintro _ H3 ⟨rfl, g3⟩
  have b3 := g3.get _ _ id b2
  refine ⟨_, rfl, by omega, _, cell_of b3 rfl, ?_⟩
  intro t16 e16
  rw [wrap_u64 (by omega) (by omega)] at e16
  subst e16
  refine (refnumber_ok _ g3.ok (by omega)).mono ?_
  rintro _ H4 ⟨rfl, g4⟩
  have b4 := g4.get _ _ id b3
  refine ⟨_, rfl, by simp only [List.length_append]; omega, _, _, _, cell_of b4 rfl, ?_⟩
  intro t22 e22
  rw [wrap_u64 (by omega) (by omega)] at e22
  subst e22
  refine (refnumber_ok _ g4.ok (by omega)).mono ?_
  rintro _ H5 ⟨rfl, g5⟩
  have g15 := ((g2.trans g3).trans g4).trans g5
  refine ⟨_, rfl, by simp only [List.length_append]; omega, cell_of b3 rfl, cell_of b2 rfl, cell_of b1 rfl, cell_of b2 rfl, cell_of b1 rfl, cell_of b1 rfl, ?_⟩
  have hV5 := hV.grow loc_pair (g1.trans g15)
  refine ⟨fun m s3 i Hb => ∃ p : Nat, i = p ∧ p ≤ o.vals.length ∧ m = o.vals.length - p ∧ s3 = enc o.kind ++ enc o.err ++ enc o.steps ++ enc o.vals.length ++ (o.vals.take p).flatMap valB ∧ Grow H5 Hb,
    ⟨_, 0, rfl, by omega, rfl, by simp, .refl g15.ok⟩, ?_⟩
  rintro m s3 i Hb ⟨p, rfl, hp, rfl, rfl, hm⟩
  have bb := hm.get _ _ id (g15.get _ _ id b1)
  refine ⟨_, _, _, cell_of bb rfl, cond_dec (fun hlt => ?_) (fun hge => ?_)⟩
  · have hpk : p < o.vals.length := by omega
    have hVb := hV5.grow loc_pair hm
    obtain ⟨hs, hc1, hc2⟩ := hVb.nth hpk
    obtain ⟨hi1, hi2⟩ := hL.each _ (List.getElem_mem hpk)
    have hfl := flatB_len (vs := o.vals.take p) fun x hx => hL.each x (List.mem_of_mem_take hx)
    rw [List.length_take] at hfl
    have l5 := sgB_len hi1
    have l6 := sgB_len hi2
    refine ⟨_, _, _, cell_of bb rfl, grd_intro hs ⟨by omega, by omega, _, hc1, (refsigned_ok hm.ok hi1).mono ?_⟩⟩
    rintro _ H7 ⟨rfl, g7⟩
    obtain ⟨_, hd1, hd2⟩ := (hVb.grow loc_pair g7).nth hpk
    refine ⟨_, rfl, _, _, _, cell_of (g7.get _ _ id bb) rfl, grd_intro hs ⟨by omega, by omega, _, hd2, (refsigned_ok g7.ok hi2).mono ?_⟩⟩
    rintro _ H8 ⟨rfl, g8⟩
    refine ⟨_, rfl, by omega, by simp only [List.length_append]; omega, hc2, cell_of bb rfl, ?_⟩
    intro t et
    rw [wrap_i64 (by omega) (by omega)] at et
    subst et
    refine ⟨o.vals.length - (p + 1), by omega, p + 1, by simp, by omega, rfl, ?_, (hm.trans g7).trans g8⟩
    rw [List.take_succ_eq_append_getElem hpk, List.flatMap_append, List.flatMap_singleton, valB]
    simp only [List.append_assoc]
  · have hpn : p = o.vals.length := by omega
    subst hpn
    refine ⟨?_, (g1.trans g15).trans hm⟩
    rw [List.take_length]; rfl

theorem outcome_ok {F : Nat → Prop} {H : AH} {a : Option Addr} {l c : Nat} {k er st : Int} {vs : List (Int × Int)} (ok : Ok H) (hn : vs.length ≤ 256) (hV : SlP F H a l vs) (_ : ∀ b, F b → b < H.next) :
    FW Ee F_cohortlaw09_Outcome [.agg ⟨[.int .i64 k, .int .i64 er, .int .i64 st, .slice a l c]⟩] H fun r H' => ∃ a' l' c', r = .agg ⟨[.int .i64 k, .int .i64 er, .int .i64 st, .slice a' l' c']⟩ ∧ SlP (fun b => H.next ≤ b ∧ b < H'.next) H' a' l' vs ∧ Grow H H' := by
  have hlen := hV.len
  subst hlen
  refine fw_cohortlaw09_Outcome ?_
  intro H1 e1
  have g1 : Grow H H1 := e1 ▸ Grow.new ok _
  have b1 : H1.get H.next = some (.cells [.int .i64 k, .int .i64 er, .int .i64 st, .slice a vs.length c] 0) := e1 ▸ get_new_self _ _
  have n1 : H1.next = H.next + 1 := by rw [e1]; rfl
  intro H2 e2
  have g2 : Grow H1 H2 := e2 ▸ Grow.new g1.ok _
  have r2 : H2.get H1.next = some (.cells [.int .i64 0, .int .i64 0, .int .i64 0, .slice none 0 0] 0) := e2 ▸ get_new_self _ _
  have n2 : H2.next = H1.next + 1 := by rw [e2]; rfl
  have b2 := g2.get _ _ id b1
  refine ⟨k, cell_of b2 rfl, er, cell_of b2 rfl, st, cell_of b2 rfl, ?_⟩
  intro H3 e3
  obtain ⟨H4, e4, b4, g4, n4⟩ := fresh_store (vs := [.int .i64 k, .int .i64 er, .int .i64 st, .slice none 0 0]) e3 rfl rfl g2.ok
  have g04 := (g1.trans g2).trans g4
  refine ⟨H4, e4, ?_⟩
  refine ⟨fun m i Hb => ∃ (p : Nat) (a' : Option Addr) (l' c' : Nat), i = p ∧ p ≤ vs.length ∧ m = vs.length - p ∧ Hb.get H2.next = some (.cells [.int .i64 k, .int .i64 er, .int .i64 st, .slice a' l' c'] 0) ∧ Own Hb 2 a' l' c' ((vs.take p).flatMap pairV) ∧
      (∀ x, a' = some x → H4.next ≤ x.block) ∧ Hb.get H.next = some (.cells [.int .i64 k, .int .i64 er, .int .i64 st, .slice a vs.length c] 0) ∧ Hb.get H1.next = some (.cells [.int .i64 0, .int .i64 0, .int .i64 0, .slice none 0 0] 0) ∧ H4.next ≤ Hb.next ∧ Grow H Hb,
    ⟨_, 0, none, 0, 0, rfl, by omega, rfl, b4, Own.nil _ _, fun x e => (by cases e), g4.get _ _ id b2, g4.get _ _ id r2, Nat.le_refl _, g04⟩, ?_⟩
  rintro m i Hb ⟨p, a', l', c', rfl, hp, rfl, ho, hO, hfar, hb, hr, hnb, hg⟩
  refine ⟨_, _, _, cell_of hb rfl, cond_dec (fun hlt => ?_) (fun hge => ?_)⟩
  · have hpk : p < vs.length := by omega
    have hl' := own_pairs_len hO
    rw [List.length_take] at hl'
    obtain ⟨hs, hc1, hc2⟩ := (hV.grow loc_pair hg).nth hpk
    refine ⟨_, _, _, cell_of ho rfl, _, _, _, cell_of hb rfl, grd_intro hs ⟨by omega, by omega, _, hc1, _, _, _, cell_of hb rfl, grd_intro hs ⟨by omega, by omega, _, hc2, ?_⟩⟩⟩
    intro H6 e6
    have g6 : Grow Hb H6 := e6 ▸ Grow.new hg.ok _
    have n6 : H6.next = Hb.next + 1 := by rw [e6]; rfl
    obtain ⟨H7, k1, k2, k3, k4⟩ := (hO.mod g6 fun b hb => hb.elim).append (n := 1) (bytes := 16) (new := pairV vs[p]) (x := .slice (some ⟨Hb.next, 0, none⟩) 1 2) g6.ok rfl (takev_new e6 rfl) (by omega) rfl rfl (by omega) (by omega)
    have lowS : ∀ {b : Nat}, b < H4.next → ¬ (¬ Off a' b) := fun hb h => h fun z ez e => by have := hfar z ez; omega
    have ho6 := g6.get _ _ id ho
    have ho7 := k4.get _ _ (lowS (by omega)) ho6
    have hb6 := g6.get _ _ id hb
    have m8 := Mod.set k4.ok ho7 (.cells (lset [.int .i64 k, .int .i64 er, .int .i64 st, .slice a' l' c'] 3 [.slice (some ⟨H6.next, 0, none⟩) (l' + 1) (2 * (l' + 1) + 1)]) 0)
    refine ⟨_, _, _, H7, k1, _, store_of (o := 3) ho7 (by simp) rfl, g6.cell id hc2, cell_of hb6 rfl, g6.cell id hc1, cell_of hb6 rfl, cell_of ho6 rfl, ?_⟩
    intro t et
    rw [wrap_i64 (by omega) (by omega)] at et
    subst et
    refine ⟨vs.length - (p + 1), by omega, p + 1, _, _, _, by simp, by omega, rfl, get_set_self _ _ _, ?_, ?_, m8.get _ _ (by omega) (k4.get _ _ (lowS (by omega)) hb6), m8.get _ _ (by omega) (k4.get _ _ (lowS (by omega)) (g6.get _ _ id hr)), ?_, ?_⟩
    · rw [List.take_succ_eq_append_getElem hpk, List.flatMap_append, List.flatMap_singleton]
      exact k2.mod m8 fun b hb z ez e => by cases ez; simp only at e; omega
    · intro z ez
      cases ez
      simp only; omega
    · show H4.next ≤ H7.next
      omega
    · refine ((hg.trans g6).ext k4 ok fun b hb => .inr ?_).ext m8 ok fun b hb => .inr (by omega)
      obtain ⟨z, ez, rfl⟩ := off_not hb
      have := hfar z ez
      omega
  · have hpn : p = vs.length := by omega
    subst hpn
    rw [List.take_length] at hO
    have m9 := Mod.set hg.ok hr (.cells (lset [.int .i64 0, .int .i64 0, .int .i64 0, .slice none 0 0] 0 [.int .i64 k, .int .i64 er, .int .i64 st, .slice a' l' c']) 0)
    have c9 := get_set_self Hb H1.next (.cells (lset [.int .i64 0, .int .i64 0, .int .i64 0, .slice none 0 0] 0 [.int .i64 k, .int .i64 er, .int .i64 st, .slice a' l' c']) 0)
    refine ⟨_, _, _, _, _, _, cell_of ho rfl, cell_of ho rfl, cell_of ho rfl, cell_of ho rfl, _, store_of (o := 0) hr (by simp) rfl, _, _, _, _, _, _, cell_of c9 rfl, cell_of c9 rfl, cell_of c9 rfl, cell_of c9 rfl, _, _, _, rfl, ?_, hg.ext m9 ok fun b hb => .inr (by omega)⟩
    refine own_pairs (hO.mod m9 fun b hb z ez e => by have := hfar z ez; omega) fun x ex => ⟨by have := hfar x ex; omega, ?_⟩
    have := own_lt hO hg.ok ex
    show x.block < Hb.next
    omega

set_option maxRecDepth 100000 in
theorem neq_pair {x1 x2 y1 y2 : Int} : binv Ee .neq T_api_Value (.agg ⟨[.int .i64 x1, .int .i64 x2]⟩) (.agg ⟨[.int .i64 y1, .int .i64 y2]⟩) = (match (match some (x1 == y1) with
    | some true => (match some (x2 == y2) with
      | some true => some true
      | r => r)
    | r => r) with
    | some b => some (.bool (!b))
    | none => none) := by kernel_rfl
theorem equal_ok {FA FB : Nat → Prop} {H : AH} {a a' : Option Addr} {l l' c c' : Nat} {vs : List (Int × Int)} (hn : vs.length ≤ 256) (hA : SlP FA H a l vs) (hB : SlP FB H a' l' vs) :
    FW Ee F_slices_Equal_L_api_Value_api_Value [.slice a l c, .slice a' l' c'] H fun r H' => r = .bool true ∧ H = H' := by
  have h1 := hA.len
  have h2 := hB.len
  subst h1
  subst h2
  refine fw_slices_Equal_L_api_Value_api_Value ?_
  refine cond_neg (by simp) ?_
  refine ⟨fun m _ i Hb => H = Hb ∧ ∃ p : Nat, i = p ∧ p ≤ vs.length ∧ m = vs.length - p, ⟨_, rfl, 0, rfl, by omega, rfl⟩, ?_⟩
  rintro m t i Hb ⟨rfl, p, rfl, hp, rfl⟩
  refine cond_dec (fun hlt => ?_) (fun hge => ⟨rfl, rfl⟩)
  have hpk : p < vs.length := by omega
  obtain ⟨hs, hc1, hc2⟩ := hA.nth hpk
  obtain ⟨hs2, hd1, hd2⟩ := hB.nth hpk
  refine grd_intro hs ⟨by omega, by omega, _, _, hc1, hc2, grd_intro hs2 ⟨by omega, by omega, _, _, hd1, hd2, false, ?_, ?_⟩⟩
  · rw [neq_pair, beq_self_eq_true, beq_self_eq_true]; rfl
  · intro t et
    rw [wrap_i64 (by omega) (by omega)] at et
    subst et
    exact ⟨vs.length - (p + 1), by omega, rfl, p + 1, by simp, by omega, rfl⟩
theorem same_ok {FA FB : Nat → Prop} {H : AH} {a a' : Option Addr} {l l' c c' : Nat} {k er st : Int} {vs : List (Int × Int)} (ok : Ok H) (hn : vs.length ≤ 256) (hA : SlP FA H a l vs) (hB : SlP FB H a' l' vs) :
    FW Ee F_run_Same [.agg ⟨[.int .i64 k, .int .i64 er, .int .i64 st, .slice a l c]⟩, .agg ⟨[.int .i64 k, .int .i64 er, .int .i64 st, .slice a' l' c']⟩] H fun r H' => r = .bool true ∧ Grow H H' := by
  refine fw_run_Same ?_
  intro H1 e1
  have g1 : Grow H H1 := e1 ▸ Grow.new ok _
  have b1 : H1.get H.next = some (.cells [.int .i64 k, .int .i64 er, .int .i64 st, .slice a l c] 0) := e1 ▸ get_new_self _ _
  intro H2 e2
  have g2 : Grow H1 H2 := e2 ▸ Grow.new g1.ok _
  have r2 : H2.get H1.next = some (.cells [.int .i64 k, .int .i64 er, .int .i64 st, .slice a' l' c'] 0) := e2 ▸ get_new_self _ _
  have b2 := g2.get _ _ id b1
  have g02 := g1.trans g2
  refine ⟨k, cell_of b2 rfl, k, cell_of r2 rfl, cond_pos (by simp) ?_⟩
  refine ⟨er, cell_of b2 rfl, er, cell_of r2 rfl, cond_pos (by simp) ?_⟩
  refine ⟨st, cell_of b2 rfl, st, cell_of r2 rfl, cond_pos (by simp) ?_⟩
  refine ⟨_, _, _, cell_of b2 rfl, _, _, _, cell_of r2 rfl, (equal_ok hn (hA.grow loc_pair g02) (hB.grow loc_pair g02)).mono ?_⟩
  rintro _ _ ⟨rfl, rfl⟩
  exact ⟨_, rfl, rfl, g02⟩

theorem law_runbytes {F : Nat → Prop} {H : AH} {a : Option Addr} {l c : Nat} {k er st : Int} {vs : List (Int × Int)} {s : List UInt8} (ok : Ok H) (hV : SlP F H a l vs) (hF : ∀ b, F b → b < H.next) (heach : ∀ x ∈ vs, I64 x.1 ∧ I64 x.2) (hs : s.length ≤ 4611686018427387904) :
    FW Ee F_cohortlaw09_RunBytes [.agg ⟨[.int .i64 k, .int .i64 er, .int .i64 st, .slice a l c]⟩, .string ⟨⟨s⟩⟩] H fun r H' => r = .bool true ∧ Grow H H' := by
  have hlen := hV.len
  subst hlen
  refine fw_cohortlaw09_RunBytes ?_
  intro H1 e1
  have g1 : Grow H H1 := e1 ▸ Grow.new ok _
  have b1 : H1.get H.next = some (.cells [.int .i64 k, .int .i64 er, .int .i64 st, .slice a vs.length c] 0) := e1 ▸ get_new_self _ _
  have n1 : H1.next = H.next + 1 := by rw [e1]; rfl
  have aw : FW Ee F_cohortlaw09_awake [] H1 fun v H2 => ∃ r44 : Bool, v = .bool r44 ∧ (Value.bool r44 = .bool true ∧ Grow H H2) := by
    refine awake_ok.mono ?_
    rintro _ _ ⟨rfl, rfl⟩
    exact ⟨true, rfl, rfl, g1⟩
  refine ⟨k, cell_of b1 rfl, cond_dec (fun _ => aw) (fun hk0 => ?_)⟩
  refine ⟨k, cell_of b1 rfl, cond_dec (fun _ => aw) (fun hk1 => ?_)⟩
  refine ⟨er, cell_of b1 rfl, cond_dec (fun _ => aw) (fun her0 => ?_)⟩
  refine ⟨er, cell_of b1 rfl, cond_dec (fun _ => aw) (fun her1 => ?_)⟩
  refine ⟨st, cell_of b1 rfl, cond_dec (fun _ => aw) (fun hst0 => ?_)⟩
  refine ⟨st, cell_of b1 rfl, cond_dec (fun _ => aw) (fun hst1 => ?_)⟩
  refine ⟨_, _, _, cell_of b1 rfl, cond_dec (fun _ => aw) (fun hl => ?_)⟩
  obtain ⟨k, rfl⟩ : ∃ n : Nat, k = n := ⟨k.toNat, by omega⟩
  obtain ⟨er, rfl⟩ : ∃ n : Nat, er = n := ⟨er.toNat, by omega⟩
  obtain ⟨st, rfl⟩ : ∃ n : Nat, st = n := ⟨st.toNat, by omega⟩
  clear aw
  obtain ⟨o, ho⟩ : ∃ o : OutW, o = ⟨k, er, st, vs⟩ := ⟨_, rfl⟩
  have hL : o.Lim := by rw [ho]; exact ⟨by simp only; omega, by simp only; omega, by simp only; omega, by simp only; omega, heach⟩
  have hVo : SlP F H a vs.length o.vals := by rw [ho]; exact hV
  have o1 : o.kind = k := by rw [ho]
  have o2 : o.err = er := by rw [ho]
  have o3 : o.steps = st := by rw [ho]
  have o4 : o.vals = vs := by rw [ho]
  refine ⟨_, _, _, _, _, _, cell_of b1 rfl, cell_of b1 rfl, cell_of b1 rfl, cell_of b1 rfl, ?_⟩
  have enc1 := encode_ok (c := c) g1.ok hL (hVo.grow loc_pair g1) (fun b hb => by have := hF b hb; omega)
  rw [o1, o2, o3] at enc1
  refine enc1.mono ?_
  rintro _ H9 ⟨rfl, g9⟩
  have b9 := g9.get _ _ id b1
  refine ⟨_, rfl, ?_⟩
  have hlenB : (outB o).length ≤ 4611686018427387904 := by
    have l1 := enc_len64 (show o.kind < 18446744073709551616 by omega)
    have l2 := enc_len64 (show o.err < 18446744073709551616 by omega)
    have l3 := enc_len64 (show o.steps < 18446744073709551616 by omega)
    have l4 := enc_len64 (show o.vals.length < 18446744073709551616 by rw [o4]; omega)
    have l5 := flatB_len hL.each
    have l6 := hL.len
    rw [outB]
    simp only [List.length_append]
    omega
  refine decode_vc g9.ok hlenB ?_
  rintro k' er' st' a' l' c' e' H10 g10 hd
  obtain ⟨he', hk', her', hst', hV'⟩ : e' = 0 ∧ k' = k ∧ er' = er ∧ st' = st ∧ SlP (fun b => H9.next ≤ b ∧ b < H10.next) H10 a' l' vs := by
    rcases hd with ⟨h1, o', h2, h3, h4, h5, h6, h7⟩ | ⟨_, _, _, _, _, _, _, h⟩
    · have := outB_inj h3
      subst this
      rw [o1] at h4
      rw [o2] at h5
      rw [o3] at h6
      rw [o4] at h7
      exact ⟨h1, h4, h5, h6, h7⟩
    · exact (h o hL rfl).elim
  subst he' hk' her' hst'
  have b10 := g10.get _ _ id b9
  have n9 := g9.next
  have n10 := g10.next
  refine ⟨_, _, _, _, _, _, _, rfl, ?_⟩
  intro H11 e11
  obtain ⟨H12, e12, b12, g12, n12⟩ := fresh_store (vs := [.int .i64 k, .int .i64 er, .int .i64 st, .slice a' l' c']) e11 rfl rfl g10.ok
  have V12 := hV'.grow loc_pair g12
  refine ⟨H12, e12, ?_⟩
  refine decode_vc g12.ok hs ?_
  rintro kx ex sx ax lx cx f H13 g13 hx
  have n13 := g13.next
  refine ⟨_, _, _, _, _, _, _, rfl, ?_⟩
  intro H14 e14
  obtain ⟨H15, e15, b15, g15, n15⟩ := fresh_store (vs := [.int .i64 kx, .int .i64 ex, .int .i64 sx, .slice ax lx cx]) e14 rfl rfl g13.ok
  refine ⟨H15, e15, awake_ok.mono ?_⟩
  rintro _ _ ⟨rfl, rfl⟩
  have g1215 := g13.trans g15
  have gall : Grow H H15 := (((g1.trans g9).trans g10).trans g12).trans g1215
  have nall := gall.next
  have b15o := g1215.get _ _ id (g12.get _ _ id b10)
  have V15 := V12.grow loc_pair g1215
  have hVa := hV.grow loc_pair gall
  refine ⟨true, rfl, cond_neg rfl ?_⟩
  refine ⟨_, _, _, _, _, _, cell_of b15o rfl, cell_of b15o rfl, cell_of b15o rfl, cell_of b15o rfl, ?_⟩
  refine (outcome_ok gall.ok (by omega) hVa fun b hb => by have := hF b hb; omega).mono ?_
  rintro _ H17 ⟨a7, l7, c7, rfl, V17, g17⟩
  refine ⟨_, _, _, _, _, _, rfl, ?_⟩
  have ref1 := refbytes_ok (F := fun b => H15.next ≤ b ∧ b < H17.next) (c := c7) (o := o) g17.ok hL (by rw [o4]; exact V17) (fun b hb => hb.2)
  rw [o1, o2, o3] at ref1
  refine ref1.mono ?_
  rintro _ H18 ⟨rfl, g18⟩
  have g1518 := g17.trans g18
  have b18 := g1518.get _ _ id b15o
  have k18 := g1518.get _ _ id (g1215.get _ _ id b12)
  have V18 := V15.grow loc_pair g1518
  refine ⟨_, rfl, cond_neg (by simp) (cond_neg (by simp) ?_)⟩
  refine ⟨_, _, _, _, _, _, cell_of b18 rfl, cell_of b18 rfl, cell_of b18 rfl, cell_of b18 rfl, _, _, _, _, _, _, cell_of k18 rfl, cell_of k18 rfl, cell_of k18 rfl, cell_of k18 rfl, ?_⟩
  refine (same_ok g18.ok (by omega) (hVa.grow loc_pair g1518) V18).mono ?_
  rintro _ H19 ⟨rfl, g19⟩
  have x19 := g19.get _ _ id (g1518.get _ _ id b15)
  have gfin := (gall.trans g1518).trans g19
  have g1319 := (g15.trans g1518).trans g19
  refine ⟨true, rfl, cond_neg rfl ?_⟩
  refine cond_intro (fun hf => ?_) (fun hf => ?_)
  · have hf : f ≠ 0 := by simpa using hf
    rcases hx with ⟨h1, _⟩ | ⟨_, rfl, rfl, rfl, rfl, rfl, rfl, _⟩
    · exact (hf h1).elim
    refine ⟨_, _, _, _, _, _, cell_of x19 rfl, cell_of x19 rfl, cell_of x19 rfl, cell_of x19 rfl, ?_⟩
    have nil_ : SlP (fun _ => True) H19 none 0 [] := ⟨rfl, fun h => by omega, fun i h => by simp at h⟩
    refine (same_ok g19.ok (vs := []) (by simp) nil_ nil_).mono ?_
    rintro _ H20 ⟨rfl, g20⟩
    exact ⟨true, rfl, rfl, gfin.trans g20⟩
  · have hf : f = 0 := by simpa using hf
    rcases hx with ⟨_, o', h2, h3, rfl, rfl, rfl, h7⟩ | ⟨h1, _⟩
    · refine ⟨_, _, _, _, _, _, cell_of x19 rfl, cell_of x19 rfl, cell_of x19 rfl, cell_of x19 rfl, ?_⟩
      have n19 := g1319.next
      refine (encode_ok g19.ok h2 (h7.grow loc_pair g1319) (fun b hb => by have := hb.2; omega)).mono ?_
      rintro _ H21 ⟨rfl, g21⟩
      refine ⟨_, rfl, ?_, gfin.trans g21⟩
      rw [← h3]; simp
    · exact (h1 hf).elim
end Go.Proofs.Cx

namespace Go.Proofs.Cx
open Go Go.Ev Go.RowKit
theorem i64_wf {x : Int} (h : (Lit.int .i64 x).wf = true) : I64 x := by
  simp only [Lit.wf, Bool.and_eq_true, decide_eq_true_eq] at h
  have h1 : IntKind.i64.min = -9223372036854775808 := by decide
  have h2 : IntKind.i64.max = 9223372036854775807 := by decide
  rw [h1, h2] at h
  exact h
abbrev RW2 : AH → List Value → Int × Int × Unit → Prop := RCons (RInt .i64) (RCons (RInt .i64) RNil)
abbrev RO : AH → List Value → Int × Int × Int × List (Int × Int × Unit) × Unit → Prop := RCons (RInt .i64) (RCons (RInt .i64) (RCons (RInt .i64) (RCons (RSl 2 16 RW2) RNil)))
theorem stable_rw2 : Stable RW2 := stable_cons stable_int (stable_cons stable_int stable_nil)
theorem stable_ro : Stable RO := stable_cons stable_int (stable_cons stable_int (stable_cons stable_int (stable_cons (stable_slice stable_rw2) stable_nil)))
theorem rw2_len (H : AH) (cs : List Value) (x) (h : RW2 H cs x) : cs.length = 2 := by
  obtain ⟨c1, c2, rfl, ⟨rfl, _⟩, c3, c4, rfl, ⟨rfl, _⟩, rfl⟩ := h; rfl
section
variable {Hh : Type} {enc : TypeId × Value → Hh} {W : World} [Sy]
theorem lay_value : LayT enc Tryz.prog W T_api_Value RW2 :=
  lay_struct (ds := [(T_int64, 0), (T_int64, 1)]) (by kernel_rfl) (total := 2) (by kernel_rfl)
    (lay_fcons (off := 0) (n := 1) rfl (by kernel_rfl) (lay_int (by kernel_rfl)) stable_int (lay_fcons (off := 1) (n := 1) rfl (by kernel_rfl) (lay_int (by kernel_rfl)) stable_int lay_fnil))
theorem lay_outcome : LayT enc Tryz.prog W T_api_Outcome RO :=
  lay_struct (ds := [(T_int, 0), (T_api_Errno, 1), (T_int, 2), (T_L_api_Value, 3)]) (by kernel_rfl) (total := 4) (by kernel_rfl)
    (lay_fcons (off := 0) (n := 1) rfl (by kernel_rfl) (lay_int (by kernel_rfl)) stable_int (lay_fcons (off := 1) (n := 1) rfl (by kernel_rfl) (lay_int (by kernel_rfl)) stable_int
      (lay_fcons (off := 2) (n := 1) rfl (by kernel_rfl) (lay_int (by kernel_rfl)) stable_int
        (lay_fcons (off := 3) (n := 1) rfl (by kernel_rfl) (lay_slice (by kernel_rfl) (by kernel_rfl) (by omega) (by kernel_rfl) lay_value stable_rw2 rw2_len) (stable_slice stable_rw2) lay_fnil))))
end
def toP (x : Int × Int × Unit) : Int × Int := (x.1, x.2.1)
theorem vals_in {H : AH} (ok : Ok H) {a : Option Addr} {l : Nat} {xs : List (Int × Int × Unit)} (h : Sl (fun _ => True) H 2 (PCs RW2) a l xs) :
    SlP (fun b => b < H.next) H a l (xs.map toP) ∧ ∀ x ∈ xs.map toP, I64 x.1 ∧ I64 x.2 := by
  have one : ∀ b o x, PCs RW2 H b o x → PPair H b o (toP x) ∧ I64 (toP x).1 ∧ I64 (toP x).2 := by
    rintro b o x ⟨cs, hc, c1, c2, rfl, ⟨rfl, h1⟩, c3, c4, rfl, ⟨rfl, h2⟩, rfl⟩
    exact ⟨⟨by simpa [toP] using hc 0 _ rfl, by simpa [toP] using hc 1 _ rfl⟩, i64_wf h1, i64_wf h2⟩
  refine ⟨⟨by rw [List.length_map]; exact h.len, fun hp => ⟨(h.base hp).1, ?_⟩, fun i hi => ?_⟩, fun y hy => ?_⟩
  · have h1 : 0 < xs.length := by rw [← h.len]; exact hp
    exact cell_lt ok (one _ _ _ (h.cells 0 h1)).1.1
  · rw [List.length_map] at hi
    rw [List.getElem_map]
    exact (one _ _ _ (h.cells i hi)).1
  · obtain ⟨x, hx, rfl⟩ := List.mem_map.1 hy
    obtain ⟨i, hi, rfl⟩ := List.getElem_of_mem hx
    exact (one _ _ _ (h.cells i hi)).2
end Go.Proofs.Cx
