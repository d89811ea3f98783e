/- Outcomes as bytes: run.Encode, run.Decode. Reading, as functions: numbers, texts, graphs, jobs; what is written is read. Readers: numbers, counts, texts; the program's and the document's, as functions. The document's readers. graph.Edges, graph.edges, graph.Check. -/
import Derived.Test.YtphgkdcifemmmaaGreatC1
import Derived.Test.YtphgkdcifemmmaaGreatVc1
namespace Go.Ev
open Go
structure OutW where
  kind : Nat
  err : Nat
  steps : Nat
  vals : List (Int × Int)
structure OutW.Lim (o : OutW) : Prop where
  kind : o.kind ≤ 2
  err : o.err ≤ 1000
  steps : o.steps ≤ 1000
  len : o.vals.length ≤ 256
  each : ∀ x ∈ o.vals, I64 x.1 ∧ I64 x.2
def valB (x : Int × Int) : List UInt8 := sgB x.1 ++ sgB x.2
def outB (o : OutW) : List UInt8 := enc o.kind ++ enc o.err ++ enc o.steps ++ enc o.vals.length ++ o.vals.flatMap valB
theorem outB_eq (o : OutW) : outB o = enc o.kind ++ (enc o.err ++ (enc o.steps ++ (enc o.vals.length ++ o.vals.flatMap valB))) := by
  simp only [outB, List.append_assoc]
theorem sgB_len {x : Int} (h : I64 x) : (sgB x).length ≤ 10 := enc_len64 (fold_lt h)
theorem valB_len {x : Int × Int} (h : I64 x.1 ∧ I64 x.2) : (valB x).length ≤ 20 := by
  have := sgB_len h.1
  have := sgB_len h.2
  rw [valB, List.length_append]; omega
theorem flatB_len : ∀ {vs : List (Int × Int)}, (∀ x ∈ vs, I64 x.1 ∧ I64 x.2) → (vs.flatMap valB).length ≤ vs.length * 20
  | [], _ => by simp
  | x :: vs, h => by
    have h1 := flatB_len (vs := vs) fun y hy => h y (List.mem_cons_of_mem _ hy)
    have h2 := valB_len (h x List.mem_cons_self)
    rw [List.flatMap_cons, List.length_append, List.length_cons]; omega
theorem flat_inj : ∀ {vs us : List (Int × Int)} {t : List UInt8}, us.flatMap valB = vs.flatMap valB ++ t → vs.length ≤ us.length → ∃ ws, us = vs ++ ws ∧ t = ws.flatMap valB
  | [], us, t, h, _ => ⟨us, rfl, by simpa using h.symm⟩
  | v :: vs, [], t, _, h2 => by simp at h2
  | v :: vs, u :: us, t, h, h2 => by
    simp only [List.flatMap_cons, valB, List.append_assoc] at h
    obtain ⟨e1, h⟩ := sgB_inj h
    obtain ⟨e2, h⟩ := sgB_inj h
    obtain ⟨ws, h3, h4⟩ := flat_inj h (by simpa using h2)
    exact ⟨ws, by rw [h3, List.cons_append, Prod.ext e1 e2], h4⟩
def NoOut (s : List UInt8) : Prop := ∀ o : OutW, o.Lim → s ≠ outB o
def PPair (H : AH) (b o : Nat) (x : Int × Int) : Prop := H.cell b o = some (.int .i64 x.1) ∧ H.cell b (o + 1) = some (.int .i64 x.2)
theorem loc_pair {F : Nat → Prop} : Loc F PPair := fun _ _ hk _ _ _ hb h => ⟨loc_cell hk hb h.1, loc_cell hk hb h.2⟩
abbrev SlP (F : Nat → Prop) (H : AH) (a : Option Addr) (l : Nat) (vs : List (Int × Int)) : Prop := Sl F H 2 PPair a l vs
def pairV (x : Int × Int) : List Value := [.int .i64 x.1, .int .i64 x.2]
theorem pairV_len (x : Int × Int) : (pairV x).length = 2 := rfl
theorem own_pairs {F : Nat → Prop} {H : AH} {a : Option Addr} {l c : Nat} {vs : List (Int × Int)} (h : Own H 2 a l c (vs.flatMap pairV)) (hF : ∀ x, a = some x → F x.block) : SlP F H a l vs :=
  h.sl pairV_len (by omega) hF fun b o i hi k => ⟨k 0 _ rfl, k 1 _ rfl⟩
theorem own_pairs_len {H : AH} {a : Option Addr} {l c : Nat} {vs : List (Int × Int)} (h : Own H 2 a l c (vs.flatMap pairV)) : l = vs.length := by
  have := h.len
  rw [flatMap_len pairV_len] at this
  omega
/-! what is known as far as it was read -/
section
variable {s : List UInt8} {p e : Nat}
theorem noout1 (hno : ∀ m t, m ≤ 2 → s ≠ enc m ++ t) : NoOut s := fun o hL e => hno _ _ hL.kind (e.trans (outB_eq o))
theorem noout2 {k : Nat} {r : List UInt8} (hs : s = enc k ++ r) (hno : ∀ m t, m ≤ 1000 → r ≠ enc m ++ t) : NoOut s := fun o hL e => by
  rw [hs, outB_eq] at e
  obtain ⟨_, h⟩ := enc_inj _ _ _ _ e
  exact hno _ _ hL.err h
theorem noout3 {k er : Nat} {r : List UInt8} (hs : s = enc k ++ enc er ++ r) (hno : ∀ m t, m ≤ 1000 → r ≠ enc m ++ t) : NoOut s := fun o hL e => by
  rw [hs, outB_eq, List.append_assoc] at e
  obtain ⟨_, h⟩ := enc_inj _ _ _ _ e
  obtain ⟨_, h⟩ := enc_inj _ _ _ _ h
  exact hno _ _ hL.steps h
theorem noout4 {k er st : Nat} {r : List UInt8} (hs : s = enc k ++ enc er ++ enc st ++ r) (hno : ∀ m t, m ≤ 256 → r ≠ enc m ++ t) : NoOut s := fun o hL e => by
  rw [hs, outB_eq] at e
  simp only [List.append_assoc] at e
  obtain ⟨_, h⟩ := enc_inj _ _ _ _ e
  obtain ⟨_, h⟩ := enc_inj _ _ _ _ h
  obtain ⟨_, h⟩ := enc_inj _ _ _ _ h
  exact hno _ _ hL.len h
theorem out_rest {k er st cnt : Nat} {vs : List (Int × Int)} {r : List UInt8} (hs : s = enc k ++ enc er ++ enc st ++ enc cnt ++ vs.flatMap valB ++ r) (hv : vs.length ≤ cnt) {o : OutW} (e : s = outB o) :
    ∃ ws, o.vals = vs ++ ws ∧ r = ws.flatMap valB ∧ o.vals.length = cnt := by
  rw [hs, outB_eq] at e
  simp only [List.append_assoc] at e
  obtain ⟨_, h⟩ := enc_inj _ _ _ _ e
  obtain ⟨_, h⟩ := enc_inj _ _ _ _ h
  obtain ⟨_, h⟩ := enc_inj _ _ _ _ h
  obtain ⟨h1, h⟩ := enc_inj _ _ _ _ h
  obtain ⟨ws, h2, h3⟩ := flat_inj h.symm (by omega)
  exact ⟨ws, h2, h3, h1.symm⟩
theorem noout5 {k er st cnt : Nat} {vs : List (Int × Int)} {r : List UInt8} (hs : s = enc k ++ enc er ++ enc st ++ enc cnt ++ vs.flatMap valB ++ r) (hv : vs.length < cnt) (hno : ∀ y t, I64 y → r ≠ sgB y ++ t) : NoOut s := fun o hL e => by
  obtain ⟨ws, h1, h2, h3⟩ := out_rest hs (by omega) e
  cases ws with
  | nil => rw [h1, List.append_nil] at h3; omega
  | cons w ws =>
    refine hno w.1 (sgB w.2 ++ ws.flatMap valB) (hL.each w (by rw [h1]; simp)).1 (h2.trans ?_)
    rw [List.flatMap_cons, valB, List.append_assoc]
theorem noout6 {k er st cnt : Nat} {vs : List (Int × Int)} {x : Int} {r q : List UInt8} (hs : s = enc k ++ enc er ++ enc st ++ enc cnt ++ vs.flatMap valB ++ q) (hq : q = sgB x ++ r) (hv : vs.length < cnt) (hno : ∀ y t, I64 y → r ≠ sgB y ++ t) : NoOut s := fun o hL e => by
  obtain ⟨ws, h1, h2, h3⟩ := out_rest hs (by omega) e
  cases ws with
  | nil => rw [h1, List.append_nil] at h3; omega
  | cons w ws =>
    rw [hq, List.flatMap_cons, valB, List.append_assoc] at h2
    obtain ⟨_, h2⟩ := sgB_inj h2
    exact hno w.2 _ (hL.each w (by rw [h1]; simp)).2 h2
theorem noout7 {k er st cnt : Nat} {vs : List (Int × Int)} {r : List UInt8} (hs : s = enc k ++ enc er ++ enc st ++ enc cnt ++ vs.flatMap valB ++ r) (hv : vs.length = cnt) (hr : r ≠ []) : NoOut s := fun o hL e => by
  obtain ⟨ws, h1, h2, h3⟩ := out_rest hs (by omega) e
  have h4 := congrArg List.length h1
  rw [List.length_append] at h4
  have : ws = [] := List.length_eq_zero_iff.1 (by omega)
  subst this
  exact hr h2
end
end Go.Ev
namespace Go.Proofs.Cx
open Go Go.Ev
theorem decode_vc {Q : Value → AH → Prop} {H : AH} {s : List UInt8} (ok : Ok H) (hs : s.length ≤ 4611686018427387904)
    (hQ : ∀ (k er st : Int) (a : Option Addr) (l c : Nat) (e : Int) (H' : AH), Grow H H' → ((e = 0 ∧ ∃ o : OutW, o.Lim ∧ s = outB o ∧ k = o.kind ∧ er = o.err ∧ st = o.steps ∧ SlP (fun b => H.next ≤ b ∧ b < H'.next) H' a l o.vals) ∨
      (e ≠ 0 ∧ k = 0 ∧ er = 0 ∧ st = 0 ∧ a = none ∧ l = 0 ∧ c = 0 ∧ NoOut s)) → Q (.tuple ⟨[.agg ⟨[.int .i64 k, .int .i64 er, .int .i64 st, .slice a l c]⟩, .int .i64 e]⟩) H') :
    FW Ee F_run_Decode [.string ⟨⟨s⟩⟩] H Q := by
  refine fw_run_Decode ?_
  intro H1 e1
  have g1 : Grow H H1 := e1 ▸ Grow.new ok _
  have b1 : H1.get H.next = some (.cells [.int .i64 0, .int .i64 0, .int .i64 0, .slice none 0 0] 0) := e1 ▸ get_new_self _ _
  have n1 : H1.next = H.next + 1 := by rw [e1]; rfl
  refine (newreader_ok g1.ok).mono ?_
  rintro _ H2 ⟨rfl, r2, g2⟩
  have b2 := g2.get _ _ id b1
  have n2 := g2.next
  refine ⟨_, rfl, (rcount_ok g2.ok r2 (by omega) hs 2 (by omega)).mono ?_⟩
  rintro _ H3 ⟨k, p3, e3, rfl, r3, hp3, m3, hk, res3⟩
  refine ⟨_, rfl, (rcount_ok m3.ok r3 hp3 hs 1000 (by omega)).mono ?_⟩
  rintro _ H4 ⟨er, p4, e4, rfl, r4, hp4, m4, her, res4⟩
  refine ⟨_, rfl, (rcount_ok m4.ok r4 hp4 hs 1000 (by omega)).mono ?_⟩
  rintro _ H5 ⟨st, p5, e5, rfl, r5, hp5, m5, hst, res5⟩
  refine ⟨_, rfl, ?_⟩
  have m25 := (m3.trans m4).trans m5
  have b5 := m25.get _ _ (show ¬ H.next = H1.next by omega) b2
  have n5 := m25.next
  intro H6 e6
  obtain ⟨H7, e7, b7, g7, n7⟩ := fresh_store (vs := [.int .i64 k, .int .i64 er, .int .i64 st, .slice none 0 0]) e6 rfl rfl m5.ok
  have r7 := r5.mod g7 id
  refine ⟨H7, e7, (rcount_ok g7.ok r7 hp5 hs 256 (by omega)).mono ?_⟩
  rintro _ H8 ⟨cnt, p8, e8, rfl, r8, hp8, m8, hcnt, res8⟩
  refine ⟨_, rfl, ?_⟩
  have hlt5 : H1.next < H5.next := m5.ok.lt r5
  have b8 := m8.get _ _ (show ¬ H.next = H1.next by omega) (g7.get _ _ id b5)
  have o8 := m8.get _ _ (show ¬ H5.next = H1.next by omega) b7
  have n8 := m8.next
  have z8 : Grow H H8 := (((g1.trans g2).ext m25 ok fun b hb => .inr (by omega)).trans g7).ext m8 ok fun b hb => .inr (by omega)
  -- as far as the count
  have hgood : e8 = 0 → s = enc k ++ enc er ++ enc st ++ enc cnt ++ ([] : List (Int × Int)).flatMap valB ++ s.drop p8 := by
    intro h
    subst h
    rcases res8 with ⟨q1, q2, _⟩ | ⟨q1, _, _, q4⟩ | ⟨_, q2, _⟩
    · exact (q1 q2.symm).elim
    · subst q1
      rcases res5 with ⟨q1, q2, _⟩ | ⟨q1, _, _, q5⟩ | ⟨_, q2, _⟩
      · exact (q1 q2.symm).elim
      · subst q1
        rcases res4 with ⟨q1, q2, _⟩ | ⟨q1, _, _, q6⟩ | ⟨_, q2, _⟩
        · exact (q1 q2.symm).elim
        · subst q1
          rcases res3 with ⟨q1, q2, _⟩ | ⟨_, _, _, q7⟩ | ⟨_, q2, _⟩
          · exact (q1 q2.symm).elim
          · rw [List.drop_zero] at q7
            rw [List.flatMap_nil, List.append_nil, List.append_assoc, ← q4, List.append_assoc, ← q5, List.append_assoc, ← q6]
            exact q7
          · exact (q2 rfl).elim
        · exact (q2 rfl).elim
      · exact (q2 rfl).elim
    · exact (q2 rfl).elim
  have hbad : e8 ≠ 0 → NoOut s := by
    intro h
    rcases res3 with ⟨q1, _⟩ | ⟨_, q2, _, q3⟩ | ⟨_, _, _, q3⟩
    · exact (q1 rfl).elim
    · subst q2
      rw [List.drop_zero] at q3
      rcases res4 with ⟨q1, _⟩ | ⟨_, q2, _, q4⟩ | ⟨_, _, _, q4⟩
      · exact (q1 rfl).elim
      · subst q2
        rcases res5 with ⟨q1, _⟩ | ⟨_, q2, _, q5⟩ | ⟨_, _, _, q5⟩
        · exact (q1 rfl).elim
        · subst q2
          rcases res8 with ⟨q1, _⟩ | ⟨_, q2, _⟩ | ⟨_, _, _, q6⟩
          · exact (q1 rfl).elim
          · exact (h q2).elim
          · refine noout4 (k := k) (er := er) (st := st) (r := s.drop p5) ?_ q6
            rw [List.append_assoc, ← q5, List.append_assoc, ← q4]; exact q3
        · refine noout3 (k := k) (er := er) (r := s.drop p4) ?_ q5
          rw [List.append_assoc, ← q4]; exact q3
      · exact noout2 q3 q4
    · exact noout1 (by simpa using q3)
  refine ⟨fun m n Hb => ∃ (j : Nat) (vs : List (Int × Int)) (p : Nat) (e : Int) (a : Option Addr) (l c : Nat), n = j ∧ j = m ∧ vs.length + j = cnt ∧ Rd Hb H1.next s p e ∧ p ≤ s.length ∧ Hb.get H5.next = some (.cells [.int .i64 k, .int .i64 er, .int .i64 st, .slice a l c] 0) ∧
      Own Hb 2 a l c (vs.flatMap pairV) ∧ (∀ x, a = some x → H8.next ≤ x.block) ∧ Hb.get H.next = some (.cells [.int .i64 0, .int .i64 0, .int .i64 0, .slice none 0 0] 0) ∧ (∀ x ∈ vs, I64 x.1 ∧ I64 x.2) ∧
      (e = 0 → s = enc k ++ enc er ++ enc st ++ enc cnt ++ vs.flatMap valB ++ s.drop p) ∧ (e ≠ 0 → NoOut s) ∧ H8.next ≤ Hb.next ∧ Grow H Hb,
    ⟨_, cnt, [], p8, e8, none, 0, 0, rfl, rfl, by simp, r8, hp8, o8, Own.nil _ _, fun x e => (by cases e), b8, fun x h => (by simp at h), hgood, hbad, Nat.le_refl _, z8⟩, ?_⟩
  rintro m n Hb ⟨j, vs, p, e, a, l, c, rfl, rfl, hvl, hr, hp, hob, hO, hfar, hres, heach, hG, hB, hn8, hgr⟩
  have hl := own_pairs_len hO
  -- the end
  have fin : (e ≠ 0 ∨ j = 0) → FW Ee F_wire_Reader_End [.pointer (some ⟨H1.next, 0, none⟩)] Hb fun v_8 H16 =>
      ∃ (r39 : Int), v_8 = .int .i64 r39 ∧
      cond (r39 != 0) (
        ∃ (H17 : AH), storeCellsv H16 H.next 0 [.int .i64 0, .int .i64 0, .int .i64 0, .slice none 0 0] = some H17 ∧
        ∃ (r2_Kind : Int) (r2_Err : Int) (r2_Steps : Int) (r2_Valuesa : Option Addr) (r2_Valuesl : Nat) (r2_Valuesc : Nat),
        H17.cell H.next (0 + 0) = some (.int .i64 r2_Kind) ∧ H17.cell H.next (0 + 1) = some (.int .i64 r2_Err) ∧ H17.cell H.next (0 + 2) = some (.int .i64 r2_Steps) ∧ H17.cell H.next (0 + 3) = some (.slice r2_Valuesa r2_Valuesl r2_Valuesc) ∧
        Q (.tuple ⟨[.agg ⟨[.int .i64 r2_Kind, .int .i64 r2_Err, .int .i64 r2_Steps, .slice r2_Valuesa r2_Valuesl r2_Valuesc]⟩, .int .i64 r39]⟩) H17) (
        ∃ (t44_Kind : Int) (t44_Err : Int) (t44_Steps : Int) (t44_Valuesa : Option Addr) (t44_Valuesl : Nat) (t44_Valuesc : Nat),
        H16.cell H5.next (0 + 0) = some (.int .i64 t44_Kind) ∧ H16.cell H5.next (0 + 1) = some (.int .i64 t44_Err) ∧ H16.cell H5.next (0 + 2) = some (.int .i64 t44_Steps) ∧ H16.cell H5.next (0 + 3) = some (.slice t44_Valuesa t44_Valuesl t44_Valuesc) ∧
        ∃ (H18 : AH), storeCellsv H16 H.next 0 [.int .i64 t44_Kind, .int .i64 t44_Err, .int .i64 t44_Steps, .slice t44_Valuesa t44_Valuesl t44_Valuesc] = some H18 ∧
        ∃ (r2_Kind_1 : Int) (r2_Err_1 : Int) (r2_Steps_1 : Int) (r2_Valuesa_1 : Option Addr) (r2_Valuesl_1 : Nat) (r2_Valuesc_1 : Nat),
        H18.cell H.next (0 + 0) = some (.int .i64 r2_Kind_1) ∧ H18.cell H.next (0 + 1) = some (.int .i64 r2_Err_1) ∧ H18.cell H.next (0 + 2) = some (.int .i64 r2_Steps_1) ∧ H18.cell H.next (0 + 3) = some (.slice r2_Valuesa_1 r2_Valuesl_1 r2_Valuesc_1) ∧
        Q (.tuple ⟨[.agg ⟨[.int .i64 r2_Kind_1, .int .i64 r2_Err_1, .int .i64 r2_Steps_1, .slice r2_Valuesa_1 r2_Valuesl_1 r2_Valuesc_1]⟩, .int .i64 0]⟩) H18) := by
    intro hend
    refine (rend_ok hgr.ok hr hp hs).mono ?_
    rintro _ H16 ⟨e', rfl, r16, m16, res16⟩
    have o16 := m16.get _ _ (show ¬ H5.next = H1.next by omega) hob
    have x16 := m16.get _ _ (show ¬ H.next = H1.next by omega) hres
    have z16 : Grow H H16 := hgr.ext m16 ok fun b hb => .inr (by omega)
    refine ⟨e', rfl, cond_intro (fun he => ?_) (fun he => ?_)⟩
    · have he : e' ≠ 0 := by simpa using he
      have m17 := Mod.set z16.ok x16 (.cells (lset [.int .i64 0, .int .i64 0, .int .i64 0, .slice none 0 0] 0 [.int .i64 0, .int .i64 0, .int .i64 0, .slice none 0 0]) 0)
      have c17 := get_set_self H16 H.next (.cells (lset [.int .i64 0, .int .i64 0, .int .i64 0, .slice none 0 0] 0 [.int .i64 0, .int .i64 0, .int .i64 0, .slice none 0 0]) 0)
      refine ⟨_, store_of (o := 0) x16 (by simp) rfl, 0, 0, 0, none, 0, 0, cell_of c17 rfl, cell_of c17 rfl, cell_of c17 rfl, cell_of c17 rfl, hQ _ _ _ _ _ _ _ _ (z16.ext m17 ok fun b hb => .inr (by omega)) (.inr ⟨he, rfl, rfl, rfl, rfl, rfl, rfl, ?_⟩)⟩
      rcases res16 with ⟨q1, _⟩ | ⟨_, _, q3⟩ | ⟨q1, q2, _⟩
      · exact hB q1
      · exact (he q3).elim
      · have hj : j = 0 := hend.elim (fun h => (h q1).elim) id
        refine noout7 (hG q1) (by omega) fun h => ?_
        have := congrArg List.length h
        rw [List.length_drop] at this
        simp at this; omega
    · have he : e' = 0 := by simpa using he
      subst he
      rcases res16 with ⟨q1, q2⟩ | ⟨q1, q2, _⟩ | ⟨_, _, q3⟩
      · exact (q1 q2.symm).elim
      · have hj : j = 0 := hend.elim (fun h => (h q1).elim) id
        have m18 := Mod.set z16.ok x16 (.cells (lset [.int .i64 0, .int .i64 0, .int .i64 0, .slice none 0 0] 0 [.int .i64 k, .int .i64 er, .int .i64 st, .slice a l c]) 0)
        have c18 := get_set_self H16 H.next (.cells (lset [.int .i64 0, .int .i64 0, .int .i64 0, .slice none 0 0] 0 [.int .i64 k, .int .i64 er, .int .i64 st, .slice a l c]) 0)
        refine ⟨_, _, _, _, _, _, cell_of o16 rfl, cell_of o16 rfl, cell_of o16 rfl, cell_of o16 rfl, _, store_of (o := 0) x16 (by simp) rfl, _, _, _, _, _, _, cell_of c18 rfl, cell_of c18 rfl, cell_of c18 rfl, cell_of c18 rfl,
          hQ _ _ _ _ _ _ _ _ (z16.ext m18 ok fun b hb => .inr (by omega)) (.inl ⟨rfl, ⟨k, er, st, vs⟩, ⟨hk, her, hst, by simp only; omega, heach⟩, ?_, rfl, rfl, rfl, ?_⟩)⟩
        · have := hG q1
          rw [q2, List.drop_length, List.append_nil] at this
          rw [outB]
          simp only
          rw [show vs.length = cnt from by omega]
          exact this
        · have n16 := m16.next
          have hO16 := (hO.mod m16 fun b hb y ey e => by have := hfar y ey; omega).mod m18 fun b hb y ey e => by have := hfar y ey; omega
          refine own_pairs hO16 fun x ex => ⟨by have := hfar x ex; omega, ?_⟩
          have := own_lt hO hgr.ok ex
          show x.block < H16.next
          omega
      · cases q3
  refine cond_dec (fun hpos => ?_) (fun hz => fin (.inr (by omega)))
  refine (rerr_ok hr).mono ?_
  rintro _ _ ⟨rfl, rfl⟩
  refine ⟨_, rfl, cond_intro (fun he => ?_) (fun he => fin (.inl (by simpa using he)))⟩
  have he : e = 0 := by simpa using he
  have hGs := hG he
  refine ⟨a, l, c, cell_of hob rfl, (rsigned_ok hgr.ok hr hp hs).mono ?_⟩
  rintro _ H11 ⟨x, p11, e11, rfl, r11, hp11, m11, hx, res11⟩
  refine ⟨_, rfl, (rsigned_ok m11.ok r11 hp11 hs).mono ?_⟩
  rintro _ H12 ⟨y, p12, e12, rfl, r12, hp12, m12, hy, res12⟩
  refine ⟨_, rfl, ?_⟩
  intro H13 e13
  have m1112 := m11.trans m12
  have g13 : Grow H12 H13 := e13 ▸ Grow.new m12.ok _
  have n13 : H13.next = H12.next + 1 := by rw [e13]; rfl
  have n12 := m1112.next
  have hO13 := (hO.mod m1112 fun b hb y ey e => by have := hfar y ey; omega).mod g13 fun b hb => hb.elim
  have hob11 := m11.get _ _ (show ¬ H5.next = H1.next by omega) hob
  have hob13 := g13.get _ _ id (m1112.get _ _ (show ¬ H5.next = H1.next by omega) hob)
  obtain ⟨H14, k1, k2, k3, k4⟩ := hO13.append (n := 1) (bytes := 16) (new := pairV (x, y)) (x := .slice (some ⟨H12.next, 0, none⟩) 1 2) g13.ok rfl (takev_new e13 rfl) (by omega) rfl rfl (by omega) (by omega)
  have lowS : ∀ {b : Nat}, b < H8.next → ¬ (¬ Off a b) := fun hb h => h fun z ez e => by have := hfar z ez; omega
  have hob14 := k4.get _ _ (lowS (by omega)) hob13
  have hres14 := k4.get _ _ (lowS (by omega)) (g13.get _ _ id (m1112.get _ _ (show ¬ H.next = H1.next by omega) hres))
  have r14 := (r12.mod g13 id).mod k4 (lowS (by omega))
  have m15 := Mod.set k4.ok hob14 (.cells (lset [.int .i64 k, .int .i64 er, .int .i64 st, .slice a l c] 3 [.slice (some ⟨H13.next, 0, none⟩) (l + 1) (2 * (l + 1) + 1)]) 0)
  refine ⟨_, _, _, H14, k1, _, store_of (o := 3) hob14 (by simp) rfl, cell_of hob13 rfl, cell_of hob11 rfl, ?_⟩
  intro t et
  rw [wrap_i64 (by omega) (by omega)] at et
  have et : t = ((j - 1 : Nat) : Int) := by omega
  subst et
  refine ⟨j - 1, by omega, j - 1, vs ++ [(x, y)], p12, e12, _, _, _, rfl, rfl, by rw [List.length_append, List.length_singleton]; omega, r14.mod m15 (by omega), hp12, get_set_self _ _ _, ?_, ?_, m15.get _ _ (by omega) hres14, ?_, ?_, ?_, ?_, ?_⟩
  · rw [List.flatMap_append, List.flatMap_singleton]
    exact k2.mod m15 fun b hb z ez e => by cases ez; simp only at e; omega
  · intro z ez
    cases ez
    simp only; omega
  · intro z hz
    rcases List.mem_append.1 hz with h | h
    · exact heach z h
    · have : z = (x, y) := by simpa using h
      subst this; exact ⟨hx, hy⟩
  · intro h
    subst h
    rcases res12 with ⟨q1, q2, _⟩ | ⟨q1, _, _, q4⟩ | ⟨_, q2, _⟩
    · exact (q1 q2.symm).elim
    · subst q1
      rcases res11 with ⟨q1, q2, _⟩ | ⟨_, _, _, q5⟩ | ⟨_, q2, _⟩
      · exact (q1 q2.symm).elim
      · rw [q5, q4] at hGs
        rw [List.flatMap_append, List.flatMap_singleton, valB, ← List.append_assoc, List.append_assoc _ (sgB x ++ sgB y), List.append_assoc (sgB x)]
        exact hGs
      · exact (q2 rfl).elim
    · exact (q2 rfl).elim
  · intro h
    rcases res11 with ⟨q1, _⟩ | ⟨_, q2, _, q4⟩ | ⟨_, _, _, q4⟩
    · exact (q1 he).elim
    · subst q2
      rcases res12 with ⟨q1, _⟩ | ⟨_, q2, _⟩ | ⟨_, _, _, q5⟩
      · exact (q1 rfl).elim
      · exact (h q2).elim
      · exact noout6 hGs q4 (by omega) q5
    · exact noout5 hGs (by omega) q4
  · show H8.next ≤ H14.next
    omega
  · have z12 : Grow H H12 := hgr.ext m1112 ok fun b hb => .inr (by omega)
    refine ((z12.trans g13).ext k4 ok fun b hb => .inr ?_).ext m15 ok fun b hb => .inr (by omega)
    obtain ⟨z, ez, rfl⟩ := off_not hb
    have := hfar z ez
    omega
end Go.Proofs.Cx
namespace Go.Ev
open Go
def scan (l : List UInt8) : Nat → Nat → Nat → Nat × Nat × Nat
  | 0, _, _ => (6, 0, 0)
  | k + 1, i, n => match l[i]? with
    | none => (4, 0, 0)
    | some b => if (i = 9 ∧ 1 < b.toNat) ∨ (0 < i ∧ b.toNat = 0) then (6, 0, 0)
      else if b.toNat < 128 then (0, n + b.toNat * 128 ^ i, i + 1)
      else scan l k (i + 1) (n + (b.toNat - 128) * 128 ^ i)
theorem pow_9 : (128 : Nat) ^ 9 = 9223372036854775808 := by decide
theorem pow_to9 {i : Nat} (hi : i ≤ 9) : (128 : Nat) ^ i ≤ 9223372036854775808 := pow_9 ▸ Nat.pow_le_pow_right (by omega) hi
theorem scan_ok {l : List UInt8} : ∀ {k i n : Nat}, k + i = 10 → n < 128 ^ i → (scan l k i n).1 = 0 → (scan l k i n).2.1 < 18446744073709551616 ∧ (scan l k i n).2.2 ≤ l.length
  | 0, _, _, _, _, h => by simp [scan] at h
  | k + 1, i, n, hk, hn, h => by
    unfold scan at h ⊢
    cases hl : l[i]? with
    | none => rw [hl] at h; simp at h
    | some b =>
      rw [hl] at h
      obtain ⟨hi, _⟩ := List.getElem?_eq_some_iff.1 hl
      simp only at h ⊢
      split at h
      · simp at h
      · rename_i hc
        rw [if_neg hc]
        have hp := pow_to9 (show i ≤ 9 by omega)
        split at h
        · rename_i hb
          rw [if_pos hb]
          refine ⟨?_, by simp only; omega⟩
          simp only
          rcases Nat.lt_or_ge i 9 with h9 | h9
          · have h8 : (128 : Nat) ^ i ≤ 72057594037927936 := by
              have : (128 : Nat) ^ 8 = 72057594037927936 := by decide
              rw [← this]; exact Nat.pow_le_pow_right (by omega) (by omega)
            have := Nat.mul_le_mul (show b.toNat ≤ 127 by omega) h8
            omega
          · have : i = 9 := by omega
            subst this
            rw [pow_9] at hn ⊢
            have : b.toNat ≤ 1 := by omega
            have := Nat.mul_le_mul_right 9223372036854775808 this
            omega
        · rename_i hb
          rw [if_neg hb]
          refine scan_ok (by omega) ?_ h
          have h2 := b.toNat_lt
          obtain ⟨P, hP⟩ : ∃ P, P = 128 ^ i := ⟨_, rfl⟩
          rw [← hP] at hn
          rw [Nat.pow_succ, ← hP]
          have := Nat.mul_le_mul_right P (show b.toNat - 128 ≤ 127 by omega)
          omega
/-! what stands at a place: the place, the error -/
abbrev RSt := Nat × Int
def rNum (s : List UInt8) (q : RSt) : Nat × RSt := if q.2 ≠ 0 then (0, q) else if (scan (s.drop q.1) 10 0 0).1 = 0 then ((scan (s.drop q.1) 10 0 0).2.1, (q.1 + (scan (s.drop q.1) 10 0 0).2.2, 0)) else (0, (q.1, ((scan (s.drop q.1) 10 0 0).1 : Int)))
def rSig (s : List UInt8) (q : RSt) : Int × RSt := (unfold_ (rNum s q).1, (rNum s q).2)
def rCnt (s : List UInt8) (m : Nat) (q : RSt) : Nat × RSt := if (rNum s q).2.2 ≠ 0 then (0, (rNum s q).2) else if m < (rNum s q).1 then (0, (q.1, 5)) else rNum s q
def rTxt (s : List UInt8) (q : RSt) : List UInt8 × RSt := if (rNum s q).2.2 ≠ 0 then ([], (rNum s q).2) else if s.length - (rNum s q).2.1 < (rNum s q).1 then ([], (q.1, 4)) else ((s.drop (rNum s q).2.1).take (rNum s q).1, ((rNum s q).2.1 + (rNum s q).1, 0))
def rMany {α : Type} (one : RSt → α × RSt) : Nat → RSt → List α × RSt
  | 0, q => ([], q)
  | n + 1, q => if q.2 ≠ 0 then ([], q) else ((one q).1 :: (rMany one n (one q).2).1, (rMany one n (one q).2).2)
def rPair (s : List UInt8) (q : RSt) : (Int × Int) × RSt := (((rSig s q).1, (rSig s (rSig s q).2).1), (rSig s (rSig s q).2).2)
def rVtx (s : List UInt8) (q : RSt) : Vtx × RSt :=
  let a := rSig s q
  let b := rSig s a.2
  let n := rCnt s 2048 b.2
  let es := rMany (rPair s) n.1 n.2
  (⟨a.1, b.1, es.1⟩, es.2)
noncomputable def rGraph (s : List UInt8) (q : RSt) : List Vtx × RSt :=
  let n := rCnt s 256 q
  let vs := rMany (rVtx s) n.1 n.2
  (vs.1, if vs.2.2 = 0 then (vs.2.1, chk vs.1) else vs.2)
/-! jobs -/
structure JobW where
  prog : List UInt8
  graph : List Vtx
  params : List Int
  steps : Int
  sent : Int
  parts : Int
def progs : List (List UInt8) := [[98, 102, 115], [99, 99], [99, 111, 108, 111, 114, 115], [100, 101, 103, 114, 101, 101], [107, 99, 111, 114, 101], [108, 97, 98, 101, 108, 115], [109, 97, 116, 99, 104, 105, 110, 103], [112, 97, 103, 101, 114, 97, 110, 107], [115, 115, 115, 112], [116, 114, 105, 97, 110, 103, 108, 101, 115]]
def pBfs : List UInt8 := [98, 102, 115]
def pSssp : List UInt8 := [115, 115, 115, 112]
def pRank : List UInt8 := [112, 97, 103, 101, 114, 97, 110, 107]
def pLab : List UInt8 := [108, 97, 98, 101, 108, 115]
def pCore : List UInt8 := [107, 99, 111, 114, 101]
def NoNeg (G : List Vtx) : Prop := ∀ (i k : Nat) (hi : i < G.length) (hk : k < G[i].edges.length), 0 ≤ (G[i].edges[k]).2
def Turns1 (most : Int) (ps : List Int) : Prop := ∃ x, ps = [x] ∧ 0 ≤ x ∧ x ≤ most
def Src (G : List Vtx) (ps : List Int) : Prop := ∃ x, ps = [x] ∧ isIn G x = true
open Classical in
noncomputable def pchk (p : List UInt8) (G : List Vtx) (ps : List Int) : Int :=
  if p = pBfs then (if Src G ps then 0 else 71)
  else if p = pSssp then (if Src G ps ∧ NoNeg G then 0 else 71)
  else if p = pRank ∨ p = pLab then (if Turns1 100 ps then 0 else 71)
  else if p = pCore then (if Turns1 256 ps then 0 else 71)
  else if p ∈ progs then (if ps = [] then 0 else 71) else 70
open Classical in
noncomputable def jchk (j : JobW) : Int :=
  if j.prog ∉ progs then 70 else if chk j.graph ≠ 0 then chk j.graph else if 4 < j.params.length then 71 else if pchk j.prog j.graph j.params ≠ 0 then pchk j.prog j.graph j.params
  else if j.steps < 1 ∨ 1000 < j.steps ∨ j.sent < 0 ∨ 65536 < j.sent ∨ j.parts < 1 ∨ 16 < j.parts then 90 else 0
noncomputable def rJob (s : List UInt8) (q : RSt) : JobW × RSt :=
  let t := rTxt s q
  let g := rGraph s t.2
  let n := rCnt s 4 g.2
  let ps := rMany (rSig s) n.1 n.2
  let a := rCnt s 1000 ps.2
  let b := rCnt s 65536 a.2
  let c := rCnt s 16 b.2
  (⟨t.1, g.1, ps.1, a.1, b.1, c.1⟩, if c.2.2 = 0 then (c.2.1, jchk ⟨t.1, g.1, ps.1, a.1, b.1, c.1⟩) else c.2)
def rEnd (s : List UInt8) (q : RSt) : Int := if q.2 = 0 ∧ q.1 < s.length then 5 else q.2
/-! what is known of what was read -/
def AtOk (s : List UInt8) (q : RSt) : Prop := q.1 ≤ s.length
theorem rNum_ok {s : List UInt8} {q : RSt} (h : AtOk s q) : AtOk s (rNum s q).2 ∧ (rNum s q).1 < 18446744073709551616 := by
  unfold rNum AtOk at *
  split
  · exact ⟨h, by simp⟩
  · split
    · rename_i h0
      have := scan_ok (l := s.drop q.1) (k := 10) (i := 0) (n := 0) (by omega) (by simp) h0
      rw [List.length_drop] at this
      exact ⟨by simp only; omega, this.1⟩
    · exact ⟨h, by simp⟩
theorem rSig_ok {s : List UInt8} {q : RSt} (h : AtOk s q) : AtOk s (rSig s q).2 ∧ I64 (rSig s q).1 := ⟨(rNum_ok h).1, unfold_i64 (rNum_ok h).2⟩
theorem rCnt_ok {s : List UInt8} {m : Nat} {q : RSt} (h : AtOk s q) : AtOk s (rCnt s m q).2 ∧ (rCnt s m q).1 ≤ m := by
  have h1 := rNum_ok h
  unfold rCnt
  split
  · exact ⟨h1.1, by simp⟩
  · split
    · exact ⟨h, by simp⟩
    · exact ⟨h1.1, by omega⟩
theorem rTxt_ok {s : List UInt8} {q : RSt} (h : AtOk s q) : AtOk s (rTxt s q).2 ∧ (rTxt s q).1.length ≤ s.length := by
  have h1 := rNum_ok h
  unfold rTxt
  split
  · exact ⟨h1.1, by simp⟩
  · split
    · exact ⟨h, by simp⟩
    · refine ⟨?_, by rw [List.length_take, List.length_drop]; omega⟩
      have := h1.1
      unfold AtOk at *
      simp only; omega
theorem rMany_ok {α : Type} {s : List UInt8} {one : RSt → α × RSt} {R : α → Prop} (h1 : ∀ q, AtOk s q → AtOk s (one q).2 ∧ R (one q).1) : ∀ {n : Nat} {q : RSt}, AtOk s q → AtOk s (rMany one n q).2 ∧ (rMany one n q).1.length ≤ n ∧ ∀ x ∈ (rMany one n q).1, R x
  | 0, q, h => ⟨h, by simp [rMany], by simp [rMany]⟩
  | n + 1, q, h => by
    unfold rMany
    split
    · exact ⟨h, by simp, by simp⟩
    · have a := h1 q h
      obtain ⟨b1, b2, b3⟩ := rMany_ok h1 (n := n) a.1
      refine ⟨b1, by simp; omega, fun x hx => ?_⟩
      rcases List.mem_cons.1 hx with rfl | hx
      · exact a.2
      · exact b3 x hx
def PairI (e : Int × Int) : Prop := I64 e.1 ∧ I64 e.2
structure VtxI (v : Vtx) : Prop where
  id : I64 v.id
  val : I64 v.val
  len : v.edges.length ≤ 2048
  edges : ∀ e ∈ v.edges, PairI e
theorem rPair_ok {s : List UInt8} {q : RSt} (h : AtOk s q) : AtOk s (rPair s q).2 ∧ PairI (rPair s q).1 := by
  have a := rSig_ok h
  have b := rSig_ok a.1
  exact ⟨b.1, a.2, b.2⟩
theorem rVtx_ok {s : List UInt8} {q : RSt} (h : AtOk s q) : AtOk s (rVtx s q).2 ∧ VtxI (rVtx s q).1 := by
  have a := rSig_ok h
  have b := rSig_ok a.1
  have c := rCnt_ok (m := 2048) b.1
  have d := rMany_ok (one := rPair s) (R := PairI) (fun q h => rPair_ok h) (n := (rCnt s 2048 (rSig s (rSig s q).2).2).1) c.1
  exact ⟨d.1, a.2, b.2, Nat.le_trans d.2.1 c.2, d.2.2⟩
structure GraphI (G : List Vtx) : Prop where
  len : G.length ≤ 256
  each : ∀ v ∈ G, VtxI v
theorem rGraph_ok {s : List UInt8} {q : RSt} (h : AtOk s q) : AtOk s (rGraph s q).2 ∧ GraphI (rGraph s q).1 := by
  have c := rCnt_ok (m := 256) h
  have d := rMany_ok (one := rVtx s) (R := VtxI) (fun q h => rVtx_ok h) (n := (rCnt s 256 q).1) c.1
  refine ⟨?_, Nat.le_trans d.2.1 c.2, d.2.2⟩
  have := d.1
  unfold rGraph AtOk at *
  simp only
  split
  · exact this
  · exact this
structure JobI (j : JobW) : Prop where
  graph : GraphI j.graph
  params : j.params.length ≤ 4
  each : ∀ x ∈ j.params, I64 x
  steps : 0 ≤ j.steps ∧ j.steps ≤ 1000
  sent : 0 ≤ j.sent ∧ j.sent ≤ 65536
  parts : 0 ≤ j.parts ∧ j.parts ≤ 16
theorem rJob_ok {s : List UInt8} {q : RSt} (h : AtOk s q) : AtOk s (rJob s q).2 ∧ JobI (rJob s q).1 ∧ (rJob s q).1.prog.length ≤ s.length := by
  have t := rTxt_ok h
  have g := rGraph_ok t.1
  have n := rCnt_ok (m := 4) g.1
  have ps := rMany_ok (one := rSig s) (R := I64) (fun q h => rSig_ok h) (n := (rCnt s 4 (rGraph s (rTxt s q).2).2).1) n.1
  have a := rCnt_ok (m := 1000) ps.1
  have b := rCnt_ok (m := 65536) a.1
  have c := rCnt_ok (m := 16) b.1
  refine ⟨?_, ⟨g.2, Nat.le_trans ps.2.1 n.2, ps.2.2, ⟨Int.natCast_nonneg _, Int.ofNat_le.2 a.2⟩, ⟨Int.natCast_nonneg _, Int.ofNat_le.2 b.2⟩, ⟨Int.natCast_nonneg _, Int.ofNat_le.2 c.2⟩⟩, t.2⟩
  have := c.1
  unfold rJob AtOk at *
  simp only
  split
  · exact this
  · exact this
/-! what is written is read -/
def txtB (t : List UInt8) : List UInt8 := enc t.length ++ t
def pairB (e : Int × Int) : List UInt8 := sgB e.1 ++ sgB e.2
def vtxB (v : Vtx) : List UInt8 := sgB v.id ++ sgB v.val ++ enc v.edges.length ++ v.edges.flatMap pairB
def graphB (G : List Vtx) : List UInt8 := enc G.length ++ G.flatMap vtxB
def jobB (j : JobW) : List UInt8 := txtB j.prog ++ graphB j.graph ++ enc j.params.length ++ j.params.flatMap sgB ++ enc j.steps.toNat ++ enc j.sent.toNat ++ enc j.parts.toNat
theorem jchk_zero {j : JobW} (h : jchk j = 0) : j.prog ∈ progs ∧ chk j.graph = 0 ∧ j.params.length ≤ 4 ∧ pchk j.prog j.graph j.params = 0 ∧ 1 ≤ j.steps ∧ j.steps ≤ 1000 ∧ 0 ≤ j.sent ∧ j.sent ≤ 65536 ∧ 1 ≤ j.parts ∧ j.parts ≤ 16 := by
  unfold jchk at h
  split at h
  · cases h
  · rename_i h1
    split at h
    · rename_i h2; exact (h2 h).elim
    · rename_i h2
      split at h
      · cases h
      · rename_i h3
        split at h
        · rename_i h4; exact (h4 h).elim
        · rename_i h4
          split at h
          · cases h
          · rename_i h5
            exact ⟨Classical.not_not.1 h1, Classical.not_not.1 h2, by omega, Classical.not_not.1 h4, by omega, by omega, by omega, by omega, by omega, by omega⟩
end Go.Ev
namespace Go.Ev
open Go
theorem rNum_err {s : List UInt8} {p : Nat} {e : Int} (h : e ≠ 0) : rNum s (p, e) = (0, (p, e)) := by unfold rNum; rw [if_pos h]
theorem rNum_bad {s : List UInt8} {p e : Nat} (h : scan (s.drop p) 10 0 0 = (e, 0, 0)) (he : e ≠ 0) : rNum s (p, 0) = (0, (p, (e : Int))) := by
  unfold rNum; rw [if_neg (by simp)]
  simp only [h]; rw [if_neg he]
theorem rNum_good {s : List UInt8} {p n k : Nat} (h : scan (s.drop p) 10 0 0 = (0, n, k)) : rNum s (p, 0) = (n, (p + k, 0)) := by
  unfold rNum; rw [if_neg (by simp)]
  simp only [h, if_true]
theorem scan_cut {l : List UInt8} {k i n : Nat} (h : l.length ≤ i) : scan l (k + 1) i n = (4, 0, 0) := by
  unfold scan; rw [List.getElem?_eq_none h]
theorem scan_bad {l : List UInt8} {k i n : Nat} (h : i < l.length) (hc : (i = 9 ∧ 1 < l[i].toNat) ∨ (0 < i ∧ l[i].toNat = 0)) : scan l (k + 1) i n = (6, 0, 0) := by
  unfold scan; rw [List.getElem?_eq_getElem h]; simp only; rw [if_pos hc]
theorem scan_stop {l : List UInt8} {k i n : Nat} (h : i < l.length) (hc : ¬ ((i = 9 ∧ 1 < l[i].toNat) ∨ (0 < i ∧ l[i].toNat = 0))) (hb : l[i].toNat < 128) : scan l (k + 1) i n = (0, n + l[i].toNat * 128 ^ i, i + 1) := by
  unfold scan; rw [List.getElem?_eq_getElem h]; simp only; rw [if_neg hc, if_pos hb]
theorem scan_go {l : List UInt8} {k i n : Nat} (h : i < l.length) (hc : ¬ ((i = 9 ∧ 1 < l[i].toNat) ∨ (0 < i ∧ l[i].toNat = 0))) (hb : 128 ≤ l[i].toNat) : scan l (k + 1) i n = scan l k (i + 1) (n + (l[i].toNat - 128) * 128 ^ i) := by
  conv => lhs; unfold scan
  rw [List.getElem?_eq_getElem h]; simp only; rw [if_neg hc, if_neg (by omega)]
theorem pow_next {n B i : Nat} (hn : n < 128 ^ i) (hB : B < 256) : n + (B - 128) * 128 ^ i < 128 ^ (i + 1) := by
  obtain ⟨P, hP⟩ : ∃ P, P = 128 ^ i := ⟨_, rfl⟩
  rw [← hP] at hn
  rw [Nat.pow_succ, ← hP]
  have := Nat.mul_le_mul_right P (show B - 128 ≤ 127 by omega)
  omega
theorem pow_fit {n B i : Nat} (hi : i ≤ 9) (hn : n < 128 ^ i) (h9 : i = 9 → B ≤ 1) : n + B % 128 * 128 ^ i < 18446744073709551616 := by
  rcases Nat.lt_or_ge i 9 with h | h
  · have h8 : (128 : Nat) ^ i ≤ 72057594037927936 := by
      have : (128 : Nat) ^ 8 = 72057594037927936 := by decide
      rw [← this]; exact Nat.pow_le_pow_right (by omega) (by omega)
    have := Nat.mul_le_mul (show B % 128 ≤ 127 by omega) h8
    omega
  · have : i = 9 := by omega
    subst this
    have := h9 rfl
    rw [pow128_9] at hn ⊢
    have : B % 128 ≤ 1 := by omega
    omega
theorem cond_num {i B : Nat} {P E : Prop} (hE : ((i = 9 ∧ 1 < B) ∨ (0 < i ∧ B = 0)) → E) (hP : ¬ ((i = 9 ∧ 1 < B) ∨ (0 < i ∧ B = 0)) → P) :
    cond ((i : Int) == 9) (cond (decide ((B : Int) > 1)) E (cond ((B : Int) == 0) (cond (decide ((i : Int) > 0)) E P) P)) (cond ((B : Int) == 0) (cond (decide ((i : Int) > 0)) E P) P) := by
  have zero : ∀ {x : Nat}, ((x : Int) == 0) = true → x = 0 := fun {x} h => by
    have : (x : Int) = 0 := by simpa using h
    omega
  have nz : ∀ {x : Nat}, ((x : Int) == 0) = false → x ≠ 0 := fun {x} h e => by subst e; simp at h
  refine cond_intro (fun h9 => ?_) (fun h9 => ?_)
  · have h9 : i = 9 := by
      have : (i : Int) = 9 := by simpa using h9
      omega
    refine cond_dec (fun hb => hE (.inl ⟨h9, by omega⟩)) (fun hb => cond_intro (fun hz => ?_) (fun hz => hP ?_))
    · have := zero hz
      exact cond_dec (fun h0 => hE (.inr ⟨by omega, this⟩)) (fun h0 => by omega)
    · have := nz hz
      omega
  · have h9 : i ≠ 9 := by
      have : (i : Int) ≠ 9 := by simpa using h9
      omega
    refine cond_intro (fun hz => ?_) (fun hz => hP ?_)
    · have := zero hz
      exact cond_dec (fun h0 => hE (.inr ⟨by omega, this⟩)) (fun h0 => hP (by omega))
    · have := nz hz
      omega
theorem strv_cut {s : List UInt8} {a n : Nat} (h : a + n ≤ s.length) : strv s (some (.int .i64 (a : Int))) (some (.int .i64 ((a + n : Nat) : Int))) = some (.string ⟨⟨(s.drop a).take n⟩⟩) := by
  unfold strv
  rw [show boundOf s.length (some (.int .i64 ((a + n : Nat) : Int))) (some s.length) = some (a + n) from by
    simp only [boundOf]
    rw [if_pos (by constructor <;> omega)]; rfl]
  simp only
  rw [show boundOf (a + n) (some (.int .i64 (a : Int))) (some 0) = some a from by
    simp only [boundOf]
    rw [if_pos (by constructor <;> omega)]; rfl]
  simp only
  rw [show a + n - a = n from by omega]
end Go.Ev
namespace Go.Proofs.Cx
open Go Go.Ev
section
variable {H : AH} {b : Nat} {s : List UInt8} {p : Nat} {e : Int}
theorem xnum_vc {Q : Value → AH → Prop} (ok : Ok H) (h : Rd H b s p e) (hp : p ≤ s.length) (hs : s.length ≤ 4611686018427387904)
    (hQ : ∀ H', Rd H' b s (rNum s (p, e)).2.1 (rNum s (p, e)).2.2 → Mod (· = b) H H' → Q (.int .u64 ((rNum s (p, e)).1 : Int)) H') :
    FW Ee F_wire_Reader_Number [.pointer (some ⟨b, 0, none⟩)] H Q := by
  refine fw_wire_Reader_Number ?_
  refine (rerr_ok h).mono ?_
  rintro _ _ ⟨rfl, rfl⟩
  refine ⟨_, rfl, cond_intro (fun he => ?_) (fun he => ?_)⟩
  · have he : e ≠ 0 := by simpa using he
    rw [rNum_err he] at hQ
    exact hQ H h (.refl ok)
  have he : e = 0 := by simpa using he
  subst he
  have bad : ∀ e' : Nat, e' ≠ 0 → scan (s.drop p) 10 0 0 = (e', 0, 0) → ∃ H', storeCellsv H b 2 [.int .i64 (e' : Int)] = some H' ∧ Q (.int .u64 0) H' := by
    intro e' he' hno
    obtain ⟨H', h1, h2, h3⟩ := h.err ok (e' : Int)
    rw [rNum_bad hno he'] at hQ
    exact ⟨H', h1, hQ H' h2 h3⟩
  have hc0 : H.cell b 0 = some (.string ⟨⟨s⟩⟩) := cell_of h rfl
  have hc1 : H.cell b 1 = some (.int .i64 (p : Int)) := cell_of h rfl
  refine ⟨fun m _ n3 t9 Hx => H = Hx ∧ ∃ i n : Nat, t9 = i ∧ n3 = n ∧ i ≤ 9 ∧ m = 10 - i ∧ n < 128 ^ i ∧ scan (s.drop p) 10 0 0 = scan (s.drop p) (10 - i) i n, ⟨_, rfl, 0, 0, rfl, rfl, by omega, rfl, by simp, rfl⟩, ?_⟩
  rintro m t2 n3 t9 Hx ⟨rfl, i, n, rfl, rfl, hi, rfl, hlt, hsc⟩
  rw [show 10 - i = 9 - i + 1 from by omega] at hsc
  refine cond_dec (fun _ => ?_) (fun hge => by omega)
  have hlen := List.length_drop (i := p) (l := s)
  refine ⟨p, hc1, ?_⟩
  intro t17 e17
  rw [wrap_i64 (by omega) (by omega)] at e17
  subst e17
  refine ⟨s, hc0, cond_dec (fun hcut => ?_) (fun hin => ?_)⟩
  · exact bad 4 (by omega) (hsc.trans (scan_cut (by omega)))
  have hil : i < (s.drop p).length := by omega
  refine ⟨s, hc0, p, hc1, ?_⟩
  intro t36 e36
  rw [wrap_i64 (by omega) (by omega)] at e36
  subst e36
  refine ⟨by omega, by omega, ?_⟩
  obtain ⟨B, hB⟩ : ∃ B : Nat, B = ((s.drop p)[i]).toNat := ⟨_, rfl⟩
  have hB256 : B < 256 := by rw [hB]; exact UInt8.toNat_lt _
  have hbyte : byteAt s ((p : Int) + (i : Int)) = (B : Int) := by rw [byteAt_drop hil, hB]
  rw [hbyte]
  refine cond_num (fun hbad => bad 6 (by omega) (hsc.trans (scan_bad hil (by rw [← hB]; exact hbad)))) (fun hgood => ?_)
  have h9 : i = 9 → B ≤ 1 := fun h => by omega
  have hfit := pow_fit hi hlt h9
  have hpow := pow_le hi
  intro t57 e57 t58 e58 t60 e60
  rw [low7 hB256] at e57
  subst e57
  rw [wrap_u64 (by omega) (by omega)] at e58
  subst e58
  rw [wrap_i64 (by omega) (by omega)] at e60
  subst e60
  refine ⟨by omega, ?_⟩
  intro t61 e61
  rw [shlk hi] at e61
  obtain ⟨X, hX⟩ : ∃ X, X = B % 128 * 128 ^ i := ⟨_, rfl⟩
  rw [← hX] at e61 hfit
  rw [wrap_u64 (by omega) (by omega)] at e61
  subst e61
  intro t62 e62
  rw [ior_u64 (by omega) (by omega), hX, or_add hlt, ← hX] at e62
  subst e62
  intro t64 e64
  rw [high1 hB256] at e64
  refine cond_intro (fun hz => ?_) (fun hnz => ?_)
  · have hlo : B < 128 := by
      by_cases h : B < 128
      · exact h
      · rw [if_neg h] at e64; subst e64; simp at hz
    refine ⟨p, hc1, ?_⟩
    intro t71 e71
    rw [wrap_i64 (by omega) (by omega)] at e71
    subst e71
    intro t72 e72
    rw [wrap_i64 (by omega) (by omega)] at e72
    have e72 : t72 = ((p + (i + 1) : Nat) : Int) := by omega
    subst e72
    obtain ⟨H', q1, q2, q3⟩ := h.set ok (p + (i + 1))
    have hst := hsc.trans (scan_stop hil (by rw [← hB]; exact hgood) (by rw [← hB]; exact hlo))
    rw [← hB] at hst
    rw [rNum_good hst] at hQ
    rw [hX, Nat.mod_eq_of_lt hlo]
    exact ⟨H', q1, hQ H' q2 q3⟩
  · have hhi : 128 ≤ B := by
      by_cases h : B < 128
      · rw [if_pos h] at e64; subst e64; simp at hnz
      · omega
    intro t76 e76
    rw [wrap_i64 (by omega) (by omega)] at e76
    have hi9 : i ≠ 9 := fun e => by have := h9 e; omega
    have hst := hsc.trans (scan_go hil (by rw [← hB]; exact hgood) (by rw [← hB]; exact hhi))
    rw [← hB] at hst
    rw [hX, show B % 128 = B - 128 from by omega]
    exact ⟨10 - (i + 1), by omega, rfl, i + 1, _, by omega, rfl, by omega, rfl, pow_next hlt hB256, by rw [hst, show 9 - i = 10 - (i + 1) from by omega]⟩
end
section
variable {H : AH} {b : Nat} {s : List UInt8} {q : RSt}
theorem xnum_ok (ok : Ok H) (h : Rd H b s q.1 q.2) (hp : AtOk s q) (hs : s.length ≤ 4611686018427387904) :
    FW Ee F_wire_Reader_Number [.pointer (some ⟨b, 0, none⟩)] H fun r H' => r = .int .u64 ((rNum s q).1 : Int) ∧ Rd H' b s (rNum s q).2.1 (rNum s q).2.2 ∧ Mod (· = b) H H' :=
  xnum_vc ok h hp hs fun _ h1 h2 => ⟨rfl, h1, h2⟩
theorem xsig_ok (ok : Ok H) (h : Rd H b s q.1 q.2) (hp : AtOk s q) (hs : s.length ≤ 4611686018427387904) :
    FW Ee F_wire_Reader_Signed [.pointer (some ⟨b, 0, none⟩)] H fun r H' => r = .int .i64 (rSig s q).1 ∧ Rd H' b s (rSig s q).2.1 (rSig s q).2.2 ∧ Mod (· = b) H H' := by
  refine fw_wire_Reader_Signed ?_
  refine (xnum_ok ok h hp hs).mono ?_
  rintro _ H1 ⟨rfl, h1, h2⟩
  refine ⟨_, rfl, (unfold_ok (rNum_ok hp).2).mono ?_⟩
  rintro _ _ ⟨rfl, rfl⟩
  exact ⟨_, rfl, rfl, h1, h2⟩
theorem xcnt_ok (m : Nat) (hm : m ≤ 4611686018427387904) (ok : Ok H) (h : Rd H b s q.1 q.2) (hp : AtOk s q) (hs : s.length ≤ 4611686018427387904) :
    FW Ee F_wire_Reader_Count [.pointer (some ⟨b, 0, none⟩), .int .i64 m] H fun r H' => r = .int .i64 ((rCnt s m q).1 : Int) ∧ Rd H' b s (rCnt s m q).2.1 (rCnt s m q).2.2 ∧ Mod (· = b) H H' := by
  have hn := rNum_ok hp
  refine fw_wire_Reader_Count ?_
  refine (rat_ok h).mono ?_
  rintro _ _ ⟨rfl, rfl⟩
  refine ⟨_, rfl, (xnum_ok ok h hp hs).mono ?_⟩
  rintro _ H1 ⟨rfl, h1, h3⟩
  refine ⟨_, rfl, (rerr_ok h1).mono ?_⟩
  rintro _ _ ⟨rfl, rfl⟩
  refine ⟨_, rfl, cond_intro (fun he => ?_) (fun he => ?_)⟩
  · have he : (rNum s q).2.2 ≠ 0 := by simpa using he
    unfold rCnt
    rw [if_pos he]
    exact ⟨rfl, h1, h3⟩
  · have he : (rNum s q).2.2 = 0 := by simpa using he
    unfold rCnt
    rw [if_neg (by simpa using he)]
    refine cond_dec (fun hneg => by omega) (fun _ => ?_)
    intro t19 e19
    rw [wrap_u64 (by omega) (by omega)] at e19
    subst e19
    refine cond_dec (fun hbig => ?_) (fun hok => ?_)
    · obtain ⟨H6, k1, k2, k3⟩ := h1.set h3.ok q.1
      obtain ⟨H7, l1, l2, l3⟩ := k2.err k3.ok 5
      rw [if_pos (by omega)]
      exact ⟨H6, k1, H7, l1, rfl, l2, (h3.trans k3).trans l3⟩
    · intro t30 e30
      rw [wrap_i64 (by omega) (by omega)] at e30
      subst e30
      rw [if_neg (by omega)]
      exact ⟨rfl, h1, h3⟩
theorem xbytes_ok {n : Nat} (ok : Ok H) (h : Rd H b s q.1 q.2) (he : q.2 = 0) (hn : q.1 + n ≤ s.length) (hs : s.length ≤ 4611686018427387904) :
    FW Ee F_wire_Reader_Bytes [.pointer (some ⟨b, 0, none⟩), .int .i64 n] H fun r H' => r = .string ⟨⟨(s.drop q.1).take n⟩⟩ ∧ Rd H' b s (q.1 + n) 0 ∧ Mod (· = b) H H' := by
  refine fw_wire_Reader_Bytes ?_
  refine (rerr_ok h).mono ?_
  rintro _ _ ⟨rfl, rfl⟩
  refine ⟨_, rfl, cond_neg (by simp [he]) (cond_dec (fun h => by omega) fun _ => ?_)⟩
  refine ⟨s, cell_of h rfl, _, cell_of h rfl, ?_⟩
  intro t25 e25
  rw [wrap_i64 (by omega) (by omega)] at e25
  subst e25
  refine cond_dec (fun h => by omega) fun _ => ?_
  refine ⟨_, cell_of h rfl, ?_⟩
  intro t36 e36
  rw [wrap_i64 (by omega) (by omega)] at e36
  have e36 : t36 = ((q.1 + n : Nat) : Int) := by omega
  subst e36
  obtain ⟨H4, k1, k2, k3⟩ := h.set ok (q.1 + n)
  refine ⟨H4, k1, s, cell_of k2 rfl, _, cell_of k2 rfl, ?_⟩
  intro t48 e48
  rw [wrap_i64 (by omega) (by omega)] at e48
  have e48 : t48 = ((q.1 : Nat) : Int) := by omega
  subst e48
  refine ⟨_, cell_of k2 rfl, _, strv_cut hn, rfl, ?_, k3⟩
  rw [he] at k2
  exact k2
theorem xtxt_ok (ok : Ok H) (h : Rd H b s q.1 q.2) (hp : AtOk s q) (hs : s.length ≤ 4611686018427387904) :
    FW Ee F_wire_Reader_Text [.pointer (some ⟨b, 0, none⟩)] H fun r H' => r = .string ⟨⟨(rTxt s q).1⟩⟩ ∧ Rd H' b s (rTxt s q).2.1 (rTxt s q).2.2 ∧ Mod (· = b) H H' := by
  have hn := rNum_ok hp
  have hat : (rNum s q).2.1 ≤ s.length := hn.1
  refine fw_wire_Reader_Text ?_
  refine (rat_ok h).mono ?_
  rintro _ _ ⟨rfl, rfl⟩
  refine ⟨_, rfl, (xnum_ok ok h hp hs).mono ?_⟩
  rintro _ H1 ⟨rfl, h1, h3⟩
  refine ⟨_, rfl, (rerr_ok h1).mono ?_⟩
  rintro _ _ ⟨rfl, rfl⟩
  refine ⟨_, rfl, cond_intro (fun he => ?_) (fun he => ?_)⟩
  · have he : (rNum s q).2.2 ≠ 0 := by simpa using he
    unfold rTxt
    rw [if_pos he]
    exact ⟨rfl, h1, h3⟩
  · have he : (rNum s q).2.2 = 0 := by simpa using he
    unfold rTxt
    rw [if_neg (by simpa using he)]
    refine (rleft_ok h1 hat hs).mono ?_
    rintro _ _ ⟨rfl, rfl⟩
    refine ⟨_, rfl, ?_⟩
    intro t15 e15
    rw [wrap_u64 (by omega) (by omega)] at e15
    subst e15
    refine cond_dec (fun hbig => ?_) (fun hok => ?_)
    · obtain ⟨H6, k1, k2, k3⟩ := h1.set h3.ok q.1
      obtain ⟨H7, l1, l2, l3⟩ := k2.err k3.ok 4
      rw [if_pos (by omega)]
      exact ⟨H6, k1, H7, l1, rfl, l2, (h3.trans k3).trans l3⟩
    · intro t26 e26
      rw [wrap_i64 (by omega) (by omega)] at e26
      subst e26
      rw [if_neg (by omega)]
      refine (xbytes_ok h3.ok h1 he (by omega) hs).mono ?_
      rintro _ H7 ⟨rfl, h7, m7⟩
      exact ⟨_, rfl, rfl, h7, h3.trans m7⟩
end
/-! the document's -/
theorem two_new {H H1 H2 : AH} {x y : AObj} (ok : Ok H) (e1 : H1 = H.new x) (e2 : H2 = H1.new y) : Grow H H2 ∧ H2.get H.next = some x ∧ H2.get H1.next = some y ∧ H1.next = H.next + 1 ∧ H2.next = H.next + 2 := by
  subst e1
  have g := Grow.new ok x
  subst e2
  have g2 := Grow.new g.ok y
  exact ⟨g.trans g2, g2.get _ _ id (get_new_self _ _), get_new_self _ _, rfl, rfl⟩
section
variable {H : AH} {s : List UInt8} {q : RSt}
end
end Go.Proofs.Cx
namespace Go.Proofs.Cx
open Go Go.Ev
section
variable {H : AH} {s : List UInt8} {q : RSt}
end
end Go.Proofs.Cx
namespace Go.Proofs.Cx
open Go Go.Ev
theorem gcount_ok {F : Nat → Prop} {a : Option Addr} {l c : Nat} {H : AH} {G : List Vtx} (ok : Ok H) (hG : SlV F H a l G) (hF : ∀ b, F b → b < H.next) (hf : Fit G) (hn : nE G ≤ 4611686018427387904) :
    FW Ee F_graph_Edges [.agg ⟨[.slice a l c]⟩] H fun r H' => r = .int .i64 (nE G : Int) ∧ Grow H H' := by
  have hlen := hG.len
  have hfn := hf.n
  refine fw_graph_Edges ?_
  intro H1 e1
  have g1 : Grow H H1 := e1 ▸ Grow.new ok _
  have b1 : H1.get H.next = some (.cells [.slice a l c] 0) := e1 ▸ get_new_self _ _
  have n1 : H1.next = H.next + 1 := by rw [e1]; rfl
  intro H2 e2
  obtain ⟨H3, e3, b3, g3, n3⟩ := fresh_store (vs := [.int .i64 0]) e2 rfl rfl g1.ok
  refine ⟨H3, e3, a, l, c, cell_of (g3.get _ _ id b1) rfl, (all_ok g3.ok).mono ?_⟩
  rintro _ H4 ⟨rfl, b4, g4⟩
  have n4 := g4.next
  refine ⟨_, rfl, ?_⟩
  intro L hL hst hpd
  have g5 : Grow H4 (H4.new (.loop L)) := Grow.new g4.ok _
  have g35 := g4.trans g5
  have gall := (g1.trans g3).trans g35
  have n5 : (H4.new (.loop L)).next = H4.next + 1 := rfl
  let S : Nat → Prop := fun b => b = H1.next ∨ b = H4.next
  refine (all1_ok (F := F) (S := S) (R := fun done Hx => Hx.get H4.next = some (.loop L) ∧ Hx.get H1.next = some (.cells [.int .i64 (done.length : Int)] 0)) g5.ok (a := a) (l := l) (c := c) (G := G) (hG.grow loc_vtx gall) (by omega) hf.e (cell_of (g5.get _ _ id b4) rfl) ?_ ?_ ?_ ?_).mono ?_
  · intro b hb
    rcases hb with rfl | rfl
    · exact ⟨by omega, fun h => by have := hF _ h; omega⟩
    · exact ⟨by omega, fun h => by have := hF _ h; omega⟩
  · exact ⟨get_new_self _ _, g35.get _ _ id b3⟩
  · rintro done Ha Hb ⟨r1, r2⟩ g
    exact ⟨g.get _ _ id r1, g.get _ _ id r2⟩
  · rintro done x rest Hx hsp ⟨r1, r2⟩ okx mx
    have hlenE := flatE_len G
    have hlt : done.length < nE G := by rw [← hlenE, hsp]; simp
    refine rw_graph_Edges_r0 r1 hL ?_
    have mw := Mod.set okx r1 (.loop { L with st := .busy })
    have w2 := mw.get _ _ (show ¬ H1.next = H4.next by omega) r2
    have lw := get_set_self Hx H4.next (.loop { L with st := .busy })
    refine ⟨L, r1, hst, hL.body, _, cell_of w2 rfl, ?_⟩
    intro t9 e9
    rw [wrap_i64 (by omega) (by omega)] at e9
    subst e9
    have m1 := Mod.set mw.ok w2 (.cells (lset [.int .i64 (done.length : Int)] 0 [.int .i64 ((done.length : Int) + 1)]) 0)
    have l1 := m1.get _ _ (show ¬ H4.next = H1.next by omega) lw
    have m3 := Mod.set m1.ok l1 (.loop L)
    have hLr : ({ L with st := LoopState.ready, pend := none } : ALoop) = L := by
      cases L; simp only at hst hpd; subst hst hpd; rfl
    refine ⟨_, store_of (o := 0) w2 (by simp) rfl, _, l1, rfl, ?_, ?_⟩
    · simp only [hLr]
      refine ⟨get_set_self _ _ _, ?_⟩
      refine Eq.trans (m3.get H1.next _ (by omega) (get_set_self _ _ _)) ?_
      simp [lset]
    · simp only [hLr]
      have q : ∀ {S' : Nat → Prop} {Ha Hb : AH}, Ok Ha → Mod S' Ha Hb → (∀ b, S' b → S b) → Mod S Ha Hb := fun ok h k => h.le (fun b hb _ => k b hb) ok
      exact (q okx mw (fun b h => .inr h)).trans ((q mw.ok m1 (fun b h => .inl h)).trans (q m1.ok m3 (fun b h => .inr h)))
  · rintro _ H6 ⟨⟨r1, r2⟩, m6⟩
    have m7 := Mod.set m6.ok r1 (.loop { L with st := .exhausted, pend := none })
    refine ⟨L, r1, by rw [hst]; simp, ?_⟩
    simp only [hpd]
    have r3 := m7.get _ _ (show ¬ H1.next = H4.next by omega) r2
    rw [flatE_len] at r3
    refine ⟨_, cell_of r3 rfl, rfl, (gall.ext m6 ok fun b hb => .inr ?_).ext m7 ok fun b hb => .inr (by omega)⟩
    rcases hb with rfl | rfl <;> omega
def EsOk (G : List Vtx) (es : List (Int × Int)) : Prop := ∀ k (hk : k < es.length), isIn G es[k].1 = true ∧ ∀ (_ : 0 < k), (es[k - 1]'(by omega)).1 < es[k].1
theorem gedges_ok {F : Nat → Prop} {a ea : Option Addr} {l c el ec : Nat} {vid val : Int} {H : AH} {G : List Vtx} {es : List (Int × Int)} (ok : Ok H) (hG : SlV F H a l G) (hl : l ≤ 4611686018427387904) (hE : SlE F H ea el es) (hel : el ≤ 4611686018427387904) (hr : Rising G) :
    FW Ee F_graph_edges [.agg ⟨[.slice a l c]⟩, .agg ⟨[.int .i64 vid, .int .i64 val, .slice ea el ec]⟩] H fun r H' => ∃ bb : Bool, r = .bool bb ∧ (bb = true → EsOk G es) ∧ (bb = false → ¬ EsOk G es) ∧ Grow H H' := by
  have hlen := hE.len
  refine fw_graph_edges ?_
  intro H1 e1 H2 e2
  obtain ⟨g2, b2, v2, n1, n2⟩ := two_new ok e1 e2
  refine ⟨_, _, _, cell_of v2 rfl, ?_⟩
  refine ⟨fun n _ i Hx => ∃ p : Nat, i = p ∧ p ≤ el ∧ n = el - p ∧ Grow H2 Hx ∧ ∀ k (hk : k < es.length), k < p → isIn G es[k].1 = true ∧ ∀ (_ : 0 < k), (es[k - 1]'(by omega)).1 < es[k].1, ⟨_, 0, rfl, by omega, rfl, .refl g2.ok, fun k _ h => by omega⟩, ?_⟩
  rintro n t4 i H3 ⟨p, rfl, hp, rfl, g3, hpre⟩
  have gg := g2.trans g3
  refine cond_dec (fun hlt => ?_) (fun hge => ?_)
  · have hk : p < es.length := by omega
    obtain ⟨hs, c1, c2⟩ := (hE.grow loc_edge gg).nth hk
    refine grd_intro hs ⟨by omega, by omega, _, _, c1, c2, ?_⟩
    intro H4 e4
    obtain ⟨H5, e5, b5, g5, n5⟩ := fresh_store (vs := [.int .i64 es[p].1, .int .i64 es[p].2]) e4 rfl rfl gg.ok
    have gb := (g3.trans g5).get _ _ id b2
    have gv := (g3.trans g5).get _ _ id v2
    refine ⟨H5, e5, _, _, _, cell_of gb rfl, _, cell_of b5 rfl, (gfind_ok g5.ok ((hG.grow loc_vtx gg).grow loc_vtx g5) hl hr).mono ?_⟩
    rintro _ H6 ⟨rfl, g6⟩
    have g36 := g5.trans g6
    refine ⟨_, _, rfl, cond_intro (fun hno => ⟨false, rfl, fun h => (by cases h), fun _ h => ?_, gg.trans g36⟩) (fun hin => ?_)⟩
    · have := (h p hk).1
      rw [this] at hno; cases hno
    have hin : isIn G es[p].1 = true := by simpa using hin
    have next : (∀ (_ : 0 < p), (es[p - 1]'(by omega)).1 < es[p].1) → ∀ (t42 : Int), t42 = IntKind.i64.wrap ((p : Int) + 1) → ∃ m, m < el - p ∧ ∃ p' : Nat, t42 = p' ∧ p' ≤ el ∧ m = el - p' ∧ Grow H2 H6 ∧ ∀ k (hk : k < es.length), k < p' → isIn G es[k].1 = true ∧ ∀ (_ : 0 < k), (es[k - 1]'(by omega)).1 < es[k].1 := by
      intro h t42 e42
      rw [wrap_i64 (by omega) (by omega)] at e42
      subst e42
      refine ⟨el - (p + 1), by omega, p + 1, by simp, by omega, rfl, g3.trans g36, fun k hk2 hkp => ?_⟩
      rcases Nat.lt_or_ge k p with h3 | h3
      · exact hpre k hk2 h3
      · have : k = p := by omega
        subst this; exact ⟨hin, h⟩
    refine cond_dec (fun h0 => ?_) (fun h0 => next fun h => by omega)
    refine ⟨_, _, _, cell_of (g6.get _ _ id gv) rfl, ?_⟩
    intro t33 e33
    rw [wrap_i64 (by omega) (by omega)] at e33
    subst e33
    have hjj : ((p : Int) - 1).toNat = p - 1 := by omega
    obtain ⟨_, d1, _⟩ := ((hE.grow loc_edge gg).grow loc_edge g36).nth (k := p - 1) (by omega)
    refine grd_intro hs ⟨by omega, by omega, _, by rw [hjj]; exact d1, _, cell_of (g6.get _ _ id b5) rfl, cond_dec (fun h1 => ⟨false, rfl, fun h => (by cases h), fun _ h => ?_, gg.trans g36⟩) (fun h1 => next fun _ => by omega)⟩
    have := (h p hk).2 (by omega)
    omega
  · exact ⟨true, rfl, fun _ k hk => hpre k hk (by omega), fun h => (by cases h), gg⟩
theorem gcheck_ok {F : Nat → Prop} {a : Option Addr} {l c : Nat} {H : AH} {G : List Vtx} (ok : Ok H) (hG : SlV F H a l G) (hF : ∀ b, F b → b < H.next) (hf : Fit G) :
    FW Ee F_graph_Check [.agg ⟨[.slice a l c]⟩] H fun r H' => r = .int .i64 (chk G) ∧ Grow H H' := by
  have hlen := hG.len
  have hfn := hf.n
  refine fw_graph_Check ?_
  intro H1 e1
  have g1 : Grow H H1 := e1 ▸ Grow.new ok _
  have b1 : H1.get H.next = some (.cells [.slice a l c] 0) := e1 ▸ get_new_self _ _
  have n1 : H1.next = H.next + 1 := by rw [e1]; rfl
  refine ⟨_, _, _, cell_of b1 rfl, cond_dec (fun h => ⟨by rw [chk, if_pos (.inl (by omega))], g1⟩) (fun h256 => ?_)⟩
  refine ⟨_, _, _, cell_of b1 rfl, ?_⟩
  refine ⟨fun n _ i Hx => ∃ p : Nat, i = p ∧ p ≤ l ∧ n = l - p ∧ Grow H1 Hx ∧ ∀ k (h : k + 1 < G.length), k + 1 < p → G[k].id < G[k + 1].id, ⟨_, 0, rfl, by omega, rfl, .refl g1.ok, fun k _ h => by omega⟩, ?_⟩
  rintro n t2 i H2 ⟨p, rfl, hp, rfl, g2, hst⟩
  have b2 := g2.get _ _ id b1
  have gg := g1.trans g2
  have G2 := hG.grow loc_vtx gg
  refine cond_dec (fun hlt => ?_) (fun hge => ?_)
  · have hk : p < G.length := by omega
    obtain ⟨hs, c1, c2, ea, el, ec, c3, c4⟩ := G2.nth hk
    refine grd_intro hs ⟨by omega, by omega, _, _, ea, el, ec, c1, c2, c3, ?_⟩
    intro H3 e3
    obtain ⟨H4, e4, b4, g4, n4⟩ := fresh_store (vs := [.int .i64 G[p].id, .int .i64 G[p].val, .slice ea el ec]) e3 rfl rfl gg.ok
    have next : (∀ (_ : 0 < p), (G[p - 1]'(by omega)).id < G[p].id) → ∀ (t33 : Int), t33 = IntKind.i64.wrap ((p : Int) + 1) → ∃ m, m < l - p ∧ ∃ p' : Nat, t33 = p' ∧ p' ≤ l ∧ m = l - p' ∧ Grow H1 H4 ∧ ∀ k (h : k + 1 < G.length), k + 1 < p' → G[k].id < G[k + 1].id := by
      intro h t e
      rw [wrap_i64 (by omega) (by omega)] at e
      subst e
      refine ⟨l - (p + 1), by omega, p + 1, by simp, by omega, rfl, g2.trans g4, fun k hk2 hkp => ?_⟩
      rcases Nat.lt_or_ge (k + 1) p with h3 | h3
      · exact hst k hk2 h3
      · have e : p = k + 1 := by omega
        subst e
        exact h (by omega)
    refine ⟨H4, e4, cond_dec (fun h0 => ?_) (fun h0 => next fun h => by omega)⟩
    refine ⟨_, _, _, cell_of (g4.get _ _ id b2) rfl, ?_⟩
    intro t25 e25
    rw [wrap_i64 (by omega) (by omega)] at e25
    subst e25
    have hpp : ((p : Int) - 1).toNat = p - 1 := by omega
    obtain ⟨_, d1, _⟩ := (G2.grow loc_vtx g4).nth (k := p - 1) (by omega)
    refine grd_intro hs ⟨by omega, by omega, _, by rw [hpp]; exact d1, _, cell_of b4 rfl, cond_dec (fun h1 => ⟨?_, gg.trans g4⟩) (fun h1 => next fun _ => by omega)⟩
    have hbad : ¬ Steps1 G := by
      intro h2
      have hp' : p - 1 + 1 = p := by omega
      have := h2 (p - 1) (by omega)
      simp only [hp'] at this
      omega
    rw [chk, if_pos (.inr hbad)]
  · have hsteps : Steps1 G := fun k hk => hst k hk (by omega)
    have hnb := nE_bound hf.e
    have hn1 : nE G ≤ 4611686018427387904 := by
      have : G.length * 140737488355328 ≤ 256 * 140737488355328 := Nat.mul_le_mul_right _ (by omega)
      omega
    refine ⟨_, _, _, cell_of b2 rfl, (gcount_ok g2.ok G2 (fun b hb => by have := hF b hb; have := gg.next; omega) hf hn1).mono ?_⟩
    rintro _ H5 ⟨rfl, g5⟩
    have b5 := g5.get _ _ id b2
    refine ⟨_, rfl, cond_dec (fun h1 => ⟨?_, gg.trans g5⟩) (fun h2048 => ?_)⟩
    · rw [chk, if_neg, if_pos (.inl (by omega))]
      simp only [not_or, Classical.not_not]; exact ⟨by omega, hsteps⟩
    have bad : ∀ {i : Nat} (hi : i < G.length), ¬ EsOk G G[i].edges → chk G = 31 := by
      intro i hi hb
      have h2 : ¬ EdgesOk G := fun h => hb fun k hk => by
        have := h i k hi hk
        exact ⟨this.1, fun h0 => this.2 h0⟩
      rw [chk, if_neg, if_pos (.inr h2)]
      · simp only [not_or, Classical.not_not]; exact ⟨by omega, hsteps⟩
    refine ⟨_, _, _, cell_of b5 rfl, ?_⟩
    have gg5 := gg.trans g5
    refine ⟨fun n _ i Hx => ∃ p : Nat, i = p ∧ p ≤ l ∧ n = l - p ∧ Grow H5 Hx ∧ ∀ k (h : k < G.length), k < p → EsOk G G[k].edges, ⟨_, 0, rfl, by omega, rfl, .refl g5.ok, fun k _ h => by omega⟩, ?_⟩
    rintro n t2 i H6 ⟨q, rfl, hq, rfl, g6, hes⟩
    have gg6 := gg5.trans g6
    have b6 := g6.get _ _ id b5
    have G6 := hG.grow loc_vtx gg6
    refine cond_dec (fun hlt => ?_) (fun hge2 => ?_)
    · have hk : q < G.length := by omega
      obtain ⟨hs, c1, c2, ea, el, ec, c3, c4⟩ := G6.nth hk
      have hel := c4.len
      have hfe := hf.at hk
      refine grd_intro hs ⟨by omega, by omega, _, _, ea, el, ec, c1, c2, c3, ?_⟩
      intro H7 e7
      obtain ⟨H8, e8, b8, g8, n8⟩ := fresh_store (vs := [.int .i64 G[q].id, .int .i64 G[q].val, .slice ea el ec]) e7 rfl rfl gg6.ok
      refine ⟨H8, e8, _, _, _, cell_of (g8.get _ _ id b6) rfl, _, _, _, _, _, cell_of b8 rfl, cell_of b8 rfl, cell_of b8 rfl, (gedges_ok g8.ok (G6.grow loc_vtx g8) (by omega) (c4.grow loc_edge g8) (by omega) hsteps.rising).mono ?_⟩
      rintro _ H9 ⟨bb, rfl, k1, k2, g9⟩
      refine ⟨_, rfl, cond_intro (fun hb => ⟨by rw [bad hk (k2 (by simpa using hb))], (gg6.trans g8).trans g9⟩) (fun hb => ?_)⟩
      have hgood := k1 (by simpa using hb)
      intro t48 e48
      rw [wrap_i64 (by omega) (by omega)] at e48
      subst e48
      refine ⟨l - (q + 1), by omega, q + 1, by simp, by omega, rfl, (g6.trans g8).trans g9, fun k hk2 hkq => ?_⟩
      rcases Nat.lt_or_ge k q with h3 | h3
      · exact hes k hk2 h3
      · have : k = q := by omega
        subst this; exact hgood
    · refine ⟨?_, gg6⟩
      rw [chk, if_neg, if_neg]
      · simp only [not_or, Classical.not_not]
        exact ⟨by omega, fun i k hi hk => ⟨(hes i hi (by omega) k hk).1, fun h0 => (hes i hi (by omega) k hk).2 h0⟩⟩
      · simp only [not_or, Classical.not_not]; exact ⟨by omega, hsteps⟩
end Go.Proofs.Cx
