/- Readers of any bytes: what they take stands there in its one form. MasterBytes: commands as bytes. MasterBytes: any bytes are all that was agreed on, or are refused. -/
import Derived.Test.YtphgkdcifemmmaaGreatC6
import Derived.Test.YtphgkdcifemmmaaGreatVc2
namespace Go.Ev
open Go
theorem scan_canon {l : List UInt8} : ∀ {k i n : Nat}, k + i = 10 → (scan l k i n).1 = 0 → ∃ w, (scan l k i n).2.1 = n + w * 128 ^ i ∧ l.drop i = enc w ++ l.drop (scan l k i n).2.2 ∧ i ≤ (scan l k i n).2.2 ∧ (0 < i → 0 < w)
  | 0, _, _, _, h => by simp [scan] at h
  | k + 1, i, n, hk, h => by
    unfold scan at h ⊢
    cases hl : l[i]? with
    | none => rw [hl] at h; simp at h
    | some b =>
      rw [hl] at h
      obtain ⟨hi, hb⟩ := List.getElem?_eq_some_iff.1 hl
      have hd : l.drop i = b :: l.drop (i + 1) := by rw [List.drop_eq_getElem_cons hi, hb]
      simp only at h ⊢
      split at h
      · simp at h
      · rename_i hc
        rw [if_neg hc]
        split at h
        · rename_i hb
          rw [if_pos hb]
          refine ⟨b.toNat, rfl, ?_, by simp, fun h0 => by omega⟩
          rw [enc_lo hb, hd]
          simp
        · rename_i hb
          rw [if_neg hb]
          obtain ⟨w, h1, h2, h3, h4⟩ := scan_canon (by omega) h
          have hw := h4 (by omega)
          have hB := b.toNat_lt
          refine ⟨w * 128 + (b.toNat - 128), ?_, ?_, by omega, fun _ => by omega⟩
          · rw [h1, Nat.pow_succ, Nat.add_mul, Nat.mul_assoc, Nat.mul_comm (128 ^ i) 128, Nat.add_assoc, Nat.add_comm (w * (128 * 128 ^ i))]
          · rw [enc_hi (by omega), hd, h2]
            have e1 : (w * 128 + (b.toNat - 128)) % 128 + 128 = b.toNat := by omega
            have e2 : (w * 128 + (b.toNat - 128)) / 128 = w := by omega
            rw [e1, e2]
            simp
def Tk (s : List UInt8) (q q' : RSt) (bs : List UInt8) : Prop := AtOk s q' ∧ (q'.2 = 0 → q.2 = 0 ∧ q'.1 = q.1 + bs.length ∧ s.drop q.1 = bs ++ s.drop q'.1)
theorem Tk.refl {s : List UInt8} {q : RSt} (h : AtOk s q) : Tk s q q [] := ⟨h, fun e => ⟨e, by simp, by simp⟩⟩
theorem Tk.trans {s : List UInt8} {q q1 q2 : RSt} {a b : List UInt8} (h : Tk s q q1 a) (k : Tk s q1 q2 b) : Tk s q q2 (a ++ b) := by
  refine ⟨k.1, fun e => ?_⟩
  obtain ⟨k1, k2, k3⟩ := k.2 e
  obtain ⟨h1, h2, h3⟩ := h.2 k1
  exact ⟨h1, by rw [List.length_append]; omega, by rw [h3, k3, List.append_assoc]⟩
theorem Tk.any {s : List UInt8} {q q' q1 : RSt} {a b : List UInt8} (h : Tk s q q' a) (h1 : q1.1 = q'.1) (h2 : q1.2 ≠ 0) : Tk s q q1 b := ⟨by unfold AtOk; rw [h1]; exact h.1, fun e => absurd e h2⟩
theorem Tk.vac {s : List UInt8} {q q' : RSt} {a b : List UInt8} (h : Tk s q q' a) (h2 : q'.2 ≠ 0) : Tk s q q' b := ⟨h.1, fun e => absurd e h2⟩
theorem tk_num {s : List UInt8} {q : RSt} (h : AtOk s q) : Tk s q (rNum s q).2 (enc (rNum s q).1) := by
  refine ⟨(rNum_ok h).1, ?_⟩
  unfold rNum
  by_cases hq : q.2 ≠ 0
  · rw [if_pos hq]; exact fun e => absurd e hq
  rw [if_neg hq]
  by_cases hs : (scan (s.drop q.1) 10 0 0).1 = 0
  · rw [if_pos hs]
    intro _
    obtain ⟨w, h1, h2, _, _⟩ := scan_canon (by omega) hs
    obtain ⟨_, h4⟩ := scan_ok (k := 10) (i := 0) (n := 0) (by omega) (by simp) hs
    simp only [Nat.pow_zero, Nat.mul_one, Nat.zero_add, List.drop_zero] at h1 h2
    have hl := congrArg List.length h2
    rw [List.length_append, List.length_drop (i := (scan (s.drop q.1) 10 0 0).2.2)] at hl
    refine ⟨by simpa using hq, ?_, ?_⟩
    · simp only [h1]; omega
    · simp only [h1]
      rw [← List.drop_drop]; exact h2
  · rw [if_neg hs]
    intro e
    exact absurd (by simpa using e) hs
theorem tk_cntq {s : List UInt8} {m : Nat} {q : RSt} (h : AtOk s q) : Tk s q (rCnt s m q).2 (enc (rCnt s m q).1) := by
  have hn := tk_num h
  have hk := rCnt_ok (m := m) h
  refine ⟨hk.1, ?_⟩
  unfold rCnt
  by_cases h1 : (rNum s q).2.2 ≠ 0
  · rw [if_pos h1]; exact fun e => absurd e h1
  rw [if_neg h1]
  by_cases h2 : m < (rNum s q).1
  · rw [if_pos h2]; intro e; cases e
  · rw [if_neg h2]; exact hn.2
theorem tk_sigq {s : List UInt8} {q : RSt} (h : AtOk s q) : Tk s q (rSig s q).2 (sgB (rSig s q).1) := by
  have hn := tk_num h
  unfold rSig sgB
  rw [fold_unfold]; exact hn
theorem tk_txtq {s : List UInt8} {q : RSt} (h : AtOk s q) : Tk s q (rTxt s q).2 (txtB (rTxt s q).1) := by
  have hn := tk_num h
  refine ⟨(rTxt_ok h).1, ?_⟩
  unfold rTxt
  by_cases h1 : (rNum s q).2.2 ≠ 0
  · rw [if_pos h1]; exact fun e => absurd e h1
  rw [if_neg h1]
  by_cases h2 : s.length - (rNum s q).2.1 < (rNum s q).1
  · rw [if_pos h2]; intro e; cases e
  · rw [if_neg h2]
    intro _
    obtain ⟨k1, k2, k3⟩ := hn.2 (by simpa using h1)
    have hl : ((s.drop (rNum s q).2.1).take (rNum s q).1).length = (rNum s q).1 := by rw [List.length_take, List.length_drop]; omega
    refine ⟨k1, ?_, ?_⟩
    · simp only [txtB, List.length_append, hl]; omega
    · rw [txtB, hl, k3, List.append_assoc]
      simp only
      rw [← List.drop_drop, List.take_append_drop]
theorem aggL_congr {h g : Nat → Bool} {v w : Nat → Int} : ∀ {n k : Nat}, (∀ i, k ≤ i → i < k + n → h i = g i ∧ v i = w i) → aggL h v n k = aggL g w n k
  | 0, _, _ => rfl
  | n + 1, k, e => by
    obtain ⟨e1, e2⟩ := e k (Nat.le_refl _) (by omega)
    have e3 : stepB h v k = stepB g w k := by unfold stepB; rw [e1, e2]
    unfold aggL
    rw [e3, aggL_congr fun i h1 h2 => e i (by omega) (by omega)]
theorem aggL_snoc {h : Nat → Bool} {v : Nat → Int} : ∀ {n k : Nat}, aggL h v (n + 1) k = aggL h v n k ++ stepB h v (k + n)
  | 0, k => by simp [aggL]
  | n + 1, k => by
    rw [show aggL h v (n + 1 + 1) k = stepB h v k ++ aggL h v (n + 1) (k + 1) from rfl, aggL_snoc, ← List.append_assoc]
    rw [show k + 1 + n = k + (n + 1) from by omega]; rfl
theorem cntL_congr {f g : Nat → Nat} : ∀ {n k : Nat}, (∀ i, k ≤ i → i < k + n → f i = g i) → cntL f n k = cntL g n k
  | 0, _, _ => rfl
  | n + 1, k, e => by
    unfold cntL
    rw [e k (Nat.le_refl _) (by omega), cntL_congr fun i h1 h2 => e i (by omega) (by omega)]
theorem cntL_snoc {f : Nat → Nat} : ∀ {n k : Nat}, cntL f (n + 1) k = cntL f n k ++ enc (f (k + n))
  | 0, k => by simp [cntL]
  | n + 1, k => by
    rw [show cntL f (n + 1 + 1) k = enc (f k) ++ cntL f (n + 1) (k + 1) from rfl, cntL_snoc, ← List.append_assoc]
    rw [show k + 1 + n = k + (n + 1) from by omega]; rfl
theorem upd_eq {α : Type} {s : Nat → α} {i : Nat} {x : α} : upd s i x i = x := by simp [upd]
theorem updN {α : Type} {s : Nat → α} {i k : Nat} {x : α} (h : k ≠ i) : upd s i x k = s k := by simp [upd, h]
end Go.Ev
namespace Go.Proofs.Cx
open Go Go.Ev
section
variable {H : AH} {b : Nat} {s : List UInt8} {q : RSt}
theorem xbool_ok (ok : Ok H) (h : Rd H b s q.1 q.2) (hp : AtOk s q) (hs : s.length ≤ 4611686018427387904) :
    FW Ee F_wire_Reader_Bool [.pointer (some ⟨b, 0, none⟩)] H fun r H' => ∃ x q', r = .bool x ∧ Rd H' b s q'.1 q'.2 ∧ Tk s q q' (enc (cond x 1 0)) ∧ Mod (· = b) H H' := by
  have hn := rNum_ok hp
  have ht := tk_num hp
  refine fw_wire_Reader_Bool ?_
  refine (rat_ok h).mono ?_
  rintro _ _ ⟨rfl, rfl⟩
  refine ⟨_, rfl, (xnum_ok ok h hp hs).mono ?_⟩
  rintro _ H1 ⟨rfl, h1, h3⟩
  refine ⟨_, rfl, (rerr_ok h1).mono ?_⟩
  rintro _ _ ⟨rfl, rfl⟩
  refine ⟨_, rfl, cond_intro (fun he => ?_) (fun he => ?_)⟩
  · have he : (rNum s q).2.2 = 0 := by simpa using he
    refine cond_dec (fun hbig => ?_) (fun hok => ?_)
    · obtain ⟨H6, k1, k2, k3⟩ := h1.set h3.ok q.1
      obtain ⟨H7, l1, l2, l3⟩ := k2.err k3.ok 6
      refine ⟨H6, k1, H7, l1, (rerr_ok l2).mono ?_⟩
      rintro _ _ ⟨rfl, rfl⟩
      exact ⟨_, rfl, cond_neg rfl ⟨false, (q.1, 6), rfl, l2, ⟨hp, fun e => by cases e⟩, (h3.trans k3).trans l3⟩⟩
    · refine (rerr_ok h1).mono ?_
      rintro _ _ ⟨rfl, rfl⟩
      refine ⟨_, rfl, cond_pos (by simpa using he) ⟨decide ((rNum s q).1 = 1), (rNum s q).2, ?_, h1, ?_, h3⟩⟩
      · by_cases e : (rNum s q).1 = 1
        · simp [e]
        · have : (rNum s q).1 = 0 := by omega
          simp [this]
      · have e : (cond (decide ((rNum s q).1 = 1)) 1 0 : Nat) = (rNum s q).1 := by
          by_cases e : (rNum s q).1 = 1
          · simp [e]
          · have : (rNum s q).1 = 0 := by omega
            simp [this]
        rw [e]; exact ht
  · have he : (rNum s q).2.2 ≠ 0 := by simpa using he
    refine (rerr_ok h1).mono ?_
    rintro _ _ ⟨rfl, rfl⟩
    exact ⟨_, rfl, cond_neg (by simpa using he) ⟨false, (rNum s q).2, rfl, h1, ht.vac he, h3⟩⟩
theorem aC_seth {h : Nat → Bool} {v : Nat → Int} {i : Nat} (hi : i < 5) (x : Bool) : lset (aC h v) (0 + i) [.bool x] = aC (upd h i x) v := by
  rw [lset_one (by rw [aC_len]; omega)]
  rcases five hi with rfl | rfl | rfl | rfl | rfl <;> simp [aC, upd]
theorem aC_setv {h : Nat → Bool} {v : Nat → Int} {i : Nat} (hi : i < 5) (x : Int) : lset (aC h v) (5 + i) [.int .i64 x] = aC h (upd v i x) := by
  rw [lset_one (by rw [aC_len]; omega)]
  rcases five hi with rfl | rfl | rfl | rfl | rfl <;> simp [aC, upd]
theorem xagg_ok (ok : Ok H) (hr : Rd H b s q.1 q.2) (hp : AtOk s q) (hs : s.length ≤ 4611686018427387904) :
    FW Ee F_agg_Take [.pointer (some ⟨b, 0, none⟩)] H fun r H' => ∃ h v q', r = .agg ⟨aC h v⟩ ∧ (∀ i, I64 (v i)) ∧ (∀ i, i < 5 → h i = false → v i = 0) ∧ Rd H' b s q'.1 q'.2 ∧ Tk s q q' (aggB h v) ∧ Mod (· = b) H H' := by
  have hbl := ok.lt hr
  refine fw_agg_Take ?_
  intro H1 e1 H2 e2
  obtain ⟨g1, z1, n1⟩ := new_job ok e1
  obtain ⟨g2, a2, n2⟩ := new_job g1.ok e2
  have g02 := g1.trans g2
  have z2 : H2.get H.next = some (.cells (aC (fun _ => false) (fun _ => 0)) 0) := g2.get _ _ not_false z1
  have a2 : H2.get H1.next = some (.cells (aC (fun _ => false) (fun _ => 0)) 0) := a2
  have i0 : I64 0 := by unfold I64; omega
  refine ⟨fun m t5 Hb => ∃ (i : Nat) (h : Nat → Bool) (v : Nat → Int) (q' : RSt), t5 = i ∧ i ≤ 5 ∧ m = 5 - i ∧ (∀ k, i ≤ k → h k = false ∧ v k = 0) ∧ (∀ k, I64 (v k)) ∧ (∀ k, h k = false → v k = 0) ∧ Rd Hb b s q'.1 q'.2 ∧ Tk s q q' (aggL h v i 0) ∧ Hb.get H1.next = some (.cells (aC h v) 0) ∧ Hb.get H.next = some (.cells (aC (fun _ => false) (fun _ => 0)) 0) ∧ Mod (· = b) H Hb ∧ H2.next ≤ Hb.next,
    ⟨_, 0, fun _ => false, fun _ => 0, q, rfl, by omega, rfl, fun _ _ => ⟨rfl, rfl⟩, fun _ => i0, fun _ _ => rfl, hr.mod g02 not_false, .refl hp, a2, z2, g02.le (fun _ h _ => h.elim) ok, Nat.le_refl _⟩, ?_⟩
  rintro m t5 H3 ⟨i, h, v, q', rfl, hi, rfl, hz, hI, hn, r3, ht, a3, z3, m3, n3⟩
  refine cond_dec (fun hlt => ?_) (fun hge => ?_)
  · have hi5 : i < 5 := by omega
    have e0 : ((i : Nat) : Int).toNat * 1 = i := by omega
    refine (xbool_ok m3.ok r3 ht.1 hs).mono ?_
    rintro _ H4 ⟨x, q4, rfl, r4, t4, m4⟩
    have a4 := m4.get _ _ (show ¬ H1.next = b by omega) a3
    have z4 := m4.get _ _ (show ¬ H.next = b by omega) z3
    have n4 := m4.next
    refine ⟨_, rfl, by omega, by omega, ?_⟩
    rw [e0]
    have s5 := store_of (o := 0 + i) (vs := [.bool x]) a4 (by rw [aC_len]; simp; omega) rfl
    rw [aC_seth hi5] at s5
    have m5 := Mod.set m4.ok a4 (.cells (aC (upd h i x) v) 0)
    have a5 := get_set_self H4 H1.next (.cells (aC (upd h i x) v) 0)
    refine ⟨_, s5, by omega, by omega, x, ?_, ?_⟩
    · refine cell_of a5 ?_
      rw [aC_h hi5, upd_eq]
    have r5 := r4.mod m5 (by omega)
    have z5 := m5.get _ _ (show ¬ H.next = H1.next by omega) z4
    have mm5 := (m3.trans m4).ext m5 ok fun x hx => .inr (by omega)
    have pre : ∀ (x : Bool) (y : Int), aggL (upd h i x) (upd v i y) i 0 = aggL h v i 0 := fun x y => aggL_congr fun k _ hk => ⟨updN (by omega), updN (by omega)⟩
    refine cond_intro (fun hh => ?_) (fun hh => ?_)
    · subst hh
      refine (xsig_ok (q := q4) m5.ok r5 t4.1 hs).mono ?_
      rintro _ H6 ⟨rfl, r6, m6⟩
      have a6 := m6.get _ _ (show ¬ H1.next = b by omega) a5
      have z6 := m6.get _ _ (show ¬ H.next = b by omega) z5
      have n6 := m6.next
      have s7 := store_of (o := 5 + i) (vs := [.int .i64 (rSig s q4).1]) a6 (by rw [aC_len]; simp; omega) rfl
      rw [aC_setv hi5] at s7
      have m7 := Mod.set m6.ok a6 (.cells (aC (upd h i true) (upd v i (rSig s q4).1)) 0)
      refine ⟨_, rfl, by omega, by omega, _, s7, ?_⟩
      intro t22 e22
      rw [wrap_i64 (by omega) (by omega)] at e22
      subst e22
      have n5 : (H4.set H1.next (.cells (aC (upd h i true) v) 0)).next = H4.next := rfl
      have ts := tk_sigq t4.1
      refine ⟨5 - (i + 1), by omega, i + 1, upd h i true, upd v i (rSig s q4).1, (rSig s q4).2, by simp, by omega, rfl, fun k hk => ?_, fun k => ?_, fun k hk => ?_, r6.mod m7 (by omega), ?_, get_set_self _ _ _, m7.get _ _ (by omega) z6, (mm5.trans m6).ext m7 ok fun x hx => .inr (by omega), ?_⟩
      · rw [updN (by omega), updN (by omega)]; exact hz k (by omega)
      · by_cases e : k = i
        · subst e; rw [upd_eq]; exact (rSig_ok t4.1).2
        · rw [updN e]; exact hI k
      · by_cases e : k = i
        · subst e; rw [upd_eq] at hk; cases hk
        · rw [updN e] at hk ⊢; exact hn k hk
      · rw [aggL_snoc, pre]
        have e : stepB (upd h i true) (upd v i (rSig s q4).1) (0 + i) = enc (cond true 1 0) ++ sgB (rSig s q4).1 := by
          unfold stepB; rw [Nat.zero_add, upd_eq, upd_eq]; rfl
        rw [e]
        exact ht.trans (t4.trans ts)
      · show H2.next ≤ H6.next
        omega
    · subst hh
      intro t22 e22
      rw [wrap_i64 (by omega) (by omega)] at e22
      subst e22
      have hv : upd v i 0 = v := by
        funext k
        by_cases e : k = i
        · subst e; rw [upd_eq, (hz k (Nat.le_refl _)).2]
        · rw [updN e]
      refine ⟨5 - (i + 1), by omega, i + 1, upd h i false, v, q4, by simp, by omega, rfl, fun k hk => ?_, hI, fun k hk => ?_, r5, ?_, a5, z5, mm5, ?_⟩
      · rw [updN (by omega)]; exact hz k (by omega)
      · by_cases e : k = i
        · subst e; exact (hz k (Nat.le_refl _)).2
        · rw [updN e] at hk; exact hn k hk
      · have p := pre false 0
        rw [hv] at p
        rw [aggL_snoc, p]
        have e : stepB (upd h i false) v (0 + i) = enc (cond false 1 0) := by
          unfold stepB; rw [Nat.zero_add, upd_eq]; rfl
        rw [e]
        exact ht.trans t4
      · show H2.next ≤ H4.next
        omega
  · have hi5 : i = 5 := by omega
    subst hi5
    refine (rerr_ok r3).mono ?_
    rintro _ _ ⟨rfl, rfl⟩
    refine ⟨_, rfl, cond_intro (fun he => ?_) (fun he => ?_)⟩
    · have he : q'.2 ≠ 0 := by simpa using he
      have k := get_set_self H3 H.next (.cells (lset (aC (fun _ => false) (fun _ => 0)) 0 [.bool false, .bool false, .bool false, .bool false, .bool false, .int .i64 0, .int .i64 0, .int .i64 0, .int .i64 0, .int .i64 0]) 0)
      have mx := Mod.set m3.ok z3 (.cells (lset (aC (fun _ => false) (fun _ => 0)) 0 [.bool false, .bool false, .bool false, .bool false, .bool false, .int .i64 0, .int .i64 0, .int .i64 0, .int .i64 0, .int .i64 0]) 0)
      exact ⟨_, store_of (o := 0) z3 (by simp [aC]) rfl, _, _, _, _, _, _, _, _, _, _, cell_of k rfl, cell_of k rfl, cell_of k rfl, cell_of k rfl, cell_of k rfl, cell_of k rfl, cell_of k rfl, cell_of k rfl, cell_of k rfl, cell_of k rfl,
        fun _ => false, fun _ => 0, q', rfl, fun _ => i0, fun _ _ _ => rfl, Rd.mod r3 mx (by omega), ht.vac he, m3.ext mx ok fun x hx => .inr (by omega)⟩
    · exact ret_agg (Q := fun r H' => ∃ h v q', r = .agg ⟨aC h v⟩ ∧ (∀ i, I64 (v i)) ∧ (∀ i, i < 5 → h i = false → v i = 0) ∧ Rd H' b s q'.1 q'.2 ∧ Tk s q q' (aggB h v) ∧ Mod (· = b) H H') m3.ok a3 z3 fun Hx mx => ⟨h, v, q', rfl, hI, fun k _ => hn k, Rd.mod r3 mx (by omega), ht, m3.ext mx ok fun x hx => .inr (by omega)⟩
theorem xvals_ok (ok : Ok H) (hr : Rd H b s q.1 q.2) (hp : AtOk s q) (hs : s.length ≤ 4611686018427387904) :
    FW Ee F_master_takeValues [.pointer (some ⟨b, 0, none⟩)] H fun r H' => ∃ a l c vs q', r = .slice a l c ∧ SlE (fun x => H.next ≤ x ∧ x < H'.next) H' a l vs ∧ vs.length ≤ 256 ∧ (∀ e ∈ vs, PairI e) ∧ Rd H' b s q'.1 q'.2 ∧ Tk s q q' (valsB vs) ∧ Mod (· = b) H H' := by
  have hbl := ok.lt hr
  have hc := (rCnt_ok (m := 256) hp).2
  have tc := tk_cntq (m := 256) hp
  refine fw_master_takeValues ?_
  refine (xcnt_ok 256 (by omega) ok hr hp hs).mono ?_
  rintro _ H1 ⟨rfl, r1, m1⟩
  obtain ⟨n, hn⟩ : ∃ n, n = (rCnt s 256 q).1 := ⟨_, rfl⟩
  rw [← hn] at hc tc ⊢
  have n1 := m1.next
  refine ⟨_, rfl, ?_⟩
  refine ⟨fun m a l c n4 Hb => ∃ (vs : List (Int × Int)) (q' : RSt), n4 = ((n - vs.length : Nat) : Int) ∧ vs.length ≤ n ∧ m = n - vs.length ∧ (∀ e ∈ vs, PairI e) ∧ Rd Hb b s q'.1 q'.2 ∧ Tk s q q' (enc n ++ vs.flatMap pairB) ∧ Own Hb 2 a l c (vs.flatMap edgeC) ∧ (∀ x, a = some x → H1.next ≤ x.block) ∧ Mod (· = b) H Hb ∧ H1.next ≤ Hb.next,
    ⟨_, [], (rCnt s 256 q).2, by simp, by simp, rfl, fun _ h => (by cases h), r1, by simpa using tc, Own.nil _ _, fun x e => (by cases e), m1, Nat.le_refl _⟩, ?_⟩
  rintro m a l c n4 Hb ⟨vs, q', rfl, hj, rfl, hI, hr, ht, hO, hfar, hm, hnx⟩
  have hll : l = vs.length := by
    have := hO.len
    rw [flatMap_len (sz := 2) (fun _ => rfl)] at this
    omega
  refine cond_dec (fun hpos => ?_) (fun hz => ?_)
  · have hjl : vs.length < n := by omega
    refine (rerr_ok hr).mono ?_
    rintro _ _ ⟨rfl, rfl⟩
    refine ⟨_, rfl, cond_intro (fun he => ?_) (fun he => ?_)⟩
    · have he : q'.2 = 0 := by simpa using he
      refine (xsig_ok (q := q') hm.ok hr ht.1 hs).mono ?_
      rintro _ H4 ⟨rfl, r4, m4⟩
      have t4 := tk_sigq ht.1
      refine ⟨_, rfl, (xsig_ok (q := (rSig s q').2) m4.ok r4 t4.1 hs).mono ?_⟩
      rintro _ H5 ⟨rfl, r5, m5⟩
      have t5 := tk_sigq t4.1
      have m45 := m4.trans m5
      have n5 := m45.next
      refine ⟨_, rfl, ?_⟩
      intro H6 e6
      have g6 : Grow H5 H6 := e6 ▸ Grow.new m5.ok _
      have n6 : H6.next = H5.next + 1 := by rw [e6]; rfl
      obtain ⟨H7, k1, k2, k3, k4⟩ := ((hO.mod m45 fun x hx y ey e => by have := hfar y ey; omega).mod g6 fun _ h => h.elim).append (n := 1) (bytes := 16) (new := [.int .i64 (rSig s q').1, .int .i64 (rSig s (rSig s q').2).1]) (x := .slice (some ⟨H5.next, 0, none⟩) 1 2) g6.ok rfl (takev_new e6 rfl) (by omega) rfl rfl (by omega) (by omega)
      have lowS : ∀ {x : Nat}, x < H1.next → ¬ (¬ Off a x) := fun hx h => h fun z ez e => by have := hfar z ez; omega
      refine ⟨_, _, _, H7, k1, ?_⟩
      intro t15 e15
      rw [wrap_i64 (by omega) (by omega)] at e15
      refine ⟨n - (vs.length + 1), by omega, vs ++ [((rSig s q').1, (rSig s (rSig s q').2).1)], (rSig s (rSig s q').2).2, by simp; omega, by simp; omega, by simp, fun e he => ?_, k4.get _ _ (lowS (by omega)) (g6.get _ _ not_false r5), ?_, ?_, ?_, ?_, by omega⟩
      · rcases List.mem_append.1 he with h | h
        · exact hI e h
        · simp only [List.mem_singleton] at h
          subst h
          exact ⟨(rSig_ok ht.1).2, (rSig_ok t4.1).2⟩
      · rw [List.flatMap_append, ← List.append_assoc]
        simpa [pairB] using ht.trans (t4.trans t5)
      · rw [List.flatMap_append]
        simpa [edgeC] using k2
      · intro z ez
        cases ez
        simp only; omega
      · refine ((hm.trans m45).add g6).ext k4 ok fun x hx => .inr ?_
        obtain ⟨z, ez, rfl⟩ := off_not hx
        have := hfar z ez
        omega
    · have he : q'.2 ≠ 0 := by simpa using he
      refine ⟨a, l, c, vs, q', rfl, ?_, by omega, hI, hr, ht.vac he, hm⟩
      exact edges_sl hO fun x ex => ⟨by have := hfar x ex; omega, own_lt hO hm.ok ex⟩
  · have hjl : vs.length = n := by omega
    refine ⟨a, l, c, vs, q', rfl, ?_, by omega, hI, hr, ?_, hm⟩
    · exact edges_sl hO fun x ex => ⟨by have := hfar x ex; omega, own_lt hO hm.ok ex⟩
    · rw [valsB, hjl]; exact ht
theorem upTo_upd {α : Type} {z x : α} {f : Nat → α} {i : Nat} : upTo z (upd f i x) i = upTo z f i := by
  funext k
  unfold upTo
  by_cases h : k < i
  · rw [if_pos h, if_pos h, updN (by omega)]
  · rw [if_neg h, if_neg h]
theorem xR_upd {f : Nat → Int} {i : Nat} {x : Int} : xR (upd f i x) i = xR f i := by unfold xR xF; rw [upTo_upd]
theorem xrep_ok (ok : Ok H) (hr : Rd H b s q.1 q.2) (hp : AtOk s q) (hs : s.length ≤ 4611686018427387904) :
    FW Ee F_master_TakeReport [.pointer (some ⟨b, 0, none⟩)] H fun r H' => ∃ f h v a l c vs q', r = .agg ⟨repC f h v a l c⟩ ∧ (∀ i, 0 ≤ f i ∧ f i ≤ 2147483647) ∧ (∀ i, I64 (v i)) ∧ (∀ i, i < 5 → h i = false → v i = 0) ∧ SlE (fun x => H.next ≤ x ∧ x < H'.next) H' a l vs ∧ vs.length ≤ 256 ∧ (∀ e ∈ vs, PairI e) ∧ Rd H' b s q'.1 q'.2 ∧ Tk s q q' (repB f h v vs) ∧ Mod (· = b) H H' := by
  have hbl := ok.lt hr
  refine fw_master_TakeReport ?_
  intro H1 e1 H2 e2 H3 e3 H4 e4
  obtain ⟨g1, z1, n1⟩ := new_job ok e1
  obtain ⟨g2, x2, n2⟩ := new_job g1.ok e2
  obtain ⟨g3, y3, n3⟩ := new_job g2.ok e3
  obtain ⟨g4, q4, n4⟩ := new_job g3.ok e4
  have g04 := ((g1.trans g2).trans g3).trans g4
  have g24 := g3.trans g4
  have z4 := g24.get _ _ not_false (g2.get _ _ not_false z1)
  have x4 : H4.get H1.next = some (.cells (xR (fun _ => 0) 0) 0) := by
    have e : xR (fun _ => 0) 0 = [.int .i64 0, .int .i64 0, .int .i64 0, .int .i64 0, .int .i64 0, .int .i64 0, .int .i64 0, .int .i64 0, .int .i64 0, .bool false, .bool false, .bool false, .bool false, .bool false, .int .i64 0, .int .i64 0, .int .i64 0, .int .i64 0, .int .i64 0, .slice none 0 0] := by simp [xR, xF, repC, upTo]
    rw [e]
    exact g24.get _ _ not_false x2
  have y4 : H4.get H2.next = some (.cells [.int .i64 (upTo 0 (fun _ => 0) 0 5)] 0) := g4.get _ _ not_false y3
  refine ⟨fun m t17 Hb => ∃ (i : Nat) (f : Nat → Int) (q' : RSt), t17 = i ∧ i ≤ 9 ∧ m = 9 - i ∧ (∀ k, 0 ≤ f k ∧ f k ≤ 2147483647) ∧ Rd Hb b s q'.1 q'.2 ∧ Tk s q q' (cntL (fun k => (f k).toNat) i 0) ∧ Hb.get H1.next = some (.cells (xR f i) 0) ∧ Hb.get H2.next = some (.cells [.int .i64 (upTo 0 f i 5)] 0) ∧
      Hb.get H3.next = some (.cells [.pointer (some ⟨H1.next, 0, none⟩), .pointer (some ⟨H1.next, 1, none⟩), .pointer (some ⟨H1.next, 2, none⟩), .pointer (some ⟨H1.next, 3, none⟩), .pointer (some ⟨H1.next, 4, none⟩), .pointer (some ⟨H2.next, 0, none⟩), .pointer (some ⟨H1.next, 6, none⟩), .pointer (some ⟨H1.next, 7, none⟩), .pointer (some ⟨H1.next, 8, none⟩)] 0) ∧
      Hb.get H.next = some (.cells [.int .i64 0, .int .i64 0, .int .i64 0, .int .i64 0, .int .i64 0, .int .i64 0, .int .i64 0, .int .i64 0, .int .i64 0, .bool false, .bool false, .bool false, .bool false, .bool false, .int .i64 0, .int .i64 0, .int .i64 0, .int .i64 0, .int .i64 0, .slice none 0 0] 0) ∧ Mod (· = b) H Hb ∧ H4.next ≤ Hb.next,
    ⟨_, 0, fun _ => 0, q, rfl, by omega, rfl, fun _ => ⟨Int.le_refl _, show (0 : Int) ≤ 2147483647 by decide⟩, hr.mod g04 not_false, .refl hp, x4, y4, q4, z4, g04.le (fun _ h _ => h.elim) ok, Nat.le_refl _⟩, ?_⟩
  rintro m t17 H5 ⟨i, f, q', rfl, hi, rfl, hf, r5, t5, x5, y5, q5, z5, m5, n5⟩
  refine cond_dec (fun hlt => ?_) (fun hge => ?_)
  · have hi9 : i < 9 := by omega
    refine ⟨by omega, by omega, _, rptr_cell hi9 q5, (xcnt_ok (q := q') 2147483647 (by omega) m5.ok r5 t5.1 hs).mono ?_⟩
    rintro _ H6 ⟨rfl, r6, m6⟩
    have hk := (rCnt_ok (m := 2147483647) t5.1).2
    have t6 := tk_cntq (m := 2147483647) t5.1
    obtain ⟨x, hx⟩ : ∃ x, x = (rCnt s 2147483647 q').1 := ⟨_, rfl⟩
    rw [← hx] at hk t6 ⊢
    have n6 := m6.next
    have x6 := m6.get _ _ (show ¬ H1.next = b by omega) x5
    have y6 := m6.get _ _ (show ¬ H2.next = b by omega) y5
    have q6 := m6.get _ _ (show ¬ H3.next = b by omega) q5
    have z6 := m6.get _ _ (show ¬ H.next = b by omega) z5
    rw [← xR_upd (x := (x : Int))] at x6
    rw [← upTo_upd (x := (x : Int))] at y6
    obtain ⟨k0, H7, k1, k2, k3, k4, k5⟩ := rep_store m6.ok hi9 (by omega) x6 y6
    rw [upd_eq] at k1
    refine ⟨_, rfl, grd_intro k0 (grd_intro k0 ⟨H7, k1, ?_⟩)⟩
    intro t25 e25
    rw [wrap_i64 (by omega) (by omega)] at e25
    subst e25
    refine ⟨9 - (i + 1), by omega, i + 1, upd f i (x : Int), (rCnt s 2147483647 q').2, by simp, by omega, rfl, fun k => ?_, r6.mod k4 (by omega), ?_, k2, k3, k4.get _ _ (by omega) q6, k4.get _ _ (by omega) z6, (m5.trans m6).ext k4 ok fun x hx => .inr (by omega), by omega⟩
    · by_cases e : k = i
      · subst e; rw [upd_eq]; omega
      · rw [updN e]; exact hf k
    · rw [cntL_snoc, Nat.zero_add, upd_eq, Int.toNat_natCast, cntL_congr (g := fun k => (f k).toNat) fun k _ hk => by rw [updN (by omega)]]
      exact t5.trans t6
  · have hi9 : i = 9 := by omega
    subst hi9
    have y5 : H5.get H2.next = some (.cells [.int .i64 (f 5)] 0) := by rw [y5, upTo_lt (show 5 < 9 by omega)]
    refine ⟨_, cell_of y5 rfl, (xagg_ok (q := q') m5.ok r5 t5.1 hs).mono ?_⟩
    rintro _ H8 ⟨h, v, q8, rfl, hv, hn, r8, t8, m8⟩
    have n8 := m8.next
    have y8 := m8.get _ _ (show ¬ H2.next = b by omega) y5
    refine ⟨_, _, _, _, _, _, _, _, _, _, rfl, (xvals_ok (q := q8) m8.ok r8 t8.1 hs).mono ?_⟩
    rintro _ H9 ⟨a, l, c, vs, q9, rfl, hV, hl, hI, r9, t9, m9⟩
    have n9 := m9.next
    have m89 := m8.trans m9
    have y9 := m9.get _ _ (show ¬ H2.next = b by omega) y8
    have x9 := m89.get _ _ (show ¬ H1.next = b by omega) x5
    have z9 := m89.get _ _ (show ¬ H.next = b by omega) z5
    have e9 : xR f 9 = [.int .i64 (f 0), .int .i64 (f 1), .int .i64 (f 2), .int .i64 (f 3), .int .i64 (f 4), .int .i64 0, .int .i64 (f 6), .int .i64 (f 7), .int .i64 (f 8), .bool false, .bool false, .bool false, .bool false, .bool false, .int .i64 0, .int .i64 0, .int .i64 0, .int .i64 0, .int .i64 0, .slice none 0 0] := by
      simp [xR, xF, repC, upTo]
    rw [e9] at x9
    have m10 := Mod.set m9.ok x9 (.cells (lset [.int .i64 (f 0), .int .i64 (f 1), .int .i64 (f 2), .int .i64 (f 3), .int .i64 (f 4), .int .i64 0, .int .i64 (f 6), .int .i64 (f 7), .int .i64 (f 8), .bool false, .bool false, .bool false, .bool false, .bool false, .int .i64 0, .int .i64 0, .int .i64 0, .int .i64 0, .int .i64 0, .slice none 0 0] 5 [.int .i64 (f 5)]) 0)
    have s10 := store_of (o := 5) (vs := [.int .i64 (f 5)]) x9 (by simp) rfl
    obtain ⟨H10, h10⟩ : ∃ x, x = H9.set H1.next (.cells (lset [.int .i64 (f 0), .int .i64 (f 1), .int .i64 (f 2), .int .i64 (f 3), .int .i64 (f 4), .int .i64 0, .int .i64 (f 6), .int .i64 (f 7), .int .i64 (f 8), .bool false, .bool false, .bool false, .bool false, .bool false, .int .i64 0, .int .i64 0, .int .i64 0, .int .i64 0, .int .i64 0, .slice none 0 0] 5 [.int .i64 (f 5)]) 0) := ⟨_, rfl⟩
    have x10 : H10.get H1.next = some (.cells [.int .i64 (f 0), .int .i64 (f 1), .int .i64 (f 2), .int .i64 (f 3), .int .i64 (f 4), .int .i64 (f 5), .int .i64 (f 6), .int .i64 (f 7), .int .i64 (f 8), .bool false, .bool false, .bool false, .bool false, .bool false, .int .i64 0, .int .i64 0, .int .i64 0, .int .i64 0, .int .i64 0, .slice none 0 0] 0) := by
      rw [h10, get_set_self]; rfl
    rw [← h10] at m10 s10
    have s11 := store_of (o := 9) (vs := aC h v) x10 (by simp [aC]) rfl
    have m11 := Mod.set m10.ok x10 (.cells (lset [.int .i64 (f 0), .int .i64 (f 1), .int .i64 (f 2), .int .i64 (f 3), .int .i64 (f 4), .int .i64 (f 5), .int .i64 (f 6), .int .i64 (f 7), .int .i64 (f 8), .bool false, .bool false, .bool false, .bool false, .bool false, .int .i64 0, .int .i64 0, .int .i64 0, .int .i64 0, .int .i64 0, .slice none 0 0] 9 (aC h v)) 0)
    obtain ⟨H11, h11⟩ : ∃ x, x = H10.set H1.next (.cells (lset [.int .i64 (f 0), .int .i64 (f 1), .int .i64 (f 2), .int .i64 (f 3), .int .i64 (f 4), .int .i64 (f 5), .int .i64 (f 6), .int .i64 (f 7), .int .i64 (f 8), .bool false, .bool false, .bool false, .bool false, .bool false, .int .i64 0, .int .i64 0, .int .i64 0, .int .i64 0, .int .i64 0, .slice none 0 0] 9 (aC h v)) 0) := ⟨_, rfl⟩
    have x11 : H11.get H1.next = some (.cells (repC f h v none 0 0) 0) := by
      rw [h11, get_set_self]; rfl
    rw [← h11] at m11 s11
    have s12 := store_of (o := 19) (vs := [.slice a l c]) x11 (by simp [repC]) rfl
    have m12 := Mod.set m11.ok x11 (.cells (lset (repC f h v none 0 0) 19 [.slice a l c]) 0)
    obtain ⟨H12, h12⟩ : ∃ x, x = H11.set H1.next (.cells (lset (repC f h v none 0 0) 19 [.slice a l c]) 0) := ⟨_, rfl⟩
    have x12 : H12.get H1.next = some (.cells (repC f h v a l c) 0) := by
      rw [h12, get_set_self]; rfl
    rw [← h12] at m12 s12
    have x912 := (m10.trans m11).trans m12
    have z12 := x912.get _ _ (show ¬ H.next = H1.next by omega) z9
    have n12 : H12.next = H9.next := by rw [h12, h11, h10]; rfl
    refine ⟨_, _, _, rfl, H10, s10, H11, s11, H12, s12, cell_of y9 rfl, cell_of y8 rfl, ?_⟩
    refine ret_rep (Q := fun r H' => ∃ f h v a l c vs q', r = .agg ⟨repC f h v a l c⟩ ∧ (∀ i, 0 ≤ f i ∧ f i ≤ 2147483647) ∧ (∀ i, I64 (v i)) ∧ (∀ i, i < 5 → h i = false → v i = 0) ∧ SlE (fun x => H.next ≤ x ∧ x < H'.next) H' a l vs ∧ vs.length ≤ 256 ∧ (∀ e ∈ vs, PairI e) ∧ Rd H' b s q'.1 q'.2 ∧ Tk s q q' (repB f h v vs) ∧ Mod (· = b) H H') m12.ok x12 z12 rfl fun Hx mx => ⟨f, h, v, a, l, c, vs, q9, rfl, hf, hv, hn, ?_, hl, hI, ?_, ?_, ?_⟩
    · have nx := mx.next
      exact ((hV.mod loc_edge x912 fun x hx e => by omega).mod loc_edge mx fun x hx e => by omega).weak (fun x hx _ => ⟨by omega, by omega⟩) (edge_lt mx.ok)
    · exact mx.get _ _ (by omega) (x912.get _ _ (by omega) r9)
    · unfold repB
      exact t5.trans (t8.trans t9)
    · exact ((m5.trans m89).ext x912 ok fun x hx => .inr (by omega)).ext mx ok fun x hx => .inr (by omega)
end
end Go.Proofs.Cx
namespace Go.Ev
open Go
def Cn (x : Int) : Prop := 0 ≤ x ∧ x ≤ 2147483647
end Go.Ev
namespace Go.Proofs.Cx
open Go Go.Ev
section
variable {H : AH} {b n0 : Nat} {bs : List UInt8}
theorem yw_cnt {x : Int} (hx : I64 x) (ok : Ok H) (h : Wr H n0 b bs) (hs : bs.length ≤ 140737488355000) :
    FW Ee F_wire_Writer_Count [.pointer (some ⟨b, 0, none⟩), .int .i64 x] H fun r H' => r = .tuple ⟨[]⟩ ∧ Wr H' n0 b (bs ++ enc x.toNat) ∧ WrX H b H' := by
  unfold I64 at hx
  refine fw_wire_Writer_Count ?_
  intro t7 e7
  have e : (if (0 : Int) > x then 0 else x) = ((x.toNat : Nat) : Int) := by split <;> omega
  rw [e, wrap_u64 (by omega) (by omega)] at e7
  subst e7
  refine (yw_number ok h (by omega) hs).mono ?_
  rintro _ H2 ⟨rfl, h2⟩
  exact ⟨rfl, rfl, h2⟩
theorem putvals_any {F : Nat → Prop} {n0 : Nat} {a : Option Addr} {l c : Nat} {vs : List (Int × Int)} (ok : Ok H) (hw : Wr H n0 b bs) (hV : SlE F H a l vs) (hF : ∀ x, F x → x < H.next ∧ ¬ WrS H b x) (hI : ∀ e ∈ vs, PairI e) (hl : vs.length ≤ 4000000) (hs : bs.length ≤ 140737400000000) :
    FW Ee F_master_putValues [.pointer (some ⟨b, 0, none⟩), .slice a l c] H fun r H' => r = .tuple ⟨[]⟩ ∧ Wr H' n0 b (bs ++ valsB vs) ∧ WrX H b H' := by
  have hlen := hV.len
  subst hlen
  have l3 := enc_len64 (show vs.length < 18446744073709551616 by omega)
  refine fw_master_putValues ?_
  refine (yw_count ok hw (by omega) (by omega)).mono ?_
  rintro _ H1 ⟨rfl, w1, x1⟩
  refine ⟨rfl, ?_⟩
  refine ⟨fun m t Hb => ∃ p : Nat, t = p ∧ p ≤ vs.length ∧ m = vs.length - p ∧ Wr Hb n0 b (bs ++ enc vs.length ++ (vs.take p).flatMap pairB) ∧ WrX H b Hb, ⟨_, 0, rfl, by omega, rfl, by simpa using w1, x1⟩, ?_⟩
  rintro m t H5 ⟨p, rfl, hp, rfl, w5, x5⟩
  refine cond_dec (fun hlt => ?_) (fun hge => ?_)
  · have hpk : p < vs.length := by omega
    obtain ⟨hs1, c1, c2⟩ := (hV.mod loc_edge x5.mod fun x hx => (hF x hx).2).nth hpk
    obtain ⟨i1, i2⟩ := hI _ (List.getElem_mem hpk)
    refine grd_intro hs1 ⟨by omega, by omega, _, _, c1, c2, ?_⟩
    intro H6 e6
    obtain ⟨H7, e7, b7, g7, n7⟩ := fresh_store (vs := [.int .i64 vs[p].1, .int .i64 vs[p].2]) e6 rfl rfl x5.mod.ok
    have hfl := pairsB_take hI p
    have hbl : (bs ++ enc vs.length ++ (vs.take p).flatMap pairB).length ≤ 140737488350000 := by
      simp only [List.length_append]; omega
    have o7 : ¬ WrS H7 b H5.next := w5.new x5.mod.ok g7 (Nat.le_refl _)
    have x7 := WrX.grow x5.mod.ok w5 g7
    refine ⟨H7, e7, _, cell_of b7 rfl, (yw_signed g7.ok (w5.grow g7) i1 (by omega)).mono ?_⟩
    rintro _ H8 ⟨rfl, w8, x8⟩
    have l8 := enc_len64 (fold_lt i1)
    refine ⟨rfl, _, cell_of (x8.mod.get _ _ o7 b7) rfl, (yw_signed x8.mod.ok w8 i2 (by rw [List.length_append]; unfold sgB at *; omega)).mono ?_⟩
    rintro _ H9 ⟨rfl, w9, x9⟩
    refine ⟨rfl, ?_⟩
    intro t34 e34
    rw [wrap_i64 (by omega) (by omega)] at e34
    subst e34
    refine ⟨vs.length - (p + 1), by omega, p + 1, by simp, by omega, rfl, ?_, ((x5.trans ok x7).trans ok x8).trans ok x9⟩
    rw [take_flat hpk, ← List.append_assoc]
    simpa [pairB] using w9
  · have hpn : p = vs.length := by omega
    subst hpn
    rw [List.take_length, List.append_assoc] at w5
    exact ⟨rfl, w5, x5⟩
theorem putrep_any {F : Nat → Prop} {n0 : Nat} {f : Nat → Int} {h : Nat → Bool} {v : Nat → Int} {a : Option Addr} {l c : Nat} {vs : List (Int × Int)} (hf : ∀ i, I64 (f i)) (hv : ∀ i, I64 (v i)) (ok : Ok H) (hw : Wr H n0 b bs) (hV : SlE F H a l vs) (hF : ∀ x, F x → x < H.next ∧ ¬ WrS H b x) (hI : ∀ e ∈ vs, PairI e) (hl : vs.length ≤ 4000000) (hs : bs.length ≤ 140737390000000) :
    FW Ee F_master_PutReport [.pointer (some ⟨b, 0, none⟩), .agg ⟨repC f h v a l c⟩] H fun r H' => r = .tuple ⟨[]⟩ ∧ Wr H' n0 b (bs ++ repB f h v vs) ∧ WrX H b H' := by
  have hfn : ∀ i, (f i).toNat < 18446744073709551616 := fun i => by have := hf i; unfold I64 at this; omega
  have htot := cntL_len hfn 9 0
  have hagl := aggL_len (h := h) hv 5 0
  refine fw_master_PutReport ?_
  intro H1 e1
  obtain ⟨g1, b1, n1⟩ := new_job ok e1
  refine ⟨_, cell_of b1 rfl, _, cell_of b1 rfl, _, cell_of b1 rfl, _, cell_of b1 rfl, _, cell_of b1 rfl, _, cell_of b1 rfl, _, cell_of b1 rfl, _, cell_of b1 rfl, _, cell_of b1 rfl, ?_⟩
  intro H2 e2
  obtain ⟨g2, c2, n2⟩ := new_job g1.ok e2
  have g02 := g1.trans g2
  have x0 := WrX.grow ok hw g02
  have w2 := hw.grow g02
  have o1 : ¬ WrS H2 b H.next := hw.new ok g02 (Nat.le_refl _)
  have o2 : ¬ WrS H2 b H1.next := hw.new ok g02 (by omega)
  have b2 := g2.get _ _ id b1
  have F2 := x0.keep hF
  have V2 := hV.grow loc_edge g02
  refine ⟨fun m t Hb => ∃ (i : Nat) (cs : List UInt8), t = i ∧ i ≤ 9 ∧ m = 9 - i ∧ Wr Hb n0 b (bs ++ cs) ∧ cs ++ cntL (fun i => (f i).toNat) (9 - i) i = cntL (fun i => (f i).toNat) 9 0 ∧ WrX H2 b Hb, ⟨_, 0, [], rfl, by omega, rfl, by simpa using w2, rfl, WrX.grow g02.ok w2 (.refl g02.ok)⟩, ?_⟩
  rintro m t H3 ⟨i, cs, rfl, hi, rfl, w3, hcs, x3⟩
  have hle := congrArg List.length hcs
  rw [List.length_append] at hle
  refine cond_dec (fun hlt => ?_) (fun hge => ?_)
  · have hi9 : i < 9 := by omega
    have c3 := x3.mod.get _ _ o2 c2
    have hstep : cntL (fun i => (f i).toNat) (9 - i) i = enc (f i).toNat ++ cntL (fun i => (f i).toNat) (9 - (i + 1)) (i + 1) := by
      rw [show 9 - i = 9 - (i + 1) + 1 from by omega]; rfl
    refine ⟨by omega, by omega, f i, cell_of c3 (cnt9 hi9), ?_⟩
    refine (yw_cnt (hf i) x3.mod.ok w3 (by rw [List.length_append]; omega)).mono ?_
    rintro _ H4 ⟨rfl, w4, x4⟩
    refine ⟨rfl, ?_⟩
    intro t33 e33
    rw [wrap_i64 (by omega) (by omega)] at e33
    subst e33
    refine ⟨9 - (i + 1), by omega, i + 1, cs ++ enc (f i).toNat, by simp, by omega, rfl, ?_, ?_, x3.trans g02.ok x4⟩
    · rw [← List.append_assoc]; exact w4
    · rw [List.append_assoc, ← hstep]; exact hcs
  · have hi9 : i = 9 := by omega
    subst hi9
    have hc : cs = cntL (fun i => (f i).toNat) 9 0 := by rw [← hcs]; simp [cntL]
    have b3 := x3.mod.get _ _ o1 b2
    refine ⟨_, _, _, _, _, _, _, _, _, _, cell_of b3 rfl, cell_of b3 rfl, cell_of b3 rfl, cell_of b3 rfl, cell_of b3 rfl, cell_of b3 rfl, cell_of b3 rfl, cell_of b3 rfl, cell_of b3 rfl, cell_of b3 rfl, (putagg_ok (h := h) hv x3.mod.ok w3 (by rw [List.length_append]; omega)).mono ?_⟩
    rintro _ H5 ⟨rfl, w5, x5⟩
    have x25 := x3.trans g02.ok x5
    have b5 := x25.mod.get _ _ o1 b2
    refine ⟨rfl, _, _, _, cell_of b5 rfl, (putvals_any x5.mod.ok w5 (V2.mod loc_edge x25.mod fun x hx => (F2 x hx).2) (x25.keep F2) hI hl (by unfold aggB; simp only [List.length_append]; omega)).mono ?_⟩
    rintro _ H6 ⟨rfl, w6, x6⟩
    refine ⟨rfl, rfl, ?_, x0.trans ok (x25.trans g02.ok x6)⟩
    rw [hc] at w6
    unfold repB
    simpa only [List.append_assoc] using w6
structure CmdT (s : List UInt8) (n : Nat) (H' : AH) (kd se sq : Int) (t : List UInt8) (jd wk li : Int) (f : Nat → Int) (h : Nat → Bool) (v : Nat → Int) (a : Option Addr) (l : Nat) (vs : List (Int × Int)) : Prop where
  kind : 1 ≤ kd ∧ kd ≤ 5
  sess : I64 se
  cnts : Cn sq ∧ Cn jd ∧ Cn wk ∧ Cn li ∧ ∀ i, Cn (f i)
  text : t.length ≤ s.length
  vals : ∀ i, I64 (v i)
  sl : SlE (fun x => n ≤ x ∧ x < H'.next) H' a l vs
  pairs : ∀ e ∈ vs, PairI e
  few : vs.length ≤ 256
end
end Go.Proofs.Cx
namespace Go.Ev
open Go
theorem lset_out {cs w : List Value} {o i : Nat} (h : o + w.length ≤ cs.length) (hi : i < o ∨ o + w.length ≤ i) : (lset cs o w)[i]? = cs[i]? := by
  unfold lset
  rcases hi with h1 | h1
  · rw [List.append_assoc, List.getElem?_append_left (by rw [List.length_take]; omega), List.getElem?_take, if_pos h1]
  · rw [List.getElem?_append_right (by rw [List.length_append, List.length_take]; omega), List.getElem?_drop, List.length_append, List.length_take]
    congr 1; omega
theorem lset_len {cs w : List Value} {o : Nat} (h : o + w.length ≤ cs.length) : (lset cs o w).length = cs.length := by
  unfold lset
  simp only [List.length_append, List.length_take, List.length_drop]; omega
structure JC (cs : List Value) (x st : Int) (m : Option Nat) : Prop where
  len : cs.length = 50
  c0 : cs[0]? = some (.int .i64 x)
  c7 : cs[7]? = some (.int .i64 st)
  c16 : cs[16]? = some (.map m)
theorem JC.set {cs w : List Value} {x st : Int} {m : Option Nat} {o : Nat} (h : JC cs x st m) (h1 : 8 ≤ o) (h2 : o + w.length ≤ 50) (h3 : o + w.length ≤ 16 ∨ 17 ≤ o) : JC (lset cs o w) x st m := by
  have hl := h.len
  refine ⟨by rw [lset_len (by omega), hl], ?_, ?_, ?_⟩
  · rw [lset_out (by omega) (by omega)]; exact h.c0
  · rw [lset_out (by omega) (by omega)]; exact h.c7
  · rw [lset_out (by omega) (by omega)]; exact h.c16
end Go.Ev
namespace Go.Proofs.Cx
open Go Go.Ev
section
variable {H : AH} {b : Nat} {s : List UInt8} {q : RSt}
end
end Go.Proofs.Cx
