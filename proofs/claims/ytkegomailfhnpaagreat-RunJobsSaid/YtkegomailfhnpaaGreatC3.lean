/- Readers: numbers, counts, texts; the program's and the document's, as functions. The document's readers. graph.Edges, graph.edges, graph.Check. -/
import Derived.Test.YtkegomailfhnpaaGreatC1
import Derived.Test.YtkegomailfhnpaaGreatC2
import Derived.Test.YtkegomailfhnpaaGreatVc2
import Derived.Test.YtkegomailfhnpaaGreatVc3
namespace Go.Ev
open Go
theorem rNum_err {s : List UInt8} {p : Nat} {e : Int} (h : e ≠ 0) : rNum s (p, e) = (0, (p, e)) := by unfold rNum; rw [if_pos h]
theorem rNum_bad {s : List UInt8} {p e : Nat} (h : scan (s.drop p) 10 0 0 = (e, 0, 0)) (he : e ≠ 0) : rNum s (p, 0) = (0, (p, (e : Int))) := by
  unfold rNum; rw [if_neg (by simp)]
  simp only [h]; rw [if_neg he]
theorem rNum_good {s : List UInt8} {p n k : Nat} (h : scan (s.drop p) 10 0 0 = (0, n, k)) : rNum s (p, 0) = (n, (p + k, 0)) := by
  unfold rNum; rw [if_neg (by simp)]
  simp only [h, if_true]
theorem scan_cut {l : List UInt8} {k i n : Nat} (h : l.length ≤ i) : scan l (k + 1) i n = (4, 0, 0) := by
  unfold scan; rw [List.getElem?_eq_none h]
theorem scan_bad {l : List UInt8} {k i n : Nat} (h : i < l.length) (hc : (i = 9 ∧ 1 < l[i].toNat) ∨ (0 < i ∧ l[i].toNat = 0)) : scan l (k + 1) i n = (6, 0, 0) := by
  unfold scan; rw [List.getElem?_eq_getElem h]; simp only; rw [if_pos hc]
theorem scan_stop {l : List UInt8} {k i n : Nat} (h : i < l.length) (hc : ¬ ((i = 9 ∧ 1 < l[i].toNat) ∨ (0 < i ∧ l[i].toNat = 0))) (hb : l[i].toNat < 128) : scan l (k + 1) i n = (0, n + l[i].toNat * 128 ^ i, i + 1) := by
  unfold scan; rw [List.getElem?_eq_getElem h]; simp only; rw [if_neg hc, if_pos hb]
theorem scan_go {l : List UInt8} {k i n : Nat} (h : i < l.length) (hc : ¬ ((i = 9 ∧ 1 < l[i].toNat) ∨ (0 < i ∧ l[i].toNat = 0))) (hb : 128 ≤ l[i].toNat) : scan l (k + 1) i n = scan l k (i + 1) (n + (l[i].toNat - 128) * 128 ^ i) := by
  conv => lhs; unfold scan
  rw [List.getElem?_eq_getElem h]; simp only; rw [if_neg hc, if_neg (by omega)]
theorem pow_next {n B i : Nat} (hn : n < 128 ^ i) (hB : B < 256) : n + (B - 128) * 128 ^ i < 128 ^ (i + 1) := by
  obtain ⟨P, hP⟩ : ∃ P, P = 128 ^ i := ⟨_, rfl⟩
  rw [← hP] at hn
  rw [Nat.pow_succ, ← hP]
  have := Nat.mul_le_mul_right P (show B - 128 ≤ 127 by omega)
  omega
theorem pow_fit {n B i : Nat} (hi : i ≤ 9) (hn : n < 128 ^ i) (h9 : i = 9 → B ≤ 1) : n + B % 128 * 128 ^ i < 18446744073709551616 := by
  rcases Nat.lt_or_ge i 9 with h | h
  · have h8 : (128 : Nat) ^ i ≤ 72057594037927936 := by
      have : (128 : Nat) ^ 8 = 72057594037927936 := by decide
      rw [← this]; exact Nat.pow_le_pow_right (by omega) (by omega)
    have := Nat.mul_le_mul (show B % 128 ≤ 127 by omega) h8
    omega
  · have : i = 9 := by omega
    subst this
    have := h9 rfl
    rw [pow128_9] at hn ⊢
    have : B % 128 ≤ 1 := by omega
    omega
/-- the ways of the program's test of a byte, and of the document's -/
theorem cond_num {i B : Nat} {P E : Prop} (hE : ((i = 9 ∧ 1 < B) ∨ (0 < i ∧ B = 0)) → E) (hP : ¬ ((i = 9 ∧ 1 < B) ∨ (0 < i ∧ B = 0)) → P) :
    cond ((i : Int) == 9) (cond (decide ((B : Int) > 1)) E (cond ((B : Int) == 0) (cond (decide ((i : Int) > 0)) E P) P)) (cond ((B : Int) == 0) (cond (decide ((i : Int) > 0)) E P) P) := by
  have zero : ∀ {x : Nat}, ((x : Int) == 0) = true → x = 0 := fun {x} h => by
    have : (x : Int) = 0 := by simpa using h
    omega
  have nz : ∀ {x : Nat}, ((x : Int) == 0) = false → x ≠ 0 := fun {x} h e => by subst e; simp at h
  refine cond_intro (fun h9 => ?_) (fun h9 => ?_)
  · have h9 : i = 9 := by
      have : (i : Int) = 9 := by simpa using h9
      omega
    refine cond_dec (fun hb => hE (.inl ⟨h9, by omega⟩)) (fun hb => cond_intro (fun hz => ?_) (fun hz => hP ?_))
    · have := zero hz
      exact cond_dec (fun h0 => hE (.inr ⟨by omega, this⟩)) (fun h0 => by omega)
    · have := nz hz
      omega
  · have h9 : i ≠ 9 := by
      have : (i : Int) ≠ 9 := by simpa using h9
      omega
    refine cond_intro (fun hz => ?_) (fun hz => hP ?_)
    · have := zero hz
      exact cond_dec (fun h0 => hE (.inr ⟨by omega, this⟩)) (fun h0 => hP (by omega))
    · have := nz hz
      omega
theorem cond_numr {i B : Nat} {P E : Prop} (hE : ((i = 9 ∧ 1 < B) ∨ (0 < i ∧ B = 0)) → E) (hP : ¬ ((i = 9 ∧ 1 < B) ∨ (0 < i ∧ B = 0)) → P) :
    cond ((i : Int) == 9) (cond (decide ((B : Int) > 1)) E (cond (decide ((i : Int) > 0)) (cond ((B : Int) == 0) E P) P)) (cond (decide ((i : Int) > 0)) (cond ((B : Int) == 0) E P) P) := by
  have zero : ∀ {x : Nat}, ((x : Int) == 0) = true → x = 0 := fun {x} h => by
    have : (x : Int) = 0 := by simpa using h
    omega
  have nz : ∀ {x : Nat}, ((x : Int) == 0) = false → x ≠ 0 := fun {x} h e => by subst e; simp at h
  refine cond_intro (fun h9 => ?_) (fun h9 => ?_)
  · have h9 : i = 9 := by
      have : (i : Int) = 9 := by simpa using h9
      omega
    refine cond_dec (fun hb => hE (.inl ⟨h9, by omega⟩)) (fun hb => cond_dec (fun h0 => cond_intro (fun hz => hE (.inr ⟨by omega, zero hz⟩)) (fun hz => hP ?_)) (fun h0 => by omega))
    have := nz hz
    omega
  · have h9 : i ≠ 9 := by
      have : (i : Int) ≠ 9 := by simpa using h9
      omega
    refine cond_dec (fun h0 => cond_intro (fun hz => hE (.inr ⟨by omega, zero hz⟩)) (fun hz => hP ?_)) (fun h0 => hP (by omega))
    have := nz hz
    omega
/-- a part of a text -/
theorem strv_cut {s : List UInt8} {a n : Nat} (h : a + n ≤ s.length) : strv s (some (.int .i64 (a : Int))) (some (.int .i64 ((a + n : Nat) : Int))) = some (.string ⟨⟨(s.drop a).take n⟩⟩) := by
  unfold strv
  rw [show boundOf s.length (some (.int .i64 ((a + n : Nat) : Int))) (some s.length) = some (a + n) from by
    simp only [boundOf]
    rw [if_pos (by constructor <;> omega)]; rfl]
  simp only
  rw [show boundOf (a + n) (some (.int .i64 (a : Int))) (some 0) = some a from by
    simp only [boundOf]
    rw [if_pos (by constructor <;> omega)]; rfl]
  simp only
  rw [show a + n - a = n from by omega]
end Go.Ev
namespace Go.Proofs.Cx
open Go Go.Ev

abbrev rdV (s : List UInt8) (q : RSt) : Value := .agg ⟨[.string ⟨⟨s⟩⟩, .int .i64 (q.1 : Int), .int .i64 q.2]⟩
section
variable {H : AH} {b : Nat} {s : List UInt8} {p : Nat} {e : Int}
theorem xnum_vc {Q : Value → AH → Prop} (ok : Ok H) (h : Rd H b s p e) (hp : p ≤ s.length) (hs : s.length ≤ 4611686018427387904)
    (hQ : ∀ H', Rd H' b s (rNum s (p, e)).2.1 (rNum s (p, e)).2.2 → Mod (· = b) H H' → Q (.int .u64 ((rNum s (p, e)).1 : Int)) H') :
    FW Ee F_wire_Reader_Number [.pointer (some ⟨b, 0, none⟩)] H Q := by
  refine fw_wire_Reader_Number ?_
  refine (rerr_ok h).mono ?_
  rintro _ _ ⟨rfl, rfl⟩
  refine ⟨_, rfl, cond_intro (fun he => ?_) (fun he => ?_)⟩
  · have he : e ≠ 0 := by simpa using he
    rw [rNum_err he] at hQ
    exact hQ H h (.refl ok)
  have he : e = 0 := by simpa using he
  subst he
  have bad : ∀ e' : Nat, e' ≠ 0 → scan (s.drop p) 10 0 0 = (e', 0, 0) → ∃ H', storeCellsv H b 2 [.int .i64 (e' : Int)] = some H' ∧ Q (.int .u64 0) H' := by
    intro e' he' hno
    obtain ⟨H', h1, h2, h3⟩ := h.err ok (e' : Int)
    rw [rNum_bad hno he'] at hQ
    exact ⟨H', h1, hQ H' h2 h3⟩
  have hc0 : H.cell b 0 = some (.string ⟨⟨s⟩⟩) := cell_of h rfl
  have hc1 : H.cell b 1 = some (.int .i64 (p : Int)) := cell_of h rfl
  refine ⟨fun m _ n3 t9 Hx => H = Hx ∧ ∃ i n : Nat, t9 = i ∧ n3 = n ∧ i ≤ 9 ∧ m = 10 - i ∧ n < 128 ^ i ∧ scan (s.drop p) 10 0 0 = scan (s.drop p) (10 - i) i n, ⟨_, rfl, 0, 0, rfl, rfl, by omega, rfl, by simp, rfl⟩, ?_⟩
  rintro m t2 n3 t9 Hx ⟨rfl, i, n, rfl, rfl, hi, rfl, hlt, hsc⟩
  rw [show 10 - i = 9 - i + 1 from by omega] at hsc
  refine cond_dec (fun _ => ?_) (fun hge => by omega)
  have hlen := List.length_drop (i := p) (l := s)
  refine ⟨p, hc1, ?_⟩
  intro t17 e17
  rw [wrap_i64 (by omega) (by omega)] at e17
  subst e17
  refine ⟨s, hc0, cond_dec (fun hcut => ?_) (fun hin => ?_)⟩
  · exact bad 4 (by omega) (hsc.trans (scan_cut (by omega)))
  have hil : i < (s.drop p).length := by omega
  refine ⟨s, hc0, p, hc1, ?_⟩
  intro t36 e36
  rw [wrap_i64 (by omega) (by omega)] at e36
  subst e36
  refine ⟨by omega, by omega, ?_⟩
  obtain ⟨B, hB⟩ : ∃ B : Nat, B = ((s.drop p)[i]).toNat := ⟨_, rfl⟩
  have hB256 : B < 256 := by rw [hB]; exact UInt8.toNat_lt _
  have hbyte : byteAt s ((p : Int) + (i : Int)) = (B : Int) := by rw [byteAt_drop hil, hB]
  rw [hbyte]
  refine cond_num (fun hbad => bad 6 (by omega) (hsc.trans (scan_bad hil (by rw [← hB]; exact hbad)))) (fun hgood => ?_)
  have h9 : i = 9 → B ≤ 1 := fun h => by omega
  have hfit := pow_fit hi hlt h9
  have hpow := pow_le hi
  intro t57 e57 t58 e58 t60 e60
  rw [low7 hB256] at e57
  subst e57
  rw [wrap_u64 (by omega) (by omega)] at e58
  subst e58
  rw [wrap_i64 (by omega) (by omega)] at e60
  subst e60
  refine ⟨by omega, ?_⟩
  intro t61 e61
  rw [shlk hi] at e61
  obtain ⟨X, hX⟩ : ∃ X, X = B % 128 * 128 ^ i := ⟨_, rfl⟩
  rw [← hX] at e61 hfit
  rw [wrap_u64 (by omega) (by omega)] at e61
  subst e61
  intro t62 e62
  rw [ior_u64 (by omega) (by omega), hX, or_add hlt, ← hX] at e62
  subst e62
  intro t64 e64
  rw [high1 hB256] at e64
  refine cond_intro (fun hz => ?_) (fun hnz => ?_)
  · have hlo : B < 128 := by
      by_cases h : B < 128
      · exact h
      · rw [if_neg h] at e64; subst e64; simp at hz
    refine ⟨p, hc1, ?_⟩
    intro t71 e71
    rw [wrap_i64 (by omega) (by omega)] at e71
    subst e71
    intro t72 e72
    rw [wrap_i64 (by omega) (by omega)] at e72
    have e72 : t72 = ((p + (i + 1) : Nat) : Int) := by omega
    subst e72
    obtain ⟨H', q1, q2, q3⟩ := h.set ok (p + (i + 1))
    have hst := hsc.trans (scan_stop hil (by rw [← hB]; exact hgood) (by rw [← hB]; exact hlo))
    rw [← hB] at hst
    rw [rNum_good hst] at hQ
    rw [hX, Nat.mod_eq_of_lt hlo]
    exact ⟨H', q1, hQ H' q2 q3⟩
  · have hhi : 128 ≤ B := by
      by_cases h : B < 128
      · rw [if_pos h] at e64; subst e64; simp at hnz
      · omega
    intro t76 e76
    rw [wrap_i64 (by omega) (by omega)] at e76
    have hi9 : i ≠ 9 := fun e => by have := h9 e; omega
    have hst := hsc.trans (scan_go hil (by rw [← hB]; exact hgood) (by rw [← hB]; exact hhi))
    rw [← hB] at hst
    rw [hX, show B % 128 = B - 128 from by omega]
    exact ⟨10 - (i + 1), by omega, rfl, i + 1, _, by omega, rfl, by omega, rfl, pow_next hlt hB256, by rw [hst, show 9 - i = 10 - (i + 1) from by omega]⟩
end
section
variable {H : AH} {b : Nat} {s : List UInt8} {q : RSt}
theorem xnum_ok (ok : Ok H) (h : Rd H b s q.1 q.2) (hp : AtOk s q) (hs : s.length ≤ 4611686018427387904) :
    FW Ee F_wire_Reader_Number [.pointer (some ⟨b, 0, none⟩)] H fun r H' => r = .int .u64 ((rNum s q).1 : Int) ∧ Rd H' b s (rNum s q).2.1 (rNum s q).2.2 ∧ Mod (· = b) H H' :=
  xnum_vc ok h hp hs fun _ h1 h2 => ⟨rfl, h1, h2⟩
theorem xsig_ok (ok : Ok H) (h : Rd H b s q.1 q.2) (hp : AtOk s q) (hs : s.length ≤ 4611686018427387904) :
    FW Ee F_wire_Reader_Signed [.pointer (some ⟨b, 0, none⟩)] H fun r H' => r = .int .i64 (rSig s q).1 ∧ Rd H' b s (rSig s q).2.1 (rSig s q).2.2 ∧ Mod (· = b) H H' := by
  refine fw_wire_Reader_Signed ?_
  refine (xnum_ok ok h hp hs).mono ?_
  rintro _ H1 ⟨rfl, h1, h2⟩
  refine ⟨_, rfl, (unfold_ok (rNum_ok hp).2).mono ?_⟩
  rintro _ _ ⟨rfl, rfl⟩
  exact ⟨_, rfl, rfl, h1, h2⟩
theorem xcnt_ok (m : Nat) (hm : m ≤ 4611686018427387904) (ok : Ok H) (h : Rd H b s q.1 q.2) (hp : AtOk s q) (hs : s.length ≤ 4611686018427387904) :
    FW Ee F_wire_Reader_Count [.pointer (some ⟨b, 0, none⟩), .int .i64 m] H fun r H' => r = .int .i64 ((rCnt s m q).1 : Int) ∧ Rd H' b s (rCnt s m q).2.1 (rCnt s m q).2.2 ∧ Mod (· = b) H H' := by
  have hn := rNum_ok hp
  refine fw_wire_Reader_Count ?_
  refine (rat_ok h).mono ?_
  rintro _ _ ⟨rfl, rfl⟩
  refine ⟨_, rfl, (xnum_ok ok h hp hs).mono ?_⟩
  rintro _ H1 ⟨rfl, h1, h3⟩
  refine ⟨_, rfl, (rerr_ok h1).mono ?_⟩
  rintro _ _ ⟨rfl, rfl⟩
  refine ⟨_, rfl, cond_intro (fun he => ?_) (fun he => ?_)⟩
  · have he : (rNum s q).2.2 ≠ 0 := by simpa using he
    unfold rCnt
    rw [if_pos he]
    exact ⟨rfl, h1, h3⟩
  · have he : (rNum s q).2.2 = 0 := by simpa using he
    unfold rCnt
    rw [if_neg (by simpa using he)]
    refine cond_dec (fun hneg => by omega) (fun _ => ?_)
    intro t19 e19
    rw [wrap_u64 (by omega) (by omega)] at e19
    subst e19
    refine cond_dec (fun hbig => ?_) (fun hok => ?_)
    · obtain ⟨H6, k1, k2, k3⟩ := h1.set h3.ok q.1
      obtain ⟨H7, l1, l2, l3⟩ := k2.err k3.ok 5
      rw [if_pos (by omega)]
      exact ⟨H6, k1, H7, l1, rfl, l2, (h3.trans k3).trans l3⟩
    · intro t30 e30
      rw [wrap_i64 (by omega) (by omega)] at e30
      subst e30
      rw [if_neg (by omega)]
      exact ⟨rfl, h1, h3⟩
theorem xbytes_ok {n : Nat} (ok : Ok H) (h : Rd H b s q.1 q.2) (he : q.2 = 0) (hn : q.1 + n ≤ s.length) (hs : s.length ≤ 4611686018427387904) :
    FW Ee F_wire_Reader_Bytes [.pointer (some ⟨b, 0, none⟩), .int .i64 n] H fun r H' => r = .string ⟨⟨(s.drop q.1).take n⟩⟩ ∧ Rd H' b s (q.1 + n) 0 ∧ Mod (· = b) H H' := by
  refine fw_wire_Reader_Bytes ?_
  refine (rerr_ok h).mono ?_
  rintro _ _ ⟨rfl, rfl⟩
  refine ⟨_, rfl, cond_neg (by simp [he]) (cond_dec (fun h => by omega) fun _ => ?_)⟩
  refine ⟨s, cell_of h rfl, _, cell_of h rfl, ?_⟩
  intro t25 e25
  rw [wrap_i64 (by omega) (by omega)] at e25
  subst e25
  refine cond_dec (fun h => by omega) fun _ => ?_
  refine ⟨_, cell_of h rfl, ?_⟩
  intro t36 e36
  rw [wrap_i64 (by omega) (by omega)] at e36
  have e36 : t36 = ((q.1 + n : Nat) : Int) := by omega
  subst e36
  obtain ⟨H4, k1, k2, k3⟩ := h.set ok (q.1 + n)
  refine ⟨H4, k1, s, cell_of k2 rfl, _, cell_of k2 rfl, ?_⟩
  intro t48 e48
  rw [wrap_i64 (by omega) (by omega)] at e48
  have e48 : t48 = ((q.1 : Nat) : Int) := by omega
  subst e48
  refine ⟨_, cell_of k2 rfl, _, strv_cut hn, rfl, ?_, k3⟩
  rw [he] at k2
  exact k2
theorem xtxt_ok (ok : Ok H) (h : Rd H b s q.1 q.2) (hp : AtOk s q) (hs : s.length ≤ 4611686018427387904) :
    FW Ee F_wire_Reader_Text [.pointer (some ⟨b, 0, none⟩)] H fun r H' => r = .string ⟨⟨(rTxt s q).1⟩⟩ ∧ Rd H' b s (rTxt s q).2.1 (rTxt s q).2.2 ∧ Mod (· = b) H H' := by
  have hn := rNum_ok hp
  have hat : (rNum s q).2.1 ≤ s.length := hn.1
  refine fw_wire_Reader_Text ?_
  refine (rat_ok h).mono ?_
  rintro _ _ ⟨rfl, rfl⟩
  refine ⟨_, rfl, (xnum_ok ok h hp hs).mono ?_⟩
  rintro _ H1 ⟨rfl, h1, h3⟩
  refine ⟨_, rfl, (rerr_ok h1).mono ?_⟩
  rintro _ _ ⟨rfl, rfl⟩
  refine ⟨_, rfl, cond_intro (fun he => ?_) (fun he => ?_)⟩
  · have he : (rNum s q).2.2 ≠ 0 := by simpa using he
    unfold rTxt
    rw [if_pos he]
    exact ⟨rfl, h1, h3⟩
  · have he : (rNum s q).2.2 = 0 := by simpa using he
    unfold rTxt
    rw [if_neg (by simpa using he)]
    refine (rleft_ok h1 hat hs).mono ?_
    rintro _ _ ⟨rfl, rfl⟩
    refine ⟨_, rfl, ?_⟩
    intro t15 e15
    rw [wrap_u64 (by omega) (by omega)] at e15
    subst e15
    refine cond_dec (fun hbig => ?_) (fun hok => ?_)
    · obtain ⟨H6, k1, k2, k3⟩ := h1.set h3.ok q.1
      obtain ⟨H7, l1, l2, l3⟩ := k2.err k3.ok 4
      rw [if_pos (by omega)]
      exact ⟨H6, k1, H7, l1, rfl, l2, (h3.trans k3).trans l3⟩
    · intro t26 e26
      rw [wrap_i64 (by omega) (by omega)] at e26
      subst e26
      rw [if_neg (by omega)]
      refine (xbytes_ok h3.ok h1 he (by omega) hs).mono ?_
      rintro _ H7 ⟨rfl, h7, m7⟩
      exact ⟨_, rfl, rfl, h7, h3.trans m7⟩
theorem wtext_ok {H : AH} {n0 b : Nat} {x : List UInt8} {bs : List UInt8} (ok : Ok H) (h : Wr H n0 b bs) (hs : bs.length + x.length ≤ 140737488354000) :
    FW Ee F_wire_Writer_Text [.pointer (some ⟨b, 0, none⟩), .string ⟨⟨x⟩⟩] H fun r H' => r = .tuple ⟨[]⟩ ∧ Wr H' n0 b (bs ++ txtB x) ∧ Mod (n0 ≤ ·) H H' := by
  refine fw_wire_Writer_Text ?_
  intro t7 e7
  rw [wrap_u64 (by omega) (by omega)] at e7
  subst e7
  have l1 := enc_len64 (show x.length < 18446744073709551616 by omega)
  refine (wnumber_ok ok h (by omega) (by omega)).mono ?_
  rintro _ H1 ⟨rfl, h1, m1⟩
  refine ⟨rfl, (wbytes_ok m1.ok h1 (by rw [List.length_append]; omega)).mono ?_⟩
  rintro _ H2 ⟨rfl, h2, m2⟩
  exact ⟨rfl, rfl, by rw [txtB, ← List.append_assoc]; exact h2, (m1.le (fun x hx _ => h.low hx) ok).trans (m2.le (fun x hx _ => h1.low hx) m1.ok)⟩
end

/-! the document's -/
theorem ret_rd {Q : Value → AH → Prop} {H : AH} {b rb : Nat} {s : List UInt8} {p : Int} {e : Int} {x y z v : Value} (ok : Ok H) (hb : H.get b = some (.cells [.string ⟨⟨s⟩⟩, .int .i64 p, .int .i64 e] 0)) (hr : H.get rb = some (.cells [x, y, z] 0))
    (hQ : ∀ H3, Mod (· = rb) H H3 → Q (.tuple ⟨[.agg ⟨[.string ⟨⟨s⟩⟩, .int .i64 p, .int .i64 e]⟩, v]⟩) H3) :
    ∃ (t_S : List UInt8) (t_At : Int) (t_Err : Int), H.cell b (0 + 0) = some (.string ⟨⟨t_S⟩⟩) ∧ H.cell b (0 + 1) = some (.int .i64 t_At) ∧ H.cell b (0 + 2) = some (.int .i64 t_Err) ∧ ∃ H3, storeCellsv H rb 0 [.string ⟨⟨t_S⟩⟩, .int .i64 t_At, .int .i64 t_Err] = some H3 ∧
      ∃ (r_S : List UInt8) (r_At : Int) (r_Err : Int), H3.cell rb (0 + 0) = some (.string ⟨⟨r_S⟩⟩) ∧ H3.cell rb (0 + 1) = some (.int .i64 r_At) ∧ H3.cell rb (0 + 2) = some (.int .i64 r_Err) ∧ Q (.tuple ⟨[.agg ⟨[.string ⟨⟨r_S⟩⟩, .int .i64 r_At, .int .i64 r_Err]⟩, v]⟩) H3 := by
  have c := get_set_self H rb (.cells (lset [x, y, z] 0 [.string ⟨⟨s⟩⟩, .int .i64 p, .int .i64 e]) 0)
  exact ⟨s, p, e, cell_of hb rfl, cell_of hb rfl, cell_of hb rfl, _, store_of (o := 0) hr (by simp) rfl, s, p, e, cell_of c rfl, cell_of c rfl, cell_of c rfl, hQ _ (Mod.set ok hr _)⟩
theorem two_new {H H1 H2 : AH} {x y : AObj} (ok : Ok H) (e1 : H1 = H.new x) (e2 : H2 = H1.new y) : Grow H H2 ∧ H2.get H.next = some x ∧ H2.get H1.next = some y ∧ H1.next = H.next + 1 ∧ H2.next = H.next + 2 := by
  subst e1
  have g := Grow.new ok x
  subst e2
  have g2 := Grow.new g.ok y
  exact ⟨g.trans g2, g2.get _ _ id (get_new_self _ _), get_new_self _ _, rfl, rfl⟩
section
variable {H : AH} {s : List UInt8} {q : RSt}
set_option maxRecDepth 100000 in
theorem refnum_ok (ok : Ok H) (hp : AtOk s q) (hs : s.length ≤ 4611686018427387904) :
    FW Ee F_cohortref01_Reader_Number [rdV s q] H fun r H' => r = .tuple ⟨[rdV s (rNum s q).2, .int .u64 ((rNum s q).1 : Int)]⟩ ∧ Grow H H' := by
  obtain ⟨p, e⟩ := q
  have hp : p ≤ s.length := hp
  refine fw_cohortref01_Reader_Number ?_
  intro H1 e1 H2 e2
  obtain ⟨g2, b2, z2, n1, n2⟩ := two_new ok e1 e2
  have b2 : Rd H2 H.next s p e := b2
  refine ⟨e, cell_of b2 rfl, cond_intro (fun he => ?_) (fun he => ?_)⟩
  · have he : e ≠ 0 := by simpa using he
    rw [rNum_err he]
    exact ret_rd (Q := fun r H' => r = _ ∧ Grow H H') g2.ok b2 z2 fun H3 m3 => ⟨rfl, g2.ext m3 ok fun b hb => .inr (by omega)⟩
  have he : e = 0 := by simpa using he
  subst he
  have hc0 : H2.cell H.next 0 = some (.string ⟨⟨s⟩⟩) := cell_of b2 rfl
  have hc1 : H2.cell H.next 1 = some (.int .i64 (p : Int)) := cell_of b2 rfl
  refine ⟨fun m _ n4 u5 i6 Hx => H2 = Hx ∧ ∃ i n : Nat, i6 = i ∧ n4 = n ∧ u5 = ((128 ^ i : Nat) : Int) ∧ i ≤ 9 ∧ m = 10 - i ∧ n < 128 ^ i ∧ scan (s.drop p) 10 0 0 = scan (s.drop p) (10 - i) i n, ⟨_, rfl, 0, 0, rfl, rfl, rfl, by omega, rfl, by simp, rfl⟩, ?_⟩
  rintro m t3 n4 u5 i6 Hx ⟨rfl, i, n, rfl, rfl, rfl, hi, rfl, hlt, hsc⟩
  rw [show 10 - i = 9 - i + 1 from by omega] at hsc
  refine cond_dec (fun _ => ?_) (fun hge => by omega)
  have hlen := List.length_drop (i := p) (l := s)
  refine ⟨p, hc1, ?_⟩
  intro t17 e17
  rw [wrap_i64 (by omega) (by omega)] at e17
  subst e17
  refine ⟨s, hc0, cond_dec (fun hcut => ?_) (fun hin => ?_)⟩
  · obtain ⟨H5, k1, k2, k3⟩ := b2.err g2.ok 4
    rw [rNum_bad (hsc.trans (scan_cut (by omega))) (by omega)]
    exact ⟨H5, k1, ret_rd (Q := fun r H' => r = _ ∧ Grow H H') k3.ok k2 (k3.get _ _ (by omega) z2) fun H3 m3 => ⟨rfl, (g2.ext k3 ok fun b hb => .inr (by omega)).ext m3 ok fun b hb => .inr (by omega)⟩⟩
  have hil : i < (s.drop p).length := by omega
  refine ⟨s, hc0, p, hc1, ?_⟩
  intro t31 e31
  rw [wrap_i64 (by omega) (by omega)] at e31
  subst e31
  refine ⟨by omega, by omega, ?_⟩
  obtain ⟨B, hB⟩ : ∃ B : Nat, B = ((s.drop p)[i]).toNat := ⟨_, rfl⟩
  have hB256 : B < 256 := by rw [hB]; exact UInt8.toNat_lt _
  have hbyte : byteAt s ((p : Int) + (i : Int)) = (B : Int) := by rw [byteAt_drop hil, hB]
  rw [hbyte]
  intro t33 e33
  rw [wrap_u64 (by omega) (by omega)] at e33
  subst e33
  refine cond_numr (fun hbad => ?_) (fun hgood => ?_)
  · obtain ⟨H5, k1, k2, k3⟩ := b2.err g2.ok 6
    rw [rNum_bad (hsc.trans (scan_bad hil (by rw [← hB]; exact hbad))) (by omega)]
    exact ⟨H5, k1, ret_rd (Q := fun r H' => r = _ ∧ Grow H H') k3.ok k2 (k3.get _ _ (by omega) z2) fun H3 m3 => ⟨rfl, (g2.ext k3 ok fun b hb => .inr (by omega)).ext m3 ok fun b hb => .inr (by omega)⟩⟩
  have h9 : i = 9 → B ≤ 1 := fun h => by omega
  have hfit := pow_fit hi hlt h9
  have hpow := pow_le hi
  refine ⟨by omega, ?_⟩
  intro t52 e52
  have e52 : t52 = ((B % 128 : Nat) : Int) := e52
  subst e52
  intro t54 e54
  obtain ⟨X, hX⟩ : ∃ X, X = B % 128 * 128 ^ i := ⟨_, rfl⟩
  rw [show ((B % 128 : Nat) : Int) * ((128 ^ i : Nat) : Int) = (X : Int) from by rw [hX, Int.natCast_mul]] at e54
  rw [← hX] at hfit
  rw [wrap_u64 (by omega) (by omega)] at e54
  subst e54
  intro t55 e55
  rw [wrap_u64 (by omega) (by omega)] at e55
  intro t57 e57
  refine cond_dec (fun hlo => ?_) (fun hhi => ?_)
  · have hlo : B < 128 := by omega
    refine ⟨p, hc1, ?_⟩
    intro t63 e63
    rw [wrap_i64 (by omega) (by omega)] at e63
    subst e63
    intro t64 e64
    rw [wrap_i64 (by omega) (by omega)] at e64
    have e64 : t64 = ((p + (i + 1) : Nat) : Int) := by omega
    subst e64
    obtain ⟨H5, k1, k2, k3⟩ := b2.set g2.ok (p + (i + 1))
    have hst := hsc.trans (scan_stop hil (by rw [← hB]; exact hgood) (by rw [← hB]; exact hlo))
    rw [← hB] at hst
    rw [rNum_good hst]
    have e55 : t55 = ((n + B * 128 ^ i : Nat) : Int) := by
      rw [e55, hX, Nat.mod_eq_of_lt hlo]; rfl
    subst e55
    exact ⟨H5, k1, ret_rd (Q := fun r H' => r = _ ∧ Grow H H') k3.ok k2 (k3.get _ _ (by omega) z2) fun H3 m3 => ⟨rfl, (g2.ext k3 ok fun b hb => .inr (by omega)).ext m3 ok fun b hb => .inr (by omega)⟩⟩
  · have hhi : 128 ≤ B := by omega
    have hi9 : i ≠ 9 := fun e => by have := h9 e; omega
    intro t15 e15
    rw [wrap_i64 (by omega) (by omega)] at e15
    have hst := hsc.trans (scan_go hil (by rw [← hB]; exact hgood) (by rw [← hB]; exact hhi))
    rw [← hB] at hst
    have hpow1 := pow_le (show i + 1 ≤ 9 by omega)
    rw [show ((128 ^ i : Nat) : Int) * 128 = ((128 ^ (i + 1) : Nat) : Int) from by rw [Nat.pow_succ, Int.natCast_mul]; rfl, wrap_u64 (by omega) (by omega)] at e57
    have e55 : t55 = ((n + (B - 128) * 128 ^ i : Nat) : Int) := by
      rw [e55, hX, show B % 128 = B - 128 from by omega]; rfl
    exact ⟨10 - (i + 1), by omega, rfl, i + 1, _, by omega, e55, e57, by omega, rfl, pow_next hlt hB256, by rw [hst, show 9 - i = 10 - (i + 1) from by omega]⟩
end
end Go.Proofs.Cx

namespace Go.Proofs.Cx
open Go Go.Ev

abbrev rdC (s : List UInt8) (q : RSt) : List Value := [.string ⟨⟨s⟩⟩, .int .i64 (q.1 : Int), .int .i64 q.2]
theorem ret_rda {Q : Value → AH → Prop} {H : AH} {b rb : Nat} {s : List UInt8} {p : Int} {e : Int} {x y z : Value} (ok : Ok H) (hb : H.get b = some (.cells [.string ⟨⟨s⟩⟩, .int .i64 p, .int .i64 e] 0)) (hr : H.get rb = some (.cells [x, y, z] 0))
    (hQ : ∀ H3, Mod (· = rb) H H3 → Q (.agg ⟨[.string ⟨⟨s⟩⟩, .int .i64 p, .int .i64 e]⟩) H3) :
    ∃ (t_S : List UInt8) (t_At : Int) (t_Err : Int), H.cell b (0 + 0) = some (.string ⟨⟨t_S⟩⟩) ∧ H.cell b (0 + 1) = some (.int .i64 t_At) ∧ H.cell b (0 + 2) = some (.int .i64 t_Err) ∧ ∃ H3, storeCellsv H rb 0 [.string ⟨⟨t_S⟩⟩, .int .i64 t_At, .int .i64 t_Err] = some H3 ∧
      ∃ (r_S : List UInt8) (r_At : Int) (r_Err : Int), H3.cell rb (0 + 0) = some (.string ⟨⟨r_S⟩⟩) ∧ H3.cell rb (0 + 1) = some (.int .i64 r_At) ∧ H3.cell rb (0 + 2) = some (.int .i64 r_Err) ∧ Q (.agg ⟨[.string ⟨⟨r_S⟩⟩, .int .i64 r_At, .int .i64 r_Err]⟩) H3 := by
  have c := get_set_self H rb (.cells (lset [x, y, z] 0 [.string ⟨⟨s⟩⟩, .int .i64 p, .int .i64 e]) 0)
  exact ⟨s, p, e, cell_of hb rfl, cell_of hb rfl, cell_of hb rfl, _, store_of (o := 0) hr (by simp) rfl, s, p, e, cell_of c rfl, cell_of c rfl, cell_of c rfl, hQ _ (Mod.set ok hr _)⟩
section
variable {H : AH} {s : List UInt8} {q : RSt}
theorem refunfold_ok {n : Nat} (hn : n < 18446744073709551616) : FW Ee F_cohortref01_Unfold [.int .u64 n] H fun r H' => r = .int .i64 (unfold_ n) ∧ H = H' := by
  refine fw_cohortref01_Unfold ?_
  refine ⟨by omega, ?_⟩
  intro t4 e4
  have e4 : t4 = ((n % 2 : Nat) : Int) := e4
  subst e4
  unfold unfold_
  refine cond_intro (fun h => ?_) (fun h => ?_)
  · have h : n % 2 = 1 := by
      have : ((n % 2 : Nat) : Int) = 1 := by simpa using h
      omega
    refine ⟨by omega, ?_⟩
    intro t7 e7
    rw [show ((n : Nat) : Int).tdiv 2 = ((n / 2 : Nat) : Int) from rfl, wrap_u64 (by omega) (by omega)] at e7
    subst e7
    intro t8 e8
    rw [wrap_i64 (by omega) (by omega)] at e8
    subst e8
    intro t9 e9
    rw [wrap_i64 (by omega) (by omega)] at e9
    refine ⟨?_, rfl⟩
    rw [e9, if_neg (by omega)]
    congr 1; omega
  · have h : n % 2 = 0 := by
      have : ((n % 2 : Nat) : Int) ≠ 1 := by simpa using h
      omega
    refine ⟨by omega, ?_⟩
    intro t7 e7
    rw [show ((n : Nat) : Int).tdiv 2 = ((n / 2 : Nat) : Int) from rfl, wrap_u64 (by omega) (by omega)] at e7
    subst e7
    intro t8 e8
    rw [wrap_i64 (by omega) (by omega)] at e8
    subst e8
    refine ⟨?_, rfl⟩
    rw [if_pos h]
theorem refsig_ok (ok : Ok H) (hp : AtOk s q) (hs : s.length ≤ 4611686018427387904) :
    FW Ee F_cohortref01_Reader_Signed [rdV s q] H fun r H' => r = .tuple ⟨[rdV s (rSig s q).2, .int .i64 (rSig s q).1]⟩ ∧ Grow H H' := by
  refine fw_cohortref01_Reader_Signed ?_
  intro H1 e1 H2 e2
  obtain ⟨g2, b2, z2, n1, n2⟩ := two_new ok e1 e2
  refine ⟨_, _, _, cell_of b2 rfl, cell_of b2 rfl, cell_of b2 rfl, (refnum_ok (q := q) g2.ok hp hs).mono ?_⟩
  rintro _ H3 ⟨rfl, g3⟩
  have n3 := g3.next
  refine ⟨_, _, _, _, rfl, ?_⟩
  intro H4 e4
  obtain ⟨H5, e5, b5, g5, n5⟩ := fresh_store (vs := rdC s (rNum s q).2) e4 rfl rfl g3.ok
  have z5 := g5.get _ _ id (g3.get _ _ id z2)
  refine ⟨H5, e5, _, _, _, cell_of b5 rfl, cell_of b5 rfl, cell_of b5 rfl, (refunfold_ok (rNum_ok hp).2).mono ?_⟩
  rintro _ _ ⟨rfl, rfl⟩
  have m7 := Mod.set g5.ok z5 (.cells (lset [.string ⟨⟨[]⟩⟩, .int .i64 0, .int .i64 0] 0 (rdC s (rNum s q).2)) 0)
  have c7 := get_set_self H5 H1.next (.cells (lset [.string ⟨⟨[]⟩⟩, .int .i64 0, .int .i64 0] 0 (rdC s (rNum s q).2)) 0)
  exact ⟨_, rfl, _, store_of (o := 0) z5 (by simp) rfl, cell_of b5 rfl, cell_of b5 rfl, cell_of b5 rfl, _, _, _, cell_of c7 rfl, cell_of c7 rfl, cell_of c7 rfl, rfl, ((g2.trans g3).trans g5).ext m7 ok fun b hb => .inr (by omega)⟩
theorem refcnt_ok (m : Nat) (hm : m ≤ 4611686018427387904) (ok : Ok H) (hp : AtOk s q) (hs : s.length ≤ 4611686018427387904) :
    FW Ee F_cohortref01_Reader_Count [rdV s q, .int .i64 m] H fun r H' => r = .tuple ⟨[rdV s (rCnt s m q).2, .int .i64 ((rCnt s m q).1 : Int)]⟩ ∧ Grow H H' := by
  have hn := rNum_ok hp
  refine fw_cohortref01_Reader_Count ?_
  intro H1 e1 H2 e2
  obtain ⟨g2, b2, z2, n1, n2⟩ := two_new ok e1 e2
  refine ⟨_, _, _, cell_of b2 rfl, cell_of b2 rfl, cell_of b2 rfl, (refnum_ok (q := q) g2.ok hp hs).mono ?_⟩
  rintro _ H3 ⟨rfl, g3⟩
  have n3 := g3.next
  refine ⟨_, _, _, _, rfl, ?_⟩
  intro H4 e4
  obtain ⟨H5, e5, b5, g5, n5⟩ := fresh_store (vs := rdC s (rNum s q).2) e4 rfl rfl g3.ok
  have z5 := g5.get _ _ id (g3.get _ _ id z2)
  have q5 : Rd H5 H.next s q.1 q.2 := g5.get _ _ id (g3.get _ _ id b2)
  have gg := (g2.trans g3).trans g5
  refine ⟨H5, e5, _, cell_of b5 rfl, cond_intro (fun he => ?_) (fun he => ?_)⟩
  · have he : (rNum s q).2.2 = 0 := by simpa using he
    unfold rCnt
    rw [if_neg (by simpa using he)]
    refine cond_dec (fun h => by omega) (fun _ => ?_)
    intro t22 e22
    rw [wrap_u64 (by omega) (by omega)] at e22
    subst e22
    refine cond_dec (fun hbig => ?_) (fun hok => ?_)
    · obtain ⟨H8, k1, k2, k3⟩ := q5.err gg.ok 5
      rw [if_pos (by omega)]
      exact ⟨H8, k1, ret_rd (Q := fun r H' => r = _ ∧ Grow H H') k3.ok k2 (k3.get _ _ (by omega) z5) fun H9 m9 => ⟨rfl, (gg.ext k3 ok fun b hb => .inr (by omega)).ext m9 ok fun b hb => .inr (by omega)⟩⟩
    · rw [if_neg (by omega)]
      refine ⟨_, _, _, cell_of b5 rfl, cell_of b5 rfl, cell_of b5 rfl, ?_⟩
      intro t30 e30
      rw [wrap_i64 (by omega) (by omega)] at e30
      subst e30
      have m7 := Mod.set g5.ok z5 (.cells (lset [.string ⟨⟨[]⟩⟩, .int .i64 0, .int .i64 0] 0 (rdC s (rNum s q).2)) 0)
      have c7 := get_set_self H5 H1.next (.cells (lset [.string ⟨⟨[]⟩⟩, .int .i64 0, .int .i64 0] 0 (rdC s (rNum s q).2)) 0)
      exact ⟨_, store_of (o := 0) z5 (by simp) rfl, _, _, _, cell_of c7 rfl, cell_of c7 rfl, cell_of c7 rfl, rfl, gg.ext m7 ok fun b hb => .inr (by omega)⟩
  · have he : (rNum s q).2.2 ≠ 0 := by simpa using he
    have h0 : (rNum s q).1 = 0 := by
      unfold rNum at he ⊢
      split
      · rfl
      · rename_i h1
        rw [if_neg h1] at he
        split
        · rename_i h2
          rw [if_pos h2] at he
          simp at he
        · rfl
    unfold rCnt
    rw [if_pos he]
    refine ⟨_, _, _, cell_of b5 rfl, cell_of b5 rfl, cell_of b5 rfl, ?_⟩
    intro t30 e30
    rw [wrap_i64 (by omega) (by omega), h0] at e30
    subst e30
    have m7 := Mod.set g5.ok z5 (.cells (lset [.string ⟨⟨[]⟩⟩, .int .i64 0, .int .i64 0] 0 (rdC s (rNum s q).2)) 0)
    have c7 := get_set_self H5 H1.next (.cells (lset [.string ⟨⟨[]⟩⟩, .int .i64 0, .int .i64 0] 0 (rdC s (rNum s q).2)) 0)
    exact ⟨_, store_of (o := 0) z5 (by simp) rfl, _, _, _, cell_of c7 rfl, cell_of c7 rfl, cell_of c7 rfl, rfl, gg.ext m7 ok fun b hb => .inr (by omega)⟩
theorem refrbytes_ok {n : Nat} (ok : Ok H) (he : q.2 = 0) (hn : q.1 + n ≤ s.length) (hs : s.length ≤ 4611686018427387904) :
    FW Ee F_cohortref01_Reader_Bytes [rdV s q, .int .i64 n] H fun r H' => r = .tuple ⟨[rdV s (q.1 + n, 0), .string ⟨⟨(s.drop q.1).take n⟩⟩]⟩ ∧ Grow H H' := by
  refine fw_cohortref01_Reader_Bytes ?_
  intro H1 e1 H2 e2
  obtain ⟨g2, b2, z2, n1, n2⟩ := two_new ok e1 e2
  have q2 : Rd H2 H.next s q.1 q.2 := b2
  refine ⟨_, cell_of b2 rfl, cond_neg (by simp [he]) (cond_dec (fun h => by omega) fun _ => ?_)⟩
  refine ⟨_, cell_of b2 rfl, _, cell_of b2 rfl, ?_⟩
  intro t23 e23
  rw [wrap_i64 (by omega) (by omega)] at e23
  subst e23
  refine cond_dec (fun h => by omega) fun _ => ?_
  refine ⟨_, cell_of b2 rfl, ?_⟩
  intro t30 e30
  rw [wrap_i64 (by omega) (by omega)] at e30
  have e30 : t30 = ((q.1 + n : Nat) : Int) := by omega
  subst e30
  obtain ⟨H8, k1, k2, k3⟩ := q2.set g2.ok (q.1 + n)
  have z8 := k3.get _ _ (show ¬ H1.next = H.next by omega) z2
  rw [he] at k2
  refine ⟨H8, k1, _, _, _, cell_of k2 rfl, cell_of k2 rfl, cell_of k2 rfl, _, cell_of k2 rfl, _, cell_of k2 rfl, ?_⟩
  intro t38 e38
  rw [wrap_i64 (by omega) (by omega)] at e38
  have e38 : t38 = ((q.1 : Nat) : Int) := by omega
  subst e38
  have m9 := Mod.set k3.ok z8 (.cells (lset [.string ⟨⟨[]⟩⟩, .int .i64 0, .int .i64 0] 0 (rdC s (q.1 + n, 0))) 0)
  have c9 := get_set_self H8 H1.next (.cells (lset [.string ⟨⟨[]⟩⟩, .int .i64 0, .int .i64 0] 0 (rdC s (q.1 + n, 0))) 0)
  have k9 := m9.get _ _ (show ¬ H.next = H1.next by omega) k2
  exact ⟨_, cell_of k2 rfl, _, strv_cut hn, _, store_of (o := 0) z8 (by simp) rfl, by rw [strv_cut hn], cell_of k9 rfl, cell_of k9 rfl, cell_of k9 rfl, _, _, _, cell_of c9 rfl, cell_of c9 rfl, cell_of c9 rfl, rfl,
    (g2.ext k3 ok fun b hb => .inr (by omega)).ext m9 ok fun b hb => .inr (by omega)⟩
theorem reftxt_ok (ok : Ok H) (hp : AtOk s q) (hs : s.length ≤ 4611686018427387904) :
    FW Ee F_cohortref01_Reader_Text [rdV s q] H fun r H' => r = .tuple ⟨[rdV s (rTxt s q).2, .string ⟨⟨(rTxt s q).1⟩⟩]⟩ ∧ Grow H H' := by
  have hn := rNum_ok hp
  have hat : (rNum s q).2.1 ≤ s.length := hn.1
  refine fw_cohortref01_Reader_Text ?_
  intro H1 e1 H2 e2
  obtain ⟨g2, b2, z2, n1, n2⟩ := two_new ok e1 e2
  refine ⟨_, _, _, cell_of b2 rfl, cell_of b2 rfl, cell_of b2 rfl, (refnum_ok (q := q) g2.ok hp hs).mono ?_⟩
  rintro _ H3 ⟨rfl, g3⟩
  have n3 := g3.next
  refine ⟨_, _, _, _, rfl, ?_⟩
  intro H4 e4
  obtain ⟨H5, e5, b5, g5, n5⟩ := fresh_store (vs := rdC s (rNum s q).2) e4 rfl rfl g3.ok
  have z5 := g5.get _ _ id (g3.get _ _ id z2)
  have q5 : Rd H5 H.next s q.1 q.2 := g5.get _ _ id (g3.get _ _ id b2)
  have gg := (g2.trans g3).trans g5
  refine ⟨H5, e5, _, cell_of b5 rfl, cond_intro (fun he => ?_) (fun he => ?_)⟩
  · have he : (rNum s q).2.2 ≠ 0 := by simpa using he
    unfold rTxt
    rw [if_pos he]
    exact ret_rd (Q := fun r H' => r = _ ∧ Grow H H') gg.ok b5 z5 fun H9 m9 => ⟨rfl, gg.ext m9 ok fun b hb => .inr (by omega)⟩
  · have he : (rNum s q).2.2 = 0 := by simpa using he
    unfold rTxt
    rw [if_neg (by simpa using he)]
    refine ⟨_, cell_of b5 rfl, _, cell_of b5 rfl, ?_⟩
    intro t21 e21
    rw [wrap_i64 (by omega) (by omega)] at e21
    subst e21
    intro t22 e22
    rw [wrap_u64 (by omega) (by omega)] at e22
    subst e22
    refine cond_dec (fun hbig => ?_) (fun hok => ?_)
    · obtain ⟨H8, k1, k2, k3⟩ := q5.err gg.ok 4
      rw [if_pos (by omega)]
      exact ⟨H8, k1, ret_rd (Q := fun r H' => r = _ ∧ Grow H H') k3.ok k2 (k3.get _ _ (by omega) z5) fun H9 m9 => ⟨rfl, (gg.ext k3 ok fun b hb => .inr (by omega)).ext m9 ok fun b hb => .inr (by omega)⟩⟩
    · rw [if_neg (by omega)]
      refine ⟨_, _, _, cell_of b5 rfl, cell_of b5 rfl, cell_of b5 rfl, ?_⟩
      intro t28 e28
      rw [wrap_i64 (by omega) (by omega)] at e28
      subst e28
      refine (refrbytes_ok (q := (rNum s q).2) (n := (rNum s q).1) gg.ok he (by omega) hs).mono ?_
      rintro _ H9 ⟨rfl, g9⟩
      have z9 := g9.get _ _ id z5
      have m7 := Mod.set g9.ok z9 (.cells (lset [.string ⟨⟨[]⟩⟩, .int .i64 0, .int .i64 0] 0 (rdC s ((rNum s q).2.1 + (rNum s q).1, 0))) 0)
      have c7 := get_set_self H9 H1.next (.cells (lset [.string ⟨⟨[]⟩⟩, .int .i64 0, .int .i64 0] 0 (rdC s ((rNum s q).2.1 + (rNum s q).1, 0))) 0)
      exact ⟨_, _, _, _, rfl, _, store_of (o := 0) z9 (by simp) rfl, _, _, _, cell_of c7 rfl, cell_of c7 rfl, cell_of c7 rfl, rfl, (gg.trans g9).ext m7 ok fun b hb => .inr (by omega)⟩
theorem refend_ok (ok : Ok H) : FW Ee F_cohortref01_Reader_End [rdV s q] H fun r H' => r = rdV s (q.1, rEnd s q) ∧ Grow H H' := by
  refine fw_cohortref01_Reader_End ?_
  intro H1 e1 H2 e2
  obtain ⟨g2, b2, z2, n1, n2⟩ := two_new ok e1 e2
  have q2 : Rd H2 H.next s q.1 q.2 := b2
  unfold rEnd
  refine ⟨_, cell_of b2 rfl, cond_intro (fun he => ?_) (fun he => ?_)⟩
  · have he : q.2 = 0 := by simpa using he
    refine ⟨_, cell_of b2 rfl, _, cell_of b2 rfl, cond_dec (fun hl => ?_) (fun hl => ?_)⟩
    · obtain ⟨H8, k1, k2, k3⟩ := q2.err g2.ok 5
      rw [if_pos ⟨he, by omega⟩]
      exact ⟨H8, k1, ret_rda (Q := fun r H' => r = _ ∧ Grow H H') k3.ok k2 (k3.get _ _ (by omega) z2) fun H9 m9 => ⟨rfl, (g2.ext k3 ok fun b hb => .inr (by omega)).ext m9 ok fun b hb => .inr (by omega)⟩⟩
    · rw [if_neg (by omega)]
      exact ret_rda (Q := fun r H' => r = _ ∧ Grow H H') g2.ok b2 z2 fun H9 m9 => ⟨rfl, g2.ext m9 ok fun b hb => .inr (by omega)⟩
  · have he : q.2 ≠ 0 := by simpa using he
    rw [if_neg (fun h => he h.1)]
    exact ret_rda (Q := fun r H' => r = _ ∧ Grow H H') g2.ok b2 z2 fun H9 m9 => ⟨rfl, g2.ext m9 ok fun b hb => .inr (by omega)⟩
theorem reftextb_ok {x : List UInt8} (ok : Ok H) (hx : x.length ≤ 4000000000000000000) : FW Ee F_cohortref01_Text [.string ⟨⟨x⟩⟩] H fun r H' => r = .string ⟨⟨txtB x⟩⟩ ∧ Grow H H' := by
  refine fw_cohortref01_Text ?_
  intro t5 e5
  rw [wrap_u64 (by omega) (by omega)] at e5
  subst e5
  have l1 := enc_len64 (show x.length < 18446744073709551616 by omega)
  refine (refnumber_ok _ ok (by omega)).mono ?_
  rintro _ H1 ⟨rfl, g1⟩
  exact ⟨_, rfl, by omega, rfl, g1⟩
end
end Go.Proofs.Cx

namespace Go.Proofs.Cx
open Go Go.Ev

theorem gcount_ok {F : Nat → Prop} {a : Option Addr} {l c : Nat} {H : AH} {G : List Vtx} (ok : Ok H) (hG : SlV F H a l G) (hF : ∀ b, F b → b < H.next) (hf : Fit G) (hn : nE G ≤ 4611686018427387904) :
    FW Ee F_graph_Edges [.agg ⟨[.slice a l c]⟩] H fun r H' => r = .int .i64 (nE G : Int) ∧ Grow H H' := by
  have hlen := hG.len
  have hfn := hf.n
  refine fw_graph_Edges ?_
  intro H1 e1
  have g1 : Grow H H1 := e1 ▸ Grow.new ok _
  have b1 : H1.get H.next = some (.cells [.slice a l c] 0) := e1 ▸ get_new_self _ _
  have n1 : H1.next = H.next + 1 := by rw [e1]; rfl
  intro H2 e2
  obtain ⟨H3, e3, b3, g3, n3⟩ := fresh_store (vs := [.int .i64 0]) e2 rfl rfl g1.ok
  refine ⟨H3, e3, a, l, c, cell_of (g3.get _ _ id b1) rfl, (all_ok g3.ok).mono ?_⟩
  rintro _ H4 ⟨rfl, b4, g4⟩
  have n4 := g4.next
  refine ⟨_, rfl, ?_⟩
  intro L hL hst hpd
  have g5 : Grow H4 (H4.new (.loop L)) := Grow.new g4.ok _
  have g35 := g4.trans g5
  have gall := (g1.trans g3).trans g35
  have n5 : (H4.new (.loop L)).next = H4.next + 1 := rfl
  let S : Nat → Prop := fun b => b = H1.next ∨ b = H4.next
  refine (all1_ok (F := F) (S := S) (R := fun done Hx => Hx.get H4.next = some (.loop L) ∧ Hx.get H1.next = some (.cells [.int .i64 (done.length : Int)] 0)) g5.ok (a := a) (l := l) (c := c) (G := G) (hG.grow loc_vtx gall) (by omega) hf.e (cell_of (g5.get _ _ id b4) rfl) ?_ ?_ ?_ ?_).mono ?_
  · intro b hb
    rcases hb with rfl | rfl
    · exact ⟨by omega, fun h => by have := hF _ h; omega⟩
    · exact ⟨by omega, fun h => by have := hF _ h; omega⟩
  · exact ⟨get_new_self _ _, g35.get _ _ id b3⟩
  · rintro done Ha Hb ⟨r1, r2⟩ g
    exact ⟨g.get _ _ id r1, g.get _ _ id r2⟩
  · rintro done x rest Hx hsp ⟨r1, r2⟩ okx mx
    have hlenE := flatE_len G
    have hlt : done.length < nE G := by rw [← hlenE, hsp]; simp
    refine rw_graph_Edges_r0 r1 hL ?_
    have mw := Mod.set okx r1 (.loop { L with st := .busy })
    have w2 := mw.get _ _ (show ¬ H1.next = H4.next by omega) r2
    have lw := get_set_self Hx H4.next (.loop { L with st := .busy })
    refine ⟨L, r1, hst, hL.body, _, cell_of w2 rfl, ?_⟩
    intro t9 e9
    rw [wrap_i64 (by omega) (by omega)] at e9
    subst e9
    have m1 := Mod.set mw.ok w2 (.cells (lset [.int .i64 (done.length : Int)] 0 [.int .i64 ((done.length : Int) + 1)]) 0)
    have l1 := m1.get _ _ (show ¬ H4.next = H1.next by omega) lw
    have m3 := Mod.set m1.ok l1 (.loop L)
    have hLr : ({ L with st := LoopState.ready, pend := none } : ALoop) = L := by
      cases L; simp only at hst hpd; subst hst hpd; rfl
    refine ⟨_, store_of (o := 0) w2 (by simp) rfl, _, l1, rfl, ?_, ?_⟩
    · simp only [hLr]
      refine ⟨get_set_self _ _ _, ?_⟩
      refine Eq.trans (m3.get H1.next _ (by omega) (get_set_self _ _ _)) ?_
      simp [lset]
    · simp only [hLr]
      have q : ∀ {S' : Nat → Prop} {Ha Hb : AH}, Ok Ha → Mod S' Ha Hb → (∀ b, S' b → S b) → Mod S Ha Hb := fun ok h k => h.le (fun b hb _ => k b hb) ok
      exact (q okx mw (fun b h => .inr h)).trans ((q mw.ok m1 (fun b h => .inl h)).trans (q m1.ok m3 (fun b h => .inr h)))
  · rintro _ H6 ⟨⟨r1, r2⟩, m6⟩
    have m7 := Mod.set m6.ok r1 (.loop { L with st := .exhausted, pend := none })
    refine ⟨L, r1, by rw [hst]; simp, ?_⟩
    simp only [hpd]
    have r3 := m7.get _ _ (show ¬ H1.next = H4.next by omega) r2
    rw [flatE_len] at r3
    refine ⟨_, cell_of r3 rfl, rfl, (gall.ext m6 ok fun b hb => .inr ?_).ext m7 ok fun b hb => .inr (by omega)⟩
    rcases hb with rfl | rfl <;> omega

/-- the edges of a vertex may be -/
def EsOk (G : List Vtx) (es : List (Int × Int)) : Prop := ∀ k (hk : k < es.length), isIn G es[k].1 = true ∧ ∀ (_ : 0 < k), (es[k - 1]'(by omega)).1 < es[k].1
theorem gedges_ok {F : Nat → Prop} {a ea : Option Addr} {l c el ec : Nat} {vid val : Int} {H : AH} {G : List Vtx} {es : List (Int × Int)} (ok : Ok H) (hG : SlV F H a l G) (hl : l ≤ 4611686018427387904) (hE : SlE F H ea el es) (hel : el ≤ 4611686018427387904) (hr : Rising G) :
    FW Ee F_graph_edges [.agg ⟨[.slice a l c]⟩, .agg ⟨[.int .i64 vid, .int .i64 val, .slice ea el ec]⟩] H fun r H' => ∃ bb : Bool, r = .bool bb ∧ (bb = true → EsOk G es) ∧ (bb = false → ¬ EsOk G es) ∧ Grow H H' := by
  have hlen := hE.len
  refine fw_graph_edges ?_
  intro H1 e1 H2 e2
  obtain ⟨g2, b2, v2, n1, n2⟩ := two_new ok e1 e2
  refine ⟨_, _, _, cell_of v2 rfl, ?_⟩
  refine ⟨fun n _ i Hx => ∃ p : Nat, i = p ∧ p ≤ el ∧ n = el - p ∧ Grow H2 Hx ∧ ∀ k (hk : k < es.length), k < p → isIn G es[k].1 = true ∧ ∀ (_ : 0 < k), (es[k - 1]'(by omega)).1 < es[k].1, ⟨_, 0, rfl, by omega, rfl, .refl g2.ok, fun k _ h => by omega⟩, ?_⟩
  rintro n t4 i H3 ⟨p, rfl, hp, rfl, g3, hpre⟩
  have gg := g2.trans g3
  refine cond_dec (fun hlt => ?_) (fun hge => ?_)
  · have hk : p < es.length := by omega
    obtain ⟨hs, c1, c2⟩ := (hE.grow loc_edge gg).nth hk
    refine grd_intro hs ⟨by omega, by omega, _, _, c1, c2, ?_⟩
    intro H4 e4
    obtain ⟨H5, e5, b5, g5, n5⟩ := fresh_store (vs := [.int .i64 es[p].1, .int .i64 es[p].2]) e4 rfl rfl gg.ok
    have gb := (g3.trans g5).get _ _ id b2
    have gv := (g3.trans g5).get _ _ id v2
    refine ⟨H5, e5, _, _, _, cell_of gb rfl, _, cell_of b5 rfl, (gfind_ok g5.ok ((hG.grow loc_vtx gg).grow loc_vtx g5) hl hr).mono ?_⟩
    rintro _ H6 ⟨rfl, g6⟩
    have g36 := g5.trans g6
    refine ⟨_, _, rfl, cond_intro (fun hno => ⟨false, rfl, fun h => (by cases h), fun _ h => ?_, gg.trans g36⟩) (fun hin => ?_)⟩
    · have := (h p hk).1
      rw [this] at hno; cases hno
    have hin : isIn G es[p].1 = true := by simpa using hin
    have next : (∀ (_ : 0 < p), (es[p - 1]'(by omega)).1 < es[p].1) → ∀ (t42 : Int), t42 = IntKind.i64.wrap ((p : Int) + 1) → ∃ m, m < el - p ∧ ∃ p' : Nat, t42 = p' ∧ p' ≤ el ∧ m = el - p' ∧ Grow H2 H6 ∧ ∀ k (hk : k < es.length), k < p' → isIn G es[k].1 = true ∧ ∀ (_ : 0 < k), (es[k - 1]'(by omega)).1 < es[k].1 := by
      intro h t42 e42
      rw [wrap_i64 (by omega) (by omega)] at e42
      subst e42
      refine ⟨el - (p + 1), by omega, p + 1, by simp, by omega, rfl, g3.trans g36, fun k hk2 hkp => ?_⟩
      rcases Nat.lt_or_ge k p with h3 | h3
      · exact hpre k hk2 h3
      · have : k = p := by omega
        subst this; exact ⟨hin, h⟩
    refine cond_dec (fun h0 => ?_) (fun h0 => next fun h => by omega)
    refine ⟨_, _, _, cell_of (g6.get _ _ id gv) rfl, ?_⟩
    intro t33 e33
    rw [wrap_i64 (by omega) (by omega)] at e33
    subst e33
    have hjj : ((p : Int) - 1).toNat = p - 1 := by omega
    obtain ⟨_, d1, _⟩ := ((hE.grow loc_edge gg).grow loc_edge g36).nth (k := p - 1) (by omega)
    refine grd_intro hs ⟨by omega, by omega, _, by rw [hjj]; exact d1, _, cell_of (g6.get _ _ id b5) rfl, cond_dec (fun h1 => ⟨false, rfl, fun h => (by cases h), fun _ h => ?_, gg.trans g36⟩) (fun h1 => next fun _ => by omega)⟩
    have := (h p hk).2 (by omega)
    omega
  · exact ⟨true, rfl, fun _ k hk => hpre k hk (by omega), fun h => (by cases h), gg⟩

theorem gcheck_ok {F : Nat → Prop} {a : Option Addr} {l c : Nat} {H : AH} {G : List Vtx} (ok : Ok H) (hG : SlV F H a l G) (hF : ∀ b, F b → b < H.next) (hf : Fit G) :
    FW Ee F_graph_Check [.agg ⟨[.slice a l c]⟩] H fun r H' => r = .int .i64 (chk G) ∧ Grow H H' := by
  have hlen := hG.len
  have hfn := hf.n
  refine fw_graph_Check ?_
  intro H1 e1
  have g1 : Grow H H1 := e1 ▸ Grow.new ok _
  have b1 : H1.get H.next = some (.cells [.slice a l c] 0) := e1 ▸ get_new_self _ _
  have n1 : H1.next = H.next + 1 := by rw [e1]; rfl
  refine ⟨_, _, _, cell_of b1 rfl, cond_dec (fun h => ⟨by rw [chk, if_pos (.inl (by omega))], g1⟩) (fun h256 => ?_)⟩
  refine ⟨_, _, _, cell_of b1 rfl, ?_⟩
  refine ⟨fun n _ i Hx => ∃ p : Nat, i = p ∧ p ≤ l ∧ n = l - p ∧ Grow H1 Hx ∧ ∀ k (h : k + 1 < G.length), k + 1 < p → G[k].id < G[k + 1].id, ⟨_, 0, rfl, by omega, rfl, .refl g1.ok, fun k _ h => by omega⟩, ?_⟩
  rintro n t2 i H2 ⟨p, rfl, hp, rfl, g2, hst⟩
  have b2 := g2.get _ _ id b1
  have gg := g1.trans g2
  have G2 := hG.grow loc_vtx gg
  refine cond_dec (fun hlt => ?_) (fun hge => ?_)
  · have hk : p < G.length := by omega
    obtain ⟨hs, c1, c2, ea, el, ec, c3, c4⟩ := G2.nth hk
    refine grd_intro hs ⟨by omega, by omega, _, _, ea, el, ec, c1, c2, c3, ?_⟩
    intro H3 e3
    obtain ⟨H4, e4, b4, g4, n4⟩ := fresh_store (vs := [.int .i64 G[p].id, .int .i64 G[p].val, .slice ea el ec]) e3 rfl rfl gg.ok
    have next : (∀ (_ : 0 < p), (G[p - 1]'(by omega)).id < G[p].id) → ∀ (t33 : Int), t33 = IntKind.i64.wrap ((p : Int) + 1) → ∃ m, m < l - p ∧ ∃ p' : Nat, t33 = p' ∧ p' ≤ l ∧ m = l - p' ∧ Grow H1 H4 ∧ ∀ k (h : k + 1 < G.length), k + 1 < p' → G[k].id < G[k + 1].id := by
      intro h t e
      rw [wrap_i64 (by omega) (by omega)] at e
      subst e
      refine ⟨l - (p + 1), by omega, p + 1, by simp, by omega, rfl, g2.trans g4, fun k hk2 hkp => ?_⟩
      rcases Nat.lt_or_ge (k + 1) p with h3 | h3
      · exact hst k hk2 h3
      · have e : p = k + 1 := by omega
        subst e
        exact h (by omega)
    refine ⟨H4, e4, cond_dec (fun h0 => ?_) (fun h0 => next fun h => by omega)⟩
    refine ⟨_, _, _, cell_of (g4.get _ _ id b2) rfl, ?_⟩
    intro t25 e25
    rw [wrap_i64 (by omega) (by omega)] at e25
    subst e25
    have hpp : ((p : Int) - 1).toNat = p - 1 := by omega
    obtain ⟨_, d1, _⟩ := (G2.grow loc_vtx g4).nth (k := p - 1) (by omega)
    refine grd_intro hs ⟨by omega, by omega, _, by rw [hpp]; exact d1, _, cell_of b4 rfl, cond_dec (fun h1 => ⟨?_, gg.trans g4⟩) (fun h1 => next fun _ => by omega)⟩
    have hbad : ¬ Steps1 G := by
      intro h2
      have hp' : p - 1 + 1 = p := by omega
      have := h2 (p - 1) (by omega)
      simp only [hp'] at this
      omega
    rw [chk, if_pos (.inr hbad)]
  · have hsteps : Steps1 G := fun k hk => hst k hk (by omega)
    have hnb := nE_bound hf.e
    have hn1 : nE G ≤ 4611686018427387904 := by
      have : G.length * 140737488355328 ≤ 256 * 140737488355328 := Nat.mul_le_mul_right _ (by omega)
      omega
    refine ⟨_, _, _, cell_of b2 rfl, (gcount_ok g2.ok G2 (fun b hb => by have := hF b hb; have := gg.next; omega) hf hn1).mono ?_⟩
    rintro _ H5 ⟨rfl, g5⟩
    have b5 := g5.get _ _ id b2
    refine ⟨_, rfl, cond_dec (fun h1 => ⟨?_, gg.trans g5⟩) (fun h2048 => ?_)⟩
    · rw [chk, if_neg, if_pos (.inl (by omega))]
      simp only [not_or, Classical.not_not]; exact ⟨by omega, hsteps⟩
    have bad : ∀ {i : Nat} (hi : i < G.length), ¬ EsOk G G[i].edges → chk G = 31 := by
      intro i hi hb
      have h2 : ¬ EdgesOk G := fun h => hb fun k hk => by
        have := h i k hi hk
        exact ⟨this.1, fun h0 => this.2 h0⟩
      rw [chk, if_neg, if_pos (.inr h2)]
      · simp only [not_or, Classical.not_not]; exact ⟨by omega, hsteps⟩
    refine ⟨_, _, _, cell_of b5 rfl, ?_⟩
    have gg5 := gg.trans g5
    refine ⟨fun n _ i Hx => ∃ p : Nat, i = p ∧ p ≤ l ∧ n = l - p ∧ Grow H5 Hx ∧ ∀ k (h : k < G.length), k < p → EsOk G G[k].edges, ⟨_, 0, rfl, by omega, rfl, .refl g5.ok, fun k _ h => by omega⟩, ?_⟩
    rintro n t2 i H6 ⟨q, rfl, hq, rfl, g6, hes⟩
    have gg6 := gg5.trans g6
    have b6 := g6.get _ _ id b5
    have G6 := hG.grow loc_vtx gg6
    refine cond_dec (fun hlt => ?_) (fun hge2 => ?_)
    · have hk : q < G.length := by omega
      obtain ⟨hs, c1, c2, ea, el, ec, c3, c4⟩ := G6.nth hk
      have hel := c4.len
      have hfe := hf.at hk
      refine grd_intro hs ⟨by omega, by omega, _, _, ea, el, ec, c1, c2, c3, ?_⟩
      intro H7 e7
      obtain ⟨H8, e8, b8, g8, n8⟩ := fresh_store (vs := [.int .i64 G[q].id, .int .i64 G[q].val, .slice ea el ec]) e7 rfl rfl gg6.ok
      refine ⟨H8, e8, _, _, _, cell_of (g8.get _ _ id b6) rfl, _, _, _, _, _, cell_of b8 rfl, cell_of b8 rfl, cell_of b8 rfl, (gedges_ok g8.ok (G6.grow loc_vtx g8) (by omega) (c4.grow loc_edge g8) (by omega) hsteps.rising).mono ?_⟩
      rintro _ H9 ⟨bb, rfl, k1, k2, g9⟩
      refine ⟨_, rfl, cond_intro (fun hb => ⟨by rw [bad hk (k2 (by simpa using hb))], (gg6.trans g8).trans g9⟩) (fun hb => ?_)⟩
      have hgood := k1 (by simpa using hb)
      intro t48 e48
      rw [wrap_i64 (by omega) (by omega)] at e48
      subst e48
      refine ⟨l - (q + 1), by omega, q + 1, by simp, by omega, rfl, (g6.trans g8).trans g9, fun k hk2 hkq => ?_⟩
      rcases Nat.lt_or_ge k q with h3 | h3
      · exact hes k hk2 h3
      · have : k = q := by omega
        subst this; exact hgood
    · refine ⟨?_, gg6⟩
      rw [chk, if_neg, if_neg]
      · simp only [not_or, Classical.not_not]
        exact ⟨by omega, fun i k hi hk => ⟨(hes i hi (by omega) k hk).1, fun h0 => (hes i hi (by omega) k hk).2 h0⟩⟩
      · simp only [not_or, Classical.not_not]; exact ⟨by omega, hsteps⟩
end Go.Proofs.Cx
