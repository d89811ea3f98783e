/- Readers: numbers, counts, texts; the program's and the document's, as functions. The document's readers. graph.Edges, graph.edges, graph.Check. Writers that know what they change; graphs are put. Graphs are taken: the program's and the document's. -/
import Derived.Test.YtkkcknfeljgdcaaGreatC1
import Derived.Test.YtkkcknfeljgdcaaGreatVc1
namespace Go.Ev
open Go
theorem rNum_err {s : List UInt8} {p : Nat} {e : Int} (h : e ≠ 0) : rNum s (p, e) = (0, (p, e)) := by unfold rNum; rw [if_pos h]
theorem rNum_bad {s : List UInt8} {p e : Nat} (h : scan (s.drop p) 10 0 0 = (e, 0, 0)) (he : e ≠ 0) : rNum s (p, 0) = (0, (p, (e : Int))) := by
  unfold rNum; rw [if_neg (by simp)]
  simp only [h]; rw [if_neg he]
theorem rNum_good {s : List UInt8} {p n k : Nat} (h : scan (s.drop p) 10 0 0 = (0, n, k)) : rNum s (p, 0) = (n, (p + k, 0)) := by
  unfold rNum; rw [if_neg (by simp)]
  simp only [h, if_true]
theorem scan_cut {l : List UInt8} {k i n : Nat} (h : l.length ≤ i) : scan l (k + 1) i n = (4, 0, 0) := by
  unfold scan; rw [List.getElem?_eq_none h]
theorem scan_bad {l : List UInt8} {k i n : Nat} (h : i < l.length) (hc : (i = 9 ∧ 1 < l[i].toNat) ∨ (0 < i ∧ l[i].toNat = 0)) : scan l (k + 1) i n = (6, 0, 0) := by
  unfold scan; rw [List.getElem?_eq_getElem h]; simp only; rw [if_pos hc]
theorem scan_stop {l : List UInt8} {k i n : Nat} (h : i < l.length) (hc : ¬ ((i = 9 ∧ 1 < l[i].toNat) ∨ (0 < i ∧ l[i].toNat = 0))) (hb : l[i].toNat < 128) : scan l (k + 1) i n = (0, n + l[i].toNat * 128 ^ i, i + 1) := by
  unfold scan; rw [List.getElem?_eq_getElem h]; simp only; rw [if_neg hc, if_pos hb]
theorem scan_go {l : List UInt8} {k i n : Nat} (h : i < l.length) (hc : ¬ ((i = 9 ∧ 1 < l[i].toNat) ∨ (0 < i ∧ l[i].toNat = 0))) (hb : 128 ≤ l[i].toNat) : scan l (k + 1) i n = scan l k (i + 1) (n + (l[i].toNat - 128) * 128 ^ i) := by
  conv => lhs; unfold scan
  rw [List.getElem?_eq_getElem h]; simp only; rw [if_neg hc, if_neg (by omega)]
theorem pow_next {n B i : Nat} (hn : n < 128 ^ i) (hB : B < 256) : n + (B - 128) * 128 ^ i < 128 ^ (i + 1) := by
  obtain ⟨P, hP⟩ : ∃ P, P = 128 ^ i := ⟨_, rfl⟩
  rw [← hP] at hn
  rw [Nat.pow_succ, ← hP]
  have := Nat.mul_le_mul_right P (show B - 128 ≤ 127 by omega)
  omega
theorem pow_fit {n B i : Nat} (hi : i ≤ 9) (hn : n < 128 ^ i) (h9 : i = 9 → B ≤ 1) : n + B % 128 * 128 ^ i < 18446744073709551616 := by
  rcases Nat.lt_or_ge i 9 with h | h
  · have h8 : (128 : Nat) ^ i ≤ 72057594037927936 := by
      have : (128 : Nat) ^ 8 = 72057594037927936 := by decide
      rw [← this]; exact Nat.pow_le_pow_right (by omega) (by omega)
    have := Nat.mul_le_mul (show B % 128 ≤ 127 by omega) h8
    omega
  · have : i = 9 := by omega
    subst this
    have := h9 rfl
    rw [pow128_9] at hn ⊢
    have : B % 128 ≤ 1 := by omega
    omega
/-- the ways of the program's test of a byte, and of the document's -/
theorem cond_num {i B : Nat} {P E : Prop} (hE : ((i = 9 ∧ 1 < B) ∨ (0 < i ∧ B = 0)) → E) (hP : ¬ ((i = 9 ∧ 1 < B) ∨ (0 < i ∧ B = 0)) → P) :
    cond ((i : Int) == 9) (cond (decide ((B : Int) > 1)) E (cond ((B : Int) == 0) (cond (decide ((i : Int) > 0)) E P) P)) (cond ((B : Int) == 0) (cond (decide ((i : Int) > 0)) E P) P) := by
  have zero : ∀ {x : Nat}, ((x : Int) == 0) = true → x = 0 := fun {x} h => by
    have : (x : Int) = 0 := by simpa using h
    omega
  have nz : ∀ {x : Nat}, ((x : Int) == 0) = false → x ≠ 0 := fun {x} h e => by subst e; simp at h
  refine cond_intro (fun h9 => ?_) (fun h9 => ?_)
  · have h9 : i = 9 := by
      have : (i : Int) = 9 := by simpa using h9
      omega
    refine cond_dec (fun hb => hE (.inl ⟨h9, by omega⟩)) (fun hb => cond_intro (fun hz => ?_) (fun hz => hP ?_))
    · have := zero hz
      exact cond_dec (fun h0 => hE (.inr ⟨by omega, this⟩)) (fun h0 => by omega)
    · have := nz hz
      omega
  · have h9 : i ≠ 9 := by
      have : (i : Int) ≠ 9 := by simpa using h9
      omega
    refine cond_intro (fun hz => ?_) (fun hz => hP ?_)
    · have := zero hz
      exact cond_dec (fun h0 => hE (.inr ⟨by omega, this⟩)) (fun h0 => hP (by omega))
    · have := nz hz
      omega
/-- a part of a text -/
theorem strv_cut {s : List UInt8} {a n : Nat} (h : a + n ≤ s.length) : strv s (some (.int .i64 (a : Int))) (some (.int .i64 ((a + n : Nat) : Int))) = some (.string ⟨⟨(s.drop a).take n⟩⟩) := by
  unfold strv
  rw [show boundOf s.length (some (.int .i64 ((a + n : Nat) : Int))) (some s.length) = some (a + n) from by
    simp only [boundOf]
    rw [if_pos (by constructor <;> omega)]; rfl]
  simp only
  rw [show boundOf (a + n) (some (.int .i64 (a : Int))) (some 0) = some a from by
    simp only [boundOf]
    rw [if_pos (by constructor <;> omega)]; rfl]
  simp only
  rw [show a + n - a = n from by omega]
end Go.Ev
namespace Go.Proofs.Cx
open Go Go.Ev

section
variable {H : AH} {b : Nat} {s : List UInt8} {p : Nat} {e : Int}
theorem xnum_vc {Q : Value → AH → Prop} (ok : Ok H) (h : Rd H b s p e) (hp : p ≤ s.length) (hs : s.length ≤ 4611686018427387904)
    (hQ : ∀ H', Rd H' b s (rNum s (p, e)).2.1 (rNum s (p, e)).2.2 → Mod (· = b) H H' → Q (.int .u64 ((rNum s (p, e)).1 : Int)) H') :
    FW Ee F_wire_Reader_Number [.pointer (some ⟨b, 0, none⟩)] H Q := by
  refine fw_wire_Reader_Number ?_
  refine (rerr_ok h).mono ?_
  rintro _ _ ⟨rfl, rfl⟩
  refine ⟨_, rfl, cond_intro (fun he => ?_) (fun he => ?_)⟩
  · have he : e ≠ 0 := by simpa using he
    rw [rNum_err he] at hQ
    exact hQ H h (.refl ok)
  have he : e = 0 := by simpa using he
  subst he
  have bad : ∀ e' : Nat, e' ≠ 0 → scan (s.drop p) 10 0 0 = (e', 0, 0) → ∃ H', storeCellsv H b 2 [.int .i64 (e' : Int)] = some H' ∧ Q (.int .u64 0) H' := by
    intro e' he' hno
    obtain ⟨H', h1, h2, h3⟩ := h.err ok (e' : Int)
    rw [rNum_bad hno he'] at hQ
    exact ⟨H', h1, hQ H' h2 h3⟩
  have hc0 : H.cell b 0 = some (.string ⟨⟨s⟩⟩) := cell_of h rfl
  have hc1 : H.cell b 1 = some (.int .i64 (p : Int)) := cell_of h rfl
  refine ⟨fun m _ n3 t9 Hx => H = Hx ∧ ∃ i n : Nat, t9 = i ∧ n3 = n ∧ i ≤ 9 ∧ m = 10 - i ∧ n < 128 ^ i ∧ scan (s.drop p) 10 0 0 = scan (s.drop p) (10 - i) i n, ⟨_, rfl, 0, 0, rfl, rfl, by omega, rfl, by simp, rfl⟩, ?_⟩
  rintro m t2 n3 t9 Hx ⟨rfl, i, n, rfl, rfl, hi, rfl, hlt, hsc⟩
  rw [show 10 - i = 9 - i + 1 from by omega] at hsc
  refine cond_dec (fun _ => ?_) (fun hge => by omega)
  have hlen := List.length_drop (i := p) (l := s)
  refine ⟨p, hc1, ?_⟩
  intro t17 e17
  rw [wrap_i64 (by omega) (by omega)] at e17
  subst e17
  refine ⟨s, hc0, cond_dec (fun hcut => ?_) (fun hin => ?_)⟩
  · exact bad 4 (by omega) (hsc.trans (scan_cut (by omega)))
  have hil : i < (s.drop p).length := by omega
  refine ⟨s, hc0, p, hc1, ?_⟩
  intro t36 e36
  rw [wrap_i64 (by omega) (by omega)] at e36
  subst e36
  refine ⟨by omega, by omega, ?_⟩
  obtain ⟨B, hB⟩ : ∃ B : Nat, B = ((s.drop p)[i]).toNat := ⟨_, rfl⟩
  have hB256 : B < 256 := by rw [hB]; exact UInt8.toNat_lt _
  have hbyte : byteAt s ((p : Int) + (i : Int)) = (B : Int) := by rw [byteAt_drop hil, hB]
  rw [hbyte]
  refine cond_num (fun hbad => bad 6 (by omega) (hsc.trans (scan_bad hil (by rw [← hB]; exact hbad)))) (fun hgood => ?_)
  have h9 : i = 9 → B ≤ 1 := fun h => by omega
  have hfit := pow_fit hi hlt h9
  have hpow := pow_le hi
  intro t57 e57 t58 e58 t60 e60
  rw [low7 hB256] at e57
  subst e57
  rw [wrap_u64 (by omega) (by omega)] at e58
  subst e58
  rw [wrap_i64 (by omega) (by omega)] at e60
  subst e60
  refine ⟨by omega, ?_⟩
  intro t61 e61
  rw [shlk hi] at e61
  obtain ⟨X, hX⟩ : ∃ X, X = B % 128 * 128 ^ i := ⟨_, rfl⟩
  rw [← hX] at e61 hfit
  rw [wrap_u64 (by omega) (by omega)] at e61
  subst e61
  intro t62 e62
  rw [ior_u64 (by omega) (by omega), hX, or_add hlt, ← hX] at e62
  subst e62
  intro t64 e64
  rw [high1 hB256] at e64
  refine cond_intro (fun hz => ?_) (fun hnz => ?_)
  · have hlo : B < 128 := by
      by_cases h : B < 128
      · exact h
      · rw [if_neg h] at e64; subst e64; simp at hz
    refine ⟨p, hc1, ?_⟩
    intro t71 e71
    rw [wrap_i64 (by omega) (by omega)] at e71
    subst e71
    intro t72 e72
    rw [wrap_i64 (by omega) (by omega)] at e72
    have e72 : t72 = ((p + (i + 1) : Nat) : Int) := by omega
    subst e72
    obtain ⟨H', q1, q2, q3⟩ := h.set ok (p + (i + 1))
    have hst := hsc.trans (scan_stop hil (by rw [← hB]; exact hgood) (by rw [← hB]; exact hlo))
    rw [← hB] at hst
    rw [rNum_good hst] at hQ
    rw [hX, Nat.mod_eq_of_lt hlo]
    exact ⟨H', q1, hQ H' q2 q3⟩
  · have hhi : 128 ≤ B := by
      by_cases h : B < 128
      · rw [if_pos h] at e64; subst e64; simp at hnz
      · omega
    intro t76 e76
    rw [wrap_i64 (by omega) (by omega)] at e76
    have hi9 : i ≠ 9 := fun e => by have := h9 e; omega
    have hst := hsc.trans (scan_go hil (by rw [← hB]; exact hgood) (by rw [← hB]; exact hhi))
    rw [← hB] at hst
    rw [hX, show B % 128 = B - 128 from by omega]
    exact ⟨10 - (i + 1), by omega, rfl, i + 1, _, by omega, rfl, by omega, rfl, pow_next hlt hB256, by rw [hst, show 9 - i = 10 - (i + 1) from by omega]⟩
end
section
variable {H : AH} {b : Nat} {s : List UInt8} {q : RSt}
theorem xnum_ok (ok : Ok H) (h : Rd H b s q.1 q.2) (hp : AtOk s q) (hs : s.length ≤ 4611686018427387904) :
    FW Ee F_wire_Reader_Number [.pointer (some ⟨b, 0, none⟩)] H fun r H' => r = .int .u64 ((rNum s q).1 : Int) ∧ Rd H' b s (rNum s q).2.1 (rNum s q).2.2 ∧ Mod (· = b) H H' :=
  xnum_vc ok h hp hs fun _ h1 h2 => ⟨rfl, h1, h2⟩
theorem xsig_ok (ok : Ok H) (h : Rd H b s q.1 q.2) (hp : AtOk s q) (hs : s.length ≤ 4611686018427387904) :
    FW Ee F_wire_Reader_Signed [.pointer (some ⟨b, 0, none⟩)] H fun r H' => r = .int .i64 (rSig s q).1 ∧ Rd H' b s (rSig s q).2.1 (rSig s q).2.2 ∧ Mod (· = b) H H' := by
  refine fw_wire_Reader_Signed ?_
  refine (xnum_ok ok h hp hs).mono ?_
  rintro _ H1 ⟨rfl, h1, h2⟩
  refine ⟨_, rfl, (unfold_ok (rNum_ok hp).2).mono ?_⟩
  rintro _ _ ⟨rfl, rfl⟩
  exact ⟨_, rfl, rfl, h1, h2⟩
theorem xcnt_ok (m : Nat) (hm : m ≤ 4611686018427387904) (ok : Ok H) (h : Rd H b s q.1 q.2) (hp : AtOk s q) (hs : s.length ≤ 4611686018427387904) :
    FW Ee F_wire_Reader_Count [.pointer (some ⟨b, 0, none⟩), .int .i64 m] H fun r H' => r = .int .i64 ((rCnt s m q).1 : Int) ∧ Rd H' b s (rCnt s m q).2.1 (rCnt s m q).2.2 ∧ Mod (· = b) H H' := by
  have hn := rNum_ok hp
  refine fw_wire_Reader_Count ?_
  refine (rat_ok h).mono ?_
  rintro _ _ ⟨rfl, rfl⟩
  refine ⟨_, rfl, (xnum_ok ok h hp hs).mono ?_⟩
  rintro _ H1 ⟨rfl, h1, h3⟩
  refine ⟨_, rfl, (rerr_ok h1).mono ?_⟩
  rintro _ _ ⟨rfl, rfl⟩
  refine ⟨_, rfl, cond_intro (fun he => ?_) (fun he => ?_)⟩
  · have he : (rNum s q).2.2 ≠ 0 := by simpa using he
    unfold rCnt
    rw [if_pos he]
    exact ⟨rfl, h1, h3⟩
  · have he : (rNum s q).2.2 = 0 := by simpa using he
    unfold rCnt
    rw [if_neg (by simpa using he)]
    refine cond_dec (fun hneg => by omega) (fun _ => ?_)
    intro t19 e19
    rw [wrap_u64 (by omega) (by omega)] at e19
    subst e19
    refine cond_dec (fun hbig => ?_) (fun hok => ?_)
    · obtain ⟨H6, k1, k2, k3⟩ := h1.set h3.ok q.1
      obtain ⟨H7, l1, l2, l3⟩ := k2.err k3.ok 5
      rw [if_pos (by omega)]
      exact ⟨H6, k1, H7, l1, rfl, l2, (h3.trans k3).trans l3⟩
    · intro t30 e30
      rw [wrap_i64 (by omega) (by omega)] at e30
      subst e30
      rw [if_neg (by omega)]
      exact ⟨rfl, h1, h3⟩
theorem xbytes_ok {n : Nat} (ok : Ok H) (h : Rd H b s q.1 q.2) (he : q.2 = 0) (hn : q.1 + n ≤ s.length) (hs : s.length ≤ 4611686018427387904) :
    FW Ee F_wire_Reader_Bytes [.pointer (some ⟨b, 0, none⟩), .int .i64 n] H fun r H' => r = .string ⟨⟨(s.drop q.1).take n⟩⟩ ∧ Rd H' b s (q.1 + n) 0 ∧ Mod (· = b) H H' := by
  refine fw_wire_Reader_Bytes ?_
  refine (rerr_ok h).mono ?_
  rintro _ _ ⟨rfl, rfl⟩
  refine ⟨_, rfl, cond_neg (by simp [he]) (cond_dec (fun h => by omega) fun _ => ?_)⟩
  refine ⟨s, cell_of h rfl, _, cell_of h rfl, ?_⟩
  intro t25 e25
  rw [wrap_i64 (by omega) (by omega)] at e25
  subst e25
  refine cond_dec (fun h => by omega) fun _ => ?_
  refine ⟨_, cell_of h rfl, ?_⟩
  intro t36 e36
  rw [wrap_i64 (by omega) (by omega)] at e36
  have e36 : t36 = ((q.1 + n : Nat) : Int) := by omega
  subst e36
  obtain ⟨H4, k1, k2, k3⟩ := h.set ok (q.1 + n)
  refine ⟨H4, k1, s, cell_of k2 rfl, _, cell_of k2 rfl, ?_⟩
  intro t48 e48
  rw [wrap_i64 (by omega) (by omega)] at e48
  have e48 : t48 = ((q.1 : Nat) : Int) := by omega
  subst e48
  refine ⟨_, cell_of k2 rfl, _, strv_cut hn, rfl, ?_, k3⟩
  rw [he] at k2
  exact k2
theorem xtxt_ok (ok : Ok H) (h : Rd H b s q.1 q.2) (hp : AtOk s q) (hs : s.length ≤ 4611686018427387904) :
    FW Ee F_wire_Reader_Text [.pointer (some ⟨b, 0, none⟩)] H fun r H' => r = .string ⟨⟨(rTxt s q).1⟩⟩ ∧ Rd H' b s (rTxt s q).2.1 (rTxt s q).2.2 ∧ Mod (· = b) H H' := by
  have hn := rNum_ok hp
  have hat : (rNum s q).2.1 ≤ s.length := hn.1
  refine fw_wire_Reader_Text ?_
  refine (rat_ok h).mono ?_
  rintro _ _ ⟨rfl, rfl⟩
  refine ⟨_, rfl, (xnum_ok ok h hp hs).mono ?_⟩
  rintro _ H1 ⟨rfl, h1, h3⟩
  refine ⟨_, rfl, (rerr_ok h1).mono ?_⟩
  rintro _ _ ⟨rfl, rfl⟩
  refine ⟨_, rfl, cond_intro (fun he => ?_) (fun he => ?_)⟩
  · have he : (rNum s q).2.2 ≠ 0 := by simpa using he
    unfold rTxt
    rw [if_pos he]
    exact ⟨rfl, h1, h3⟩
  · have he : (rNum s q).2.2 = 0 := by simpa using he
    unfold rTxt
    rw [if_neg (by simpa using he)]
    refine (rleft_ok h1 hat hs).mono ?_
    rintro _ _ ⟨rfl, rfl⟩
    refine ⟨_, rfl, ?_⟩
    intro t15 e15
    rw [wrap_u64 (by omega) (by omega)] at e15
    subst e15
    refine cond_dec (fun hbig => ?_) (fun hok => ?_)
    · obtain ⟨H6, k1, k2, k3⟩ := h1.set h3.ok q.1
      obtain ⟨H7, l1, l2, l3⟩ := k2.err k3.ok 4
      rw [if_pos (by omega)]
      exact ⟨H6, k1, H7, l1, rfl, l2, (h3.trans k3).trans l3⟩
    · intro t26 e26
      rw [wrap_i64 (by omega) (by omega)] at e26
      subst e26
      rw [if_neg (by omega)]
      refine (xbytes_ok h3.ok h1 he (by omega) hs).mono ?_
      rintro _ H7 ⟨rfl, h7, m7⟩
      exact ⟨_, rfl, rfl, h7, h3.trans m7⟩
end

/-! the document's -/
theorem two_new {H H1 H2 : AH} {x y : AObj} (ok : Ok H) (e1 : H1 = H.new x) (e2 : H2 = H1.new y) : Grow H H2 ∧ H2.get H.next = some x ∧ H2.get H1.next = some y ∧ H1.next = H.next + 1 ∧ H2.next = H.next + 2 := by
  subst e1
  have g := Grow.new ok x
  subst e2
  have g2 := Grow.new g.ok y
  exact ⟨g.trans g2, g2.get _ _ id (get_new_self _ _), get_new_self _ _, rfl, rfl⟩
section
variable {H : AH} {s : List UInt8} {q : RSt}
end
end Go.Proofs.Cx

namespace Go.Proofs.Cx
open Go Go.Ev

section
variable {H : AH} {s : List UInt8} {q : RSt}
end
end Go.Proofs.Cx

namespace Go.Proofs.Cx
open Go Go.Ev

theorem gcount_ok {F : Nat → Prop} {a : Option Addr} {l c : Nat} {H : AH} {G : List Vtx} (ok : Ok H) (hG : SlV F H a l G) (hF : ∀ b, F b → b < H.next) (hf : Fit G) (hn : nE G ≤ 4611686018427387904) :
    FW Ee F_graph_Edges [.agg ⟨[.slice a l c]⟩] H fun r H' => r = .int .i64 (nE G : Int) ∧ Grow H H' := by
  have hlen := hG.len
  have hfn := hf.n
  refine fw_graph_Edges ?_
  intro H1 e1
  have g1 : Grow H H1 := e1 ▸ Grow.new ok _
  have b1 : H1.get H.next = some (.cells [.slice a l c] 0) := e1 ▸ get_new_self _ _
  have n1 : H1.next = H.next + 1 := by rw [e1]; rfl
  intro H2 e2
  obtain ⟨H3, e3, b3, g3, n3⟩ := fresh_store (vs := [.int .i64 0]) e2 rfl rfl g1.ok
  refine ⟨H3, e3, a, l, c, cell_of (g3.get _ _ id b1) rfl, (all_ok g3.ok).mono ?_⟩
  rintro _ H4 ⟨rfl, b4, g4⟩
  have n4 := g4.next
  refine ⟨_, rfl, ?_⟩
  intro L hL hst hpd
  have g5 : Grow H4 (H4.new (.loop L)) := Grow.new g4.ok _
  have g35 := g4.trans g5
  have gall := (g1.trans g3).trans g35
  have n5 : (H4.new (.loop L)).next = H4.next + 1 := rfl
  let S : Nat → Prop := fun b => b = H1.next ∨ b = H4.next
  refine (all1_ok (F := F) (S := S) (R := fun done Hx => Hx.get H4.next = some (.loop L) ∧ Hx.get H1.next = some (.cells [.int .i64 (done.length : Int)] 0)) g5.ok (a := a) (l := l) (c := c) (G := G) (hG.grow loc_vtx gall) (by omega) hf.e (cell_of (g5.get _ _ id b4) rfl) ?_ ?_ ?_ ?_).mono ?_
  · intro b hb
    rcases hb with rfl | rfl
    · exact ⟨by omega, fun h => by have := hF _ h; omega⟩
    · exact ⟨by omega, fun h => by have := hF _ h; omega⟩
  · exact ⟨get_new_self _ _, g35.get _ _ id b3⟩
  · rintro done Ha Hb ⟨r1, r2⟩ g
    exact ⟨g.get _ _ id r1, g.get _ _ id r2⟩
  · rintro done x rest Hx hsp ⟨r1, r2⟩ okx mx
    have hlenE := flatE_len G
    have hlt : done.length < nE G := by rw [← hlenE, hsp]; simp
    refine rw_graph_Edges_r0 r1 hL ?_
    have mw := Mod.set okx r1 (.loop { L with st := .busy })
    have w2 := mw.get _ _ (show ¬ H1.next = H4.next by omega) r2
    have lw := get_set_self Hx H4.next (.loop { L with st := .busy })
    refine ⟨L, r1, hst, hL.body, _, cell_of w2 rfl, ?_⟩
    intro t9 e9
    rw [wrap_i64 (by omega) (by omega)] at e9
    subst e9
    have m1 := Mod.set mw.ok w2 (.cells (lset [.int .i64 (done.length : Int)] 0 [.int .i64 ((done.length : Int) + 1)]) 0)
    have l1 := m1.get _ _ (show ¬ H4.next = H1.next by omega) lw
    have m3 := Mod.set m1.ok l1 (.loop L)
    have hLr : ({ L with st := LoopState.ready, pend := none } : ALoop) = L := by
      cases L; simp only at hst hpd; subst hst hpd; rfl
    refine ⟨_, store_of (o := 0) w2 (by simp) rfl, _, l1, rfl, ?_, ?_⟩
    · simp only [hLr]
      refine ⟨get_set_self _ _ _, ?_⟩
      refine Eq.trans (m3.get H1.next _ (by omega) (get_set_self _ _ _)) ?_
      simp [lset]
    · simp only [hLr]
      have q : ∀ {S' : Nat → Prop} {Ha Hb : AH}, Ok Ha → Mod S' Ha Hb → (∀ b, S' b → S b) → Mod S Ha Hb := fun ok h k => h.le (fun b hb _ => k b hb) ok
      exact (q okx mw (fun b h => .inr h)).trans ((q mw.ok m1 (fun b h => .inl h)).trans (q m1.ok m3 (fun b h => .inr h)))
  · rintro _ H6 ⟨⟨r1, r2⟩, m6⟩
    have m7 := Mod.set m6.ok r1 (.loop { L with st := .exhausted, pend := none })
    refine ⟨L, r1, by rw [hst]; simp, ?_⟩
    simp only [hpd]
    have r3 := m7.get _ _ (show ¬ H1.next = H4.next by omega) r2
    rw [flatE_len] at r3
    refine ⟨_, cell_of r3 rfl, rfl, (gall.ext m6 ok fun b hb => .inr ?_).ext m7 ok fun b hb => .inr (by omega)⟩
    rcases hb with rfl | rfl <;> omega

/-- the edges of a vertex may be -/
def EsOk (G : List Vtx) (es : List (Int × Int)) : Prop := ∀ k (hk : k < es.length), isIn G es[k].1 = true ∧ ∀ (_ : 0 < k), (es[k - 1]'(by omega)).1 < es[k].1
theorem gedges_ok {F : Nat → Prop} {a ea : Option Addr} {l c el ec : Nat} {vid val : Int} {H : AH} {G : List Vtx} {es : List (Int × Int)} (ok : Ok H) (hG : SlV F H a l G) (hl : l ≤ 4611686018427387904) (hE : SlE F H ea el es) (hel : el ≤ 4611686018427387904) (hr : Rising G) :
    FW Ee F_graph_edges [.agg ⟨[.slice a l c]⟩, .agg ⟨[.int .i64 vid, .int .i64 val, .slice ea el ec]⟩] H fun r H' => ∃ bb : Bool, r = .bool bb ∧ (bb = true → EsOk G es) ∧ (bb = false → ¬ EsOk G es) ∧ Grow H H' := by
  have hlen := hE.len
  refine fw_graph_edges ?_
  intro H1 e1 H2 e2
  obtain ⟨g2, b2, v2, n1, n2⟩ := two_new ok e1 e2
  refine ⟨_, _, _, cell_of v2 rfl, ?_⟩
  refine ⟨fun n _ i Hx => ∃ p : Nat, i = p ∧ p ≤ el ∧ n = el - p ∧ Grow H2 Hx ∧ ∀ k (hk : k < es.length), k < p → isIn G es[k].1 = true ∧ ∀ (_ : 0 < k), (es[k - 1]'(by omega)).1 < es[k].1, ⟨_, 0, rfl, by omega, rfl, .refl g2.ok, fun k _ h => by omega⟩, ?_⟩
  rintro n t4 i H3 ⟨p, rfl, hp, rfl, g3, hpre⟩
  have gg := g2.trans g3
  refine cond_dec (fun hlt => ?_) (fun hge => ?_)
  · have hk : p < es.length := by omega
    obtain ⟨hs, c1, c2⟩ := (hE.grow loc_edge gg).nth hk
    refine grd_intro hs ⟨by omega, by omega, _, _, c1, c2, ?_⟩
    intro H4 e4
    obtain ⟨H5, e5, b5, g5, n5⟩ := fresh_store (vs := [.int .i64 es[p].1, .int .i64 es[p].2]) e4 rfl rfl gg.ok
    have gb := (g3.trans g5).get _ _ id b2
    have gv := (g3.trans g5).get _ _ id v2
    refine ⟨H5, e5, _, _, _, cell_of gb rfl, _, cell_of b5 rfl, (gfind_ok g5.ok ((hG.grow loc_vtx gg).grow loc_vtx g5) hl hr).mono ?_⟩
    rintro _ H6 ⟨rfl, g6⟩
    have g36 := g5.trans g6
    refine ⟨_, _, rfl, cond_intro (fun hno => ⟨false, rfl, fun h => (by cases h), fun _ h => ?_, gg.trans g36⟩) (fun hin => ?_)⟩
    · have := (h p hk).1
      rw [this] at hno; cases hno
    have hin : isIn G es[p].1 = true := by simpa using hin
    have next : (∀ (_ : 0 < p), (es[p - 1]'(by omega)).1 < es[p].1) → ∀ (t42 : Int), t42 = IntKind.i64.wrap ((p : Int) + 1) → ∃ m, m < el - p ∧ ∃ p' : Nat, t42 = p' ∧ p' ≤ el ∧ m = el - p' ∧ Grow H2 H6 ∧ ∀ k (hk : k < es.length), k < p' → isIn G es[k].1 = true ∧ ∀ (_ : 0 < k), (es[k - 1]'(by omega)).1 < es[k].1 := by
      intro h t42 e42
      rw [wrap_i64 (by omega) (by omega)] at e42
      subst e42
      refine ⟨el - (p + 1), by omega, p + 1, by simp, by omega, rfl, g3.trans g36, fun k hk2 hkp => ?_⟩
      rcases Nat.lt_or_ge k p with h3 | h3
      · exact hpre k hk2 h3
      · have : k = p := by omega
        subst this; exact ⟨hin, h⟩
    refine cond_dec (fun h0 => ?_) (fun h0 => next fun h => by omega)
    refine ⟨_, _, _, cell_of (g6.get _ _ id gv) rfl, ?_⟩
    intro t33 e33
    rw [wrap_i64 (by omega) (by omega)] at e33
    subst e33
    have hjj : ((p : Int) - 1).toNat = p - 1 := by omega
    obtain ⟨_, d1, _⟩ := ((hE.grow loc_edge gg).grow loc_edge g36).nth (k := p - 1) (by omega)
    refine grd_intro hs ⟨by omega, by omega, _, by rw [hjj]; exact d1, _, cell_of (g6.get _ _ id b5) rfl, cond_dec (fun h1 => ⟨false, rfl, fun h => (by cases h), fun _ h => ?_, gg.trans g36⟩) (fun h1 => next fun _ => by omega)⟩
    have := (h p hk).2 (by omega)
    omega
  · exact ⟨true, rfl, fun _ k hk => hpre k hk (by omega), fun h => (by cases h), gg⟩

theorem gcheck_ok {F : Nat → Prop} {a : Option Addr} {l c : Nat} {H : AH} {G : List Vtx} (ok : Ok H) (hG : SlV F H a l G) (hF : ∀ b, F b → b < H.next) (hf : Fit G) :
    FW Ee F_graph_Check [.agg ⟨[.slice a l c]⟩] H fun r H' => r = .int .i64 (chk G) ∧ Grow H H' := by
  have hlen := hG.len
  have hfn := hf.n
  refine fw_graph_Check ?_
  intro H1 e1
  have g1 : Grow H H1 := e1 ▸ Grow.new ok _
  have b1 : H1.get H.next = some (.cells [.slice a l c] 0) := e1 ▸ get_new_self _ _
  have n1 : H1.next = H.next + 1 := by rw [e1]; rfl
  refine ⟨_, _, _, cell_of b1 rfl, cond_dec (fun h => ⟨by rw [chk, if_pos (.inl (by omega))], g1⟩) (fun h256 => ?_)⟩
  refine ⟨_, _, _, cell_of b1 rfl, ?_⟩
  refine ⟨fun n _ i Hx => ∃ p : Nat, i = p ∧ p ≤ l ∧ n = l - p ∧ Grow H1 Hx ∧ ∀ k (h : k + 1 < G.length), k + 1 < p → G[k].id < G[k + 1].id, ⟨_, 0, rfl, by omega, rfl, .refl g1.ok, fun k _ h => by omega⟩, ?_⟩
  rintro n t2 i H2 ⟨p, rfl, hp, rfl, g2, hst⟩
  have b2 := g2.get _ _ id b1
  have gg := g1.trans g2
  have G2 := hG.grow loc_vtx gg
  refine cond_dec (fun hlt => ?_) (fun hge => ?_)
  · have hk : p < G.length := by omega
    obtain ⟨hs, c1, c2, ea, el, ec, c3, c4⟩ := G2.nth hk
    refine grd_intro hs ⟨by omega, by omega, _, _, ea, el, ec, c1, c2, c3, ?_⟩
    intro H3 e3
    obtain ⟨H4, e4, b4, g4, n4⟩ := fresh_store (vs := [.int .i64 G[p].id, .int .i64 G[p].val, .slice ea el ec]) e3 rfl rfl gg.ok
    have next : (∀ (_ : 0 < p), (G[p - 1]'(by omega)).id < G[p].id) → ∀ (t33 : Int), t33 = IntKind.i64.wrap ((p : Int) + 1) → ∃ m, m < l - p ∧ ∃ p' : Nat, t33 = p' ∧ p' ≤ l ∧ m = l - p' ∧ Grow H1 H4 ∧ ∀ k (h : k + 1 < G.length), k + 1 < p' → G[k].id < G[k + 1].id := by
      intro h t e
      rw [wrap_i64 (by omega) (by omega)] at e
      subst e
      refine ⟨l - (p + 1), by omega, p + 1, by simp, by omega, rfl, g2.trans g4, fun k hk2 hkp => ?_⟩
      rcases Nat.lt_or_ge (k + 1) p with h3 | h3
      · exact hst k hk2 h3
      · have e : p = k + 1 := by omega
        subst e
        exact h (by omega)
    refine ⟨H4, e4, cond_dec (fun h0 => ?_) (fun h0 => next fun h => by omega)⟩
    refine ⟨_, _, _, cell_of (g4.get _ _ id b2) rfl, ?_⟩
    intro t25 e25
    rw [wrap_i64 (by omega) (by omega)] at e25
    subst e25
    have hpp : ((p : Int) - 1).toNat = p - 1 := by omega
    obtain ⟨_, d1, _⟩ := (G2.grow loc_vtx g4).nth (k := p - 1) (by omega)
    refine grd_intro hs ⟨by omega, by omega, _, by rw [hpp]; exact d1, _, cell_of b4 rfl, cond_dec (fun h1 => ⟨?_, gg.trans g4⟩) (fun h1 => next fun _ => by omega)⟩
    have hbad : ¬ Steps1 G := by
      intro h2
      have hp' : p - 1 + 1 = p := by omega
      have := h2 (p - 1) (by omega)
      simp only [hp'] at this
      omega
    rw [chk, if_pos (.inr hbad)]
  · have hsteps : Steps1 G := fun k hk => hst k hk (by omega)
    have hnb := nE_bound hf.e
    have hn1 : nE G ≤ 4611686018427387904 := by
      have : G.length * 140737488355328 ≤ 256 * 140737488355328 := Nat.mul_le_mul_right _ (by omega)
      omega
    refine ⟨_, _, _, cell_of b2 rfl, (gcount_ok g2.ok G2 (fun b hb => by have := hF b hb; have := gg.next; omega) hf hn1).mono ?_⟩
    rintro _ H5 ⟨rfl, g5⟩
    have b5 := g5.get _ _ id b2
    refine ⟨_, rfl, cond_dec (fun h1 => ⟨?_, gg.trans g5⟩) (fun h2048 => ?_)⟩
    · rw [chk, if_neg, if_pos (.inl (by omega))]
      simp only [not_or, Classical.not_not]; exact ⟨by omega, hsteps⟩
    have bad : ∀ {i : Nat} (hi : i < G.length), ¬ EsOk G G[i].edges → chk G = 31 := by
      intro i hi hb
      have h2 : ¬ EdgesOk G := fun h => hb fun k hk => by
        have := h i k hi hk
        exact ⟨this.1, fun h0 => this.2 h0⟩
      rw [chk, if_neg, if_pos (.inr h2)]
      · simp only [not_or, Classical.not_not]; exact ⟨by omega, hsteps⟩
    refine ⟨_, _, _, cell_of b5 rfl, ?_⟩
    have gg5 := gg.trans g5
    refine ⟨fun n _ i Hx => ∃ p : Nat, i = p ∧ p ≤ l ∧ n = l - p ∧ Grow H5 Hx ∧ ∀ k (h : k < G.length), k < p → EsOk G G[k].edges, ⟨_, 0, rfl, by omega, rfl, .refl g5.ok, fun k _ h => by omega⟩, ?_⟩
    rintro n t2 i H6 ⟨q, rfl, hq, rfl, g6, hes⟩
    have gg6 := gg5.trans g6
    have b6 := g6.get _ _ id b5
    have G6 := hG.grow loc_vtx gg6
    refine cond_dec (fun hlt => ?_) (fun hge2 => ?_)
    · have hk : q < G.length := by omega
      obtain ⟨hs, c1, c2, ea, el, ec, c3, c4⟩ := G6.nth hk
      have hel := c4.len
      have hfe := hf.at hk
      refine grd_intro hs ⟨by omega, by omega, _, _, ea, el, ec, c1, c2, c3, ?_⟩
      intro H7 e7
      obtain ⟨H8, e8, b8, g8, n8⟩ := fresh_store (vs := [.int .i64 G[q].id, .int .i64 G[q].val, .slice ea el ec]) e7 rfl rfl gg6.ok
      refine ⟨H8, e8, _, _, _, cell_of (g8.get _ _ id b6) rfl, _, _, _, _, _, cell_of b8 rfl, cell_of b8 rfl, cell_of b8 rfl, (gedges_ok g8.ok (G6.grow loc_vtx g8) (by omega) (c4.grow loc_edge g8) (by omega) hsteps.rising).mono ?_⟩
      rintro _ H9 ⟨bb, rfl, k1, k2, g9⟩
      refine ⟨_, rfl, cond_intro (fun hb => ⟨by rw [bad hk (k2 (by simpa using hb))], (gg6.trans g8).trans g9⟩) (fun hb => ?_)⟩
      have hgood := k1 (by simpa using hb)
      intro t48 e48
      rw [wrap_i64 (by omega) (by omega)] at e48
      subst e48
      refine ⟨l - (q + 1), by omega, q + 1, by simp, by omega, rfl, (g6.trans g8).trans g9, fun k hk2 hkq => ?_⟩
      rcases Nat.lt_or_ge k q with h3 | h3
      · exact hes k hk2 h3
      · have : k = q := by omega
        subst this; exact hgood
    · refine ⟨?_, gg6⟩
      rw [chk, if_neg, if_neg]
      · simp only [not_or, Classical.not_not]
        exact ⟨by omega, fun i k hi hk => ⟨(hes i hi (by omega) k hk).1, fun h0 => (hes i hi (by omega) k hk).2 h0⟩⟩
      · simp only [not_or, Classical.not_not]; exact ⟨by omega, hsteps⟩
end Go.Proofs.Cx

namespace Go.Ev
open Go
/-- a writer's doing: what it changed, and what it owns now -/
structure WrX (H : AH) (b : Nat) (H' : AH) : Prop where
  mod : Mod (WrS H b) H H'
  old : ∀ x, WrS H' b x → WrS H b x ∨ H.next ≤ x
theorem WrX.trans {H H1 H2 : AH} {b : Nat} (ok : Ok H) (h : WrX H b H1) (k : WrX H1 b H2) : WrX H b H2 := by
  refine ⟨h.mod.ext k.mod ok fun x hx => h.old x hx, fun x hx => ?_⟩
  rcases k.old x hx with h1 | h1
  · exact h.old x h1
  · have := h.mod.next
    right; omega
theorem WrX.grow {H H' : AH} {n0 b : Nat} {bs : List UInt8} (ok : Ok H) (hw : Wr H n0 b bs) (g : Grow H H') : WrX H b H' := ⟨g.le (fun _ h _ => h.elim) ok, fun _ hx => .inl (hw.old g hx)⟩
theorem WrX.off {H H' : AH} {b x : Nat} (h : WrX H b H') (hx : ¬ WrS H b x) (hl : x < H.next) : ¬ WrS H' b x := fun k => by
  rcases h.old x k with h1 | h1
  · exact hx h1
  · omega
theorem WrX.keep {F : Nat → Prop} {H H' : AH} {b : Nat} (h : WrX H b H') (hF : ∀ x, F x → x < H.next ∧ ¬ WrS H b x) : ∀ x, F x → x < H'.next ∧ ¬ WrS H' b x := fun x hx => by
  obtain ⟨h1, h2⟩ := hF x hx
  have := h.mod.next
  exact ⟨by omega, h.off h2 h1⟩
/-- what is new is not the writer's -/
theorem Wr.new {H H' : AH} {n0 b x : Nat} {bs : List UInt8} (ok : Ok H) (hw : Wr H n0 b bs) (g : Grow H H') (hx : H.next ≤ x) : ¬ WrS H' b x := fun k => by
  have := hw.lt ok (hw.old g k)
  omega
theorem pairsB_take {es : List (Int × Int)} (h : ∀ e ∈ es, PairI e) (p : Nat) : ((es.take p).flatMap pairB).length ≤ es.length * 20 := by
  have : ∀ es : List (Int × Int), (∀ e ∈ es, PairI e) → (es.flatMap pairB).length ≤ es.length * 20 := by
    intro es
    induction es with
    | nil => simp
    | cons e es ih =>
      intro h
      have h1 := ih fun x hx => h x (List.mem_cons_of_mem _ hx)
      have h2 := enc_len64 (fold_lt (h e List.mem_cons_self).1)
      have h3 := enc_len64 (fold_lt (h e List.mem_cons_self).2)
      rw [List.flatMap_cons, List.length_append, List.length_cons]
      have : (pairB e).length ≤ 20 := by rw [pairB, List.length_append]; unfold sgB; omega
      omega
  have := this (es.take p) fun e he => h e (List.mem_of_mem_take he)
  rw [List.length_take] at this
  omega
theorem take_flat {α β : Type} {f : α → List β} {l : List α} {p : Nat} (h : p < l.length) : (l.take (p + 1)).flatMap f = (l.take p).flatMap f ++ f l[p] := by
  rw [List.take_succ_eq_append_getElem h, List.flatMap_append, List.flatMap_singleton]
end Go.Ev
namespace Go.Proofs.Cx
open Go Go.Ev
section
variable {H : AH} {n0 b : Nat} {bs : List UInt8}
theorem yw_bytes {s : List UInt8} (ok : Ok H) (h : Wr H n0 b bs) (hs : bs.length + s.length ≤ 140737488355328) :
    FW Ee F_wire_Writer_Bytes [.pointer (some ⟨b, 0, none⟩), .string ⟨⟨s⟩⟩] H fun r H' => r = .tuple ⟨[]⟩ ∧ Wr H' n0 b (bs ++ s) ∧ WrX H b H' := by
  obtain ⟨h0, a, l, c, h1, h2, h3⟩ := h
  have hbl := ok.lt h1
  refine fw_wire_Writer_Bytes ?_
  obtain ⟨a', l', c', H1, k1, k2, k3, k4⟩ := own_bytes ok h2 hs
  have b1 := k4.get b _ (fun hb => hb fun x ex => (h3 x ex).2) h1
  refine ⟨a, l, c, cell_of h1 rfl, a', l', c', H1, k1, _, store_of (o := 0) b1 (by simp) rfl, rfl, ⟨h0, a', l', c', get_set_self _ _ _, k2.mod (Mod.set k4.ok b1 _) ?_, ?_⟩, ⟨?_, ?_⟩⟩
  · intro x hx y ey
    subst hx
    rcases k3 with rfl | rfl
    · exact (h3 y ey).2
    · cases ey; simp only; omega
  · intro y ey
    rcases k3 with rfl | rfl
    · exact h3 y ey
    · cases ey; simp only; omega
  · exact (k4.le (fun x hx _ => .inr ⟨a, l, c, h1, hx⟩) ok).trans ((Mod.set k4.ok b1 _).le (fun x hx _ => .inl hx) k4.ok)
  · rintro x (rfl | ⟨a2, l2, c2, e, ho⟩)
    · exact .inl (.inl rfl)
    · rw [get_set_self] at e
      cases e
      rcases k3 with rfl | rfl
      · exact .inl (.inr ⟨_, _, _, h1, ho⟩)
      · obtain ⟨y, ey, rfl⟩ := off_not ho
        cases ey
        exact .inr (Nat.le_refl _)
theorem yw_number {n : Nat} (ok : Ok H) (h : Wr H n0 b bs) (hn : n < 18446744073709551616) (hs : bs.length ≤ 140737488355000) :
    FW Ee F_wire_Writer_Number [.pointer (some ⟨b, 0, none⟩), .int .u64 n] H fun r H' => r = .tuple ⟨[]⟩ ∧ Wr H' n0 b (bs ++ enc n) ∧ WrX H b H' := by
  have h10 := enc_len64 hn
  refine fw_wire_Writer_Number ?_
  refine (number_ok ok hn).mono ?_
  rintro _ H1 ⟨rfl, g1⟩
  refine ⟨_, rfl, (yw_bytes g1.ok (h.grow g1) (by omega)).mono ?_⟩
  rintro _ H2 ⟨rfl, h2, m2⟩
  exact ⟨rfl, rfl, h2, (WrX.grow ok h g1).trans ok m2⟩
theorem yw_signed {x : Int} (ok : Ok H) (h : Wr H n0 b bs) (hx : I64 x) (hs : bs.length ≤ 140737488355000) :
    FW Ee F_wire_Writer_Signed [.pointer (some ⟨b, 0, none⟩), .int .i64 x] H fun r H' => r = .tuple ⟨[]⟩ ∧ Wr H' n0 b (bs ++ sgB x) ∧ WrX H b H' := by
  refine fw_wire_Writer_Signed ?_
  refine (fold_ok hx).mono ?_
  rintro _ _ ⟨rfl, rfl⟩
  refine ⟨_, rfl, (yw_number ok h (fold_lt hx) hs).mono ?_⟩
  rintro _ H2 ⟨rfl, h2⟩
  exact ⟨rfl, rfl, h2⟩
theorem yw_count {n : Nat} (ok : Ok H) (h : Wr H n0 b bs) (hn : n < 9223372036854775808) (hs : bs.length ≤ 140737488355000) :
    FW Ee F_wire_Writer_Count [.pointer (some ⟨b, 0, none⟩), .int .i64 n] H fun r H' => r = .tuple ⟨[]⟩ ∧ Wr H' n0 b (bs ++ enc n) ∧ WrX H b H' := by
  refine fw_wire_Writer_Count ?_
  intro t7 e7
  rw [if_neg (by omega), wrap_u64 (by omega) (by omega)] at e7
  subst e7
  refine (yw_number ok h (by omega) hs).mono ?_
  rintro _ H2 ⟨rfl, h2⟩
  exact ⟨rfl, rfl, h2⟩
theorem yw_text {x : List UInt8} (ok : Ok H) (h : Wr H n0 b bs) (hs : bs.length + x.length ≤ 140737488354000) :
    FW Ee F_wire_Writer_Text [.pointer (some ⟨b, 0, none⟩), .string ⟨⟨x⟩⟩] H fun r H' => r = .tuple ⟨[]⟩ ∧ Wr H' n0 b (bs ++ txtB x) ∧ WrX H b H' := by
  refine fw_wire_Writer_Text ?_
  intro t7 e7
  rw [wrap_u64 (by omega) (by omega)] at e7
  subst e7
  have l1 := enc_len64 (show x.length < 18446744073709551616 by omega)
  refine (yw_number ok h (by omega) (by omega)).mono ?_
  rintro _ H1 ⟨rfl, h1, m1⟩
  refine ⟨rfl, (yw_bytes m1.mod.ok h1 (by rw [List.length_append]; omega)).mono ?_⟩
  rintro _ H2 ⟨rfl, h2, m2⟩
  exact ⟨rfl, rfl, by rw [txtB, ← List.append_assoc]; exact h2, m1.trans ok m2⟩
end

/-! as the document has them -/
end Go.Proofs.Cx

namespace Go.Ev
open Go
theorem Sl.weak {α : Type} {F F' : Nat → Prop} {H : AH} {sz : Nat} {P : AH → Nat → Nat → α → Prop} {a : Option Addr} {l : Nat} {xs : List α} (h : Sl F H sz P a l xs) (k : ∀ b, F b → b < H.next → F' b) (hc : ∀ b o x, P H b o x → b < H.next) : Sl F' H sz P a l xs :=
  ⟨h.len, fun hp => ⟨(h.base hp).1, k _ (h.base hp).2 (hc _ _ _ (h.cells 0 (by have := h.len; omega)))⟩, h.cells⟩
theorem GraphI.fit {G : List Vtx} (h : GraphI G) : Fit G := by
  refine ⟨by have := h.len; omega, fun v hv => ?_⟩
  have := (h.each v hv).len
  omega
theorem rMany_stop {α : Type} {one : RSt → α × RSt} {n : Nat} {q : RSt} (h : q.2 ≠ 0 ∨ n = 0) : rMany one n q = ([], q) := by
  cases n with
  | zero => rfl
  | succ n =>
    unfold rMany
    rcases h with h | h
    · rw [if_pos h]
    · omega
theorem rMany_go {α : Type} {one : RSt → α × RSt} {n : Nat} {q : RSt} (h : q.2 = 0) : rMany one (n + 1) q = ((one q).1 :: (rMany one n (one q).2).1, (rMany one n (one q).2).2) := by
  conv => lhs; unfold rMany
  rw [if_neg (by simpa using h)]
end Go.Ev
namespace Go.Proofs.Cx
open Go Go.Ev

abbrev vC (v : Vtx) (a : Option Addr) (l c : Nat) : List Value := [.int .i64 v.id, .int .i64 v.val, .slice a l c]
theorem vtxs_sl {F : Nat → Prop} {H : AH} {oa : Option Addr} {ol oc : Nat} {ps : List (Vtx × Option Addr × Nat × Nat)} (ho : Own H 3 oa ol oc (ps.flatMap vtxC)) (hF : ∀ x, oa = some x → F x.block) (he : ∀ q ∈ ps, SlE F H q.2.1 q.2.2.1 q.1.edges) : SlV F H oa ol (ps.map (·.1)) := by
  have hsl : Sl F H 3 (fun H' b o (q : Vtx × Option Addr × Nat × Nat) => PVtx F H' b o q.1) oa ol ps :=
    ho.sl (fun _ => rfl) (by decide) hF fun b o i hi k => ⟨k 0 _ rfl, k 1 _ rfl, _, _, _, k 2 _ rfl, he _ (List.getElem_mem hi)⟩
  exact hsl.map (P := PVtx F) (fun q : Vtx × Option Addr × Nat × Nat => q.1)
theorem vtxs_len {H : AH} {oa : Option Addr} {ol oc : Nat} {ps : List (Vtx × Option Addr × Nat × Nat)} (ho : Own H 3 oa ol oc (ps.flatMap vtxC)) : ol = ps.length := by
  have := ho.len
  rw [flatMap_len (sz := 3) (fun _ => rfl)] at this
  omega
theorem edge_lt {H : AH} (ok : Ok H) (b o : Nat) (x : Int × Int) (h : PEdge H b o x) : b < H.next := cell_lt ok h.1
/-- one vertex more -/
theorem vtxs_push {N : Nat} {H6 H7 : AH} {oa ea : Option Addr} {ol oc el ec : Nat} {ps : List (Vtx × Option Addr × Nat × Nat)} {v : Vtx} (ok : Ok H6) (ho : Own H6 3 oa ol oc (ps.flatMap vtxC)) (_ : N ≤ H6.next)
    (he : ∀ q ∈ ps, SlE (fun b => N ≤ b ∧ b < H6.next ∧ Off oa b) H6 q.2.1 q.2.2.1 q.1.edges) (hE : SlE (fun b => N ≤ b ∧ b < H6.next ∧ Off oa b) H6 ea el v.edges) (e7 : H7 = H6.new (.cells (vC v ea el ec) 0)) (hl : ps.length ≤ 256) :
    ∃ H8, apnd H7 3 40 oa ol oc (.slice (some ⟨H6.next, 0, none⟩) 1 2) = some (.slice (some ⟨H7.next, 0, none⟩) (ol + 1) (2 * (ol + 1) + 1), H8) ∧ Own H8 3 (some ⟨H7.next, 0, none⟩) (ol + 1) (2 * (ol + 1) + 1) ((ps ++ [(v, ea, el, ec)]).flatMap vtxC) ∧
      H8.next = H6.next + 2 ∧ Mod (fun b => ¬ Off oa b) H7 H8 ∧ ∀ q ∈ ps ++ [(v, ea, el, ec)], SlE (fun b => N ≤ b ∧ b < H8.next ∧ Off (some ⟨H7.next, 0, none⟩) b) H8 q.2.1 q.2.2.1 q.1.edges := by
  have hol := vtxs_len ho
  have g7 : Grow H6 H7 := e7 ▸ Grow.new ok _
  have n7 : H7.next = H6.next + 1 := by rw [e7]; rfl
  obtain ⟨H8, k1, k2, k3, k4⟩ := (ho.mod g7 fun _ h => h.elim).append (bytes := 40) (n := 1) (x := .slice (some ⟨H6.next, 0, none⟩) 1 2) g7.ok rfl (takev_new e7 rfl) (by decide) rfl rfl (by omega) (by omega)
  refine ⟨H8, k1, ?_, by omega, k4, fun q hq => ?_⟩
  · rw [List.flatMap_append, List.flatMap_singleton]; exact k2
  · have hs : SlE (fun b => N ≤ b ∧ b < H6.next ∧ Off oa b) H6 q.2.1 q.2.2.1 q.1.edges := by
      rcases List.mem_append.1 hq with h | h
      · exact he q h
      · rw [List.mem_singleton] at h; subst h; exact hE
    refine ((hs.grow loc_edge g7).mod loc_edge k4 fun b hb h => h hb.2.2).weak (fun b hb _ => ⟨hb.1, by omega, fun x hx => ?_⟩) (edge_lt k4.ok)
    cases hx
    have := hb.2.1
    simp only; omega
theorem ret_vtx {Q : Value → AH → Prop} {H : AH} {vb rb : Nat} {i w : Int} {a : Option Addr} {l c : Nat} {x y z : Value} (ok : Ok H) (hv : H.get vb = some (.cells [.int .i64 i, .int .i64 w, .slice a l c] 0)) (hr : H.get rb = some (.cells [x, y, z] 0))
    (hQ : ∀ H3, Mod (· = rb) H H3 → Q (.agg ⟨[.int .i64 i, .int .i64 w, .slice a l c]⟩) H3) :
    ∃ (t_ID : Int) (t_Value : Int) (t_a : Option Addr) (t_l : Nat) (t_c : Nat), H.cell vb (0 + 0) = some (.int .i64 t_ID) ∧ H.cell vb (0 + 1) = some (.int .i64 t_Value) ∧ H.cell vb (0 + 2) = some (.slice t_a t_l t_c) ∧
      ∃ H3, storeCellsv H rb 0 [.int .i64 t_ID, .int .i64 t_Value, .slice t_a t_l t_c] = some H3 ∧
      ∃ (r_ID : Int) (r_Value : Int) (r_a : Option Addr) (r_l : Nat) (r_c : Nat), H3.cell rb (0 + 0) = some (.int .i64 r_ID) ∧ H3.cell rb (0 + 1) = some (.int .i64 r_Value) ∧ H3.cell rb (0 + 2) = some (.slice r_a r_l r_c) ∧
        Q (.agg ⟨[.int .i64 r_ID, .int .i64 r_Value, .slice r_a r_l r_c]⟩) H3 := by
  have k := get_set_self H rb (.cells (lset [x, y, z] 0 [.int .i64 i, .int .i64 w, .slice a l c]) 0)
  exact ⟨_, _, _, _, _, cell_of hv rfl, cell_of hv rfl, cell_of hv rfl, _, store_of (o := 0) hr (by simp) rfl, _, _, _, _, _, cell_of k rfl, cell_of k rfl, cell_of k rfl, hQ _ (Mod.set ok hr _)⟩
section
variable {H : AH} {b : Nat} {s : List UInt8} {q : RSt}
theorem xvtx_ok (ok : Ok H) (h : Rd H b s q.1 q.2) (hp : AtOk s q) (hs : s.length ≤ 4611686018427387904) :
    FW Ee F_graph_TakeVertex [.pointer (some ⟨b, 0, none⟩)] H fun r H' => ∃ ea el ec, r = .agg ⟨[.int .i64 (rVtx s q).1.id, .int .i64 (rVtx s q).1.val, .slice ea el ec]⟩ ∧ SlE (fun x => H.next ≤ x ∧ x < H'.next) H' ea el (rVtx s q).1.edges ∧ Rd H' b s (rVtx s q).2.1 (rVtx s q).2.2 ∧ Mod (· = b) H H' := by
  have hbl := ok.lt h
  refine fw_graph_TakeVertex ?_
  intro H1 e1
  have g1 : Grow H H1 := e1 ▸ Grow.new ok _
  have z1 : H1.get H.next = some (.cells [.int .i64 0, .int .i64 0, .slice none 0 0] 0) := e1 ▸ get_new_self _ _
  have n1 : H1.next = H.next + 1 := by rw [e1]; rfl
  have p2 := rSig_ok hp
  have p3 := rSig_ok p2.1
  refine (xsig_ok g1.ok (h.mod g1 id) hp hs).mono ?_
  rintro _ H2 ⟨rfl, r2, m2⟩
  refine ⟨_, rfl, (xsig_ok m2.ok r2 p2.1 hs).mono ?_⟩
  rintro _ H3 ⟨rfl, r3, m3⟩
  have m13 := m2.trans m3
  have n3 := m13.next
  refine ⟨_, rfl, ?_⟩
  intro H4 e4
  obtain ⟨H5, e5, b5, g5, n5⟩ := fresh_store (vs := [.int .i64 (rSig s q).1, .int .i64 (rSig s (rSig s q).2).1, .slice none 0 0]) e4 rfl rfl m3.ok
  refine ⟨H5, e5, (xcnt_ok 2048 (by omega) g5.ok (r3.mod g5 id) p3.1 hs).mono ?_⟩
  rintro _ H6 ⟨rfl, r6, m6⟩
  have p6 := rCnt_ok (m := 2048) p3.1
  have n6 := m6.next
  have b6 := m6.get _ _ (show ¬ H3.next = b by omega) b5
  have z6 := m6.get _ _ (show ¬ H.next = b by omega) (g5.get _ _ id (m13.get _ _ (show ¬ H.next = b by omega) z1))
  have mm : Mod (· = b) H H6 := (((g1.le (fun _ h _ => h.elim) ok).trans m13).add g5).trans m6
  obtain ⟨N, hN⟩ : ∃ N, N = (rCnt s 2048 (rSig s (rSig s q).2).2).1 := ⟨_, rfl⟩
  obtain ⟨q6, hq6⟩ : ∃ q6, q6 = (rCnt s 2048 (rSig s (rSig s q).2).2).2 := ⟨_, rfl⟩
  rw [← hN] at p6
  rw [← hq6] at p6 r6
  have hres : rVtx s q = (⟨(rSig s q).1, (rSig s (rSig s q).2).1, (rMany (rPair s) N q6).1⟩, (rMany (rPair s) N q6).2) := by rw [hN, hq6]; rfl
  rw [hres, ← hN]
  refine ⟨_, rfl, ?_⟩
  refine ⟨fun m n4 Hb => ∃ (j : Nat) (es : List (Int × Int)) (q' : RSt) (a : Option Addr) (l c : Nat), n4 = j ∧ j = m ∧ Rd Hb b s q'.1 q'.2 ∧ AtOk s q' ∧ Hb.get H3.next = some (.cells [.int .i64 (rSig s q).1, .int .i64 (rSig s (rSig s q).2).1, .slice a l c] 0) ∧ Own Hb 2 a l c (es.flatMap edgeC) ∧
      (∀ x, a = some x → H6.next ≤ x.block) ∧ Hb.get H.next = some (.cells [.int .i64 0, .int .i64 0, .slice none 0 0] 0) ∧ es.length + j ≤ 2048 ∧ es ++ (rMany (rPair s) j q').1 = (rMany (rPair s) N q6).1 ∧ (rMany (rPair s) j q').2 = (rMany (rPair s) N q6).2 ∧ Mod (· = b) H Hb ∧ H6.next ≤ Hb.next,
    ⟨_, N, [], q6, none, 0, 0, rfl, rfl, r6, p6.1, b6, Own.nil _ _, fun x e => (by cases e), z6, by simpa using p6.2, rfl, rfl, mm, Nat.le_refl _⟩, ?_⟩
  rintro m n4 Hb ⟨j, es, q', a, l, c, rfl, rfl, hr, hat, hv, hO, hfar, hz, hlen, hl1, hl2, hm, hn⟩
  have hl : l = es.length := by
    have := hO.len
    rw [flatMap_len (sz := 2) (fun _ => rfl)] at this
    omega
  have done : (q'.2 ≠ 0 ∨ j = 0) → es = (rMany (rPair s) N q6).1 ∧ q' = (rMany (rPair s) N q6).2 := fun h => by
    rw [rMany_stop h] at hl1 hl2
    exact ⟨by rw [← hl1, List.append_nil], hl2⟩
  have fin : (q'.2 ≠ 0 ∨ j = 0) → ∀ H3x, Mod (· = H.next) Hb H3x → ∃ ea el ec, Value.agg ⟨[.int .i64 (rSig s q).1, .int .i64 (rSig s (rSig s q).2).1, .slice a l c]⟩ = .agg ⟨[.int .i64 (rSig s q).1, .int .i64 (rSig s (rSig s q).2).1, .slice ea el ec]⟩ ∧ SlE (fun x => H.next ≤ x ∧ x < H3x.next) H3x ea el (rMany (rPair s) N q6).1 ∧
      Rd H3x b s (rMany (rPair s) N q6).2.1 (rMany (rPair s) N q6).2.2 ∧ Mod (· = b) H H3x := by
    intro h Hx mx
    obtain ⟨d1, d2⟩ := done h
    refine ⟨a, l, c, rfl, ?_, ?_, hm.ext mx ok fun x hx => .inr (by omega)⟩
    · rw [← d1]
      exact (edges_sl (F := fun x => H.next ≤ x) (hO.mod mx fun x hx y ey e => by have := hfar y ey; omega) fun x ex => by have := hfar x ex; omega).weak (fun x hx hl => ⟨hx, hl⟩) (edge_lt mx.ok)
    · rw [← d2]; exact mx.get _ _ (by omega) hr
  refine cond_dec (fun hpos => ?_) (fun hz0 => ret_vtx (Q := fun r H' => ∃ ea el ec, r = .agg ⟨[.int .i64 (rSig s q).1, .int .i64 (rSig s (rSig s q).2).1, .slice ea el ec]⟩ ∧ SlE (fun x => H.next ≤ x ∧ x < H'.next) H' ea el (rMany (rPair s) N q6).1 ∧ Rd H' b s (rMany (rPair s) N q6).2.1 (rMany (rPair s) N q6).2.2 ∧ Mod (· = b) H H') hm.ok hv hz (fin (.inr (by omega))))
  refine (rerr_ok hr).mono ?_
  rintro _ _ ⟨rfl, rfl⟩
  refine ⟨_, rfl, cond_intro (fun he => ?_) (fun he => ret_vtx (Q := fun r H' => ∃ ea el ec, r = .agg ⟨[.int .i64 (rSig s q).1, .int .i64 (rSig s (rSig s q).2).1, .slice ea el ec]⟩ ∧ SlE (fun x => H.next ≤ x ∧ x < H'.next) H' ea el (rMany (rPair s) N q6).1 ∧ Rd H' b s (rMany (rPair s) N q6).2.1 (rMany (rPair s) N q6).2.2 ∧ Mod (· = b) H H') hm.ok hv hz (fin (.inl (by simpa using he))))⟩
  have he : q'.2 = 0 := by simpa using he
  have pa := rSig_ok hat
  have pb := rSig_ok pa.1
  refine ⟨a, l, c, cell_of hv rfl, (xsig_ok hm.ok hr hat hs).mono ?_⟩
  rintro _ H9 ⟨rfl, r9, m9⟩
  refine ⟨_, rfl, (xsig_ok m9.ok r9 pa.1 hs).mono ?_⟩
  rintro _ H10 ⟨rfl, r10, m10⟩
  refine ⟨_, rfl, ?_⟩
  intro H11 e11
  have m910 := m9.trans m10
  have n10 := m910.next
  have g11 : Grow H10 H11 := e11 ▸ Grow.new m10.ok _
  have n11 : H11.next = H10.next + 1 := by rw [e11]; rfl
  have hO11 := (hO.mod m910 fun x hx y ey e => by have := hfar y ey; omega).mod g11 fun _ h => h.elim
  have hv9 := m9.get _ _ (show ¬ H3.next = b by omega) hv
  have hv11 := g11.get _ _ id (m910.get _ _ (show ¬ H3.next = b by omega) hv)
  obtain ⟨H12, k1, k2, k3, k4⟩ := hO11.append (n := 1) (bytes := 16) (new := [.int .i64 (rSig s q').1, .int .i64 (rSig s (rSig s q').2).1]) (x := .slice (some ⟨H10.next, 0, none⟩) 1 2) g11.ok rfl (takev_new e11 rfl) (by omega) rfl rfl (by omega) (by omega)
  have lowS : ∀ {x : Nat}, x < H6.next → ¬ (¬ Off a x) := fun hx h => h fun z ez e => by have := hfar z ez; omega
  have hv12 := k4.get _ _ (lowS (by omega)) hv11
  have m13' := Mod.set k4.ok hv12 (.cells (lset [.int .i64 (rSig s q).1, .int .i64 (rSig s (rSig s q).2).1, .slice a l c] 2 [.slice (some ⟨H11.next, 0, none⟩) (l + 1) (2 * (l + 1) + 1)]) 0)
  refine ⟨_, _, _, H12, k1, _, store_of (o := 2) hv12 (by simp) rfl, cell_of hv11 rfl, cell_of hv9 rfl, ?_⟩
  intro t20 e20
  rw [wrap_i64 (by omega) (by omega)] at e20
  obtain ⟨j, rfl⟩ : ∃ j', j = j' + 1 := ⟨j - 1, by omega⟩
  have e20 : t20 = (j : Int) := by omega
  subst e20
  rw [rMany_go he] at hl1 hl2
  refine ⟨j, by omega, j, es ++ [(rPair s q').1], (rPair s q').2, _, _, _, rfl, rfl, ?_, pb.1, get_set_self _ _ _, ?_, ?_, ?_, by rw [List.length_append, List.length_singleton]; omega, ?_, hl2, ?_, ?_⟩
  · exact m13'.get _ _ (by omega) (k4.get _ _ (lowS (by omega)) (g11.get _ _ id r10))
  · rw [List.flatMap_append, List.flatMap_singleton]
    exact k2.mod m13' fun x hx z ez e => by cases ez; simp only at e; omega
  · intro z ez
    cases ez
    simp only; omega
  · exact m13'.get _ _ (by omega) (k4.get _ _ (lowS (by omega)) (g11.get _ _ id (m910.get _ _ (show ¬ H.next = b by omega) hz)))
  · rw [List.append_assoc]; exact hl1
  · refine (((hm.trans m910).add g11).ext k4 ok fun x hx => .inr ?_).ext m13' ok fun x hx => .inr (by omega)
    obtain ⟨z, ez, rfl⟩ := off_not hx
    have := hfar z ez
    omega
  · show H6.next ≤ H12.next
    omega

theorem xgraph_ok (ok : Ok H) (h : Rd H b s q.1 q.2) (hp : AtOk s q) (hs : s.length ≤ 4611686018427387904) :
    FW Ee F_graph_Take [.pointer (some ⟨b, 0, none⟩)] H fun r H' => ∃ a l c, r = .agg ⟨[.slice a l c]⟩ ∧ SlV (fun x => H.next ≤ x ∧ x < H'.next) H' a l (rGraph s q).1 ∧ Rd H' b s (rGraph s q).2.1 (rGraph s q).2.2 ∧ Mod (· = b) H H' := by
  have hbl := ok.lt h
  refine fw_graph_Take ?_
  intro H1 e1 H2 e2
  obtain ⟨g2, z2, v2, n1, n2⟩ := two_new ok e1 e2
  refine (xcnt_ok 256 (by omega) g2.ok (h.mod g2 id) hp hs).mono ?_
  rintro _ H3 ⟨rfl, r3, m3⟩
  have p3 := rCnt_ok (m := 256) hp
  have n3 := m3.next
  have v3 := m3.get _ _ (show ¬ H1.next = b by omega) v2
  have z3 := m3.get _ _ (show ¬ H.next = b by omega) z2
  have mm : Mod (· = b) H H3 := (g2.le (fun _ h _ => h.elim) ok).trans m3
  have hGI := (rGraph_ok hp).2
  obtain ⟨N, hN⟩ : ∃ N, N = (rCnt s 256 q).1 := ⟨_, rfl⟩
  obtain ⟨q3, hq3⟩ : ∃ q3, q3 = (rCnt s 256 q).2 := ⟨_, rfl⟩
  have hres : rGraph s q = ((rMany (rVtx s) N q3).1, if (rMany (rVtx s) N q3).2.2 = 0 then ((rMany (rVtx s) N q3).2.1, chk (rMany (rVtx s) N q3).1) else (rMany (rVtx s) N q3).2) := by rw [hN, hq3]; rfl
  rw [hres] at hGI ⊢
  rw [← hN] at p3
  rw [← hq3] at p3 r3
  rw [← hN]
  refine ⟨_, rfl, ?_⟩
  refine ⟨fun m n4 Hb => ∃ (j : Nat) (ps : List (Vtx × Option Addr × Nat × Nat)) (q' : RSt) (a : Option Addr) (l c : Nat), n4 = j ∧ j = m ∧ Rd Hb b s q'.1 q'.2 ∧ AtOk s q' ∧ Hb.get H1.next = some (.cells [.slice a l c] 0) ∧ Own Hb 3 a l c (ps.flatMap vtxC) ∧
      (∀ x, a = some x → H3.next ≤ x.block) ∧ (∀ p ∈ ps, SlE (fun x => H3.next ≤ x ∧ x < Hb.next ∧ Off a x) Hb p.2.1 p.2.2.1 p.1.edges) ∧ Hb.get H.next = some (.cells [.slice none 0 0] 0) ∧ ps.length + j ≤ 256 ∧ ps.map (·.1) ++ (rMany (rVtx s) j q').1 = (rMany (rVtx s) N q3).1 ∧ (rMany (rVtx s) j q').2 = (rMany (rVtx s) N q3).2 ∧ Mod (· = b) H Hb ∧ H3.next ≤ Hb.next,
    ⟨_, N, [], q3, none, 0, 0, rfl, rfl, r3, p3.1, v3, Own.nil _ _, fun x e => (by cases e), fun p hp => (by simp at hp), z3, by simpa using p3.2, rfl, rfl, mm, Nat.le_refl _⟩, ?_⟩
  rintro m n4 Hb ⟨j, ps, q', a, l, c, rfl, rfl, hr, hat, hv, hO, hfar, hes, hz, hlen, hl1, hl2, hm, hn⟩
  have done : (q'.2 ≠ 0 ∨ j = 0) → ps.map (·.1) = (rMany (rVtx s) N q3).1 ∧ q' = (rMany (rVtx s) N q3).2 := fun h => by
    rw [rMany_stop h] at hl1 hl2
    exact ⟨by rw [← hl1, List.append_nil], hl2⟩
  have slv : SlV (fun x => H3.next ≤ x ∧ x < Hb.next) Hb a l (ps.map (·.1)) :=
    vtxs_sl hO (fun x ex => ⟨hfar x ex, own_lt hO hm.ok ex⟩) fun p hp => (hes p hp).weak (fun x hx _ => ⟨hx.1, hx.2.1⟩) (edge_lt hm.ok)
  have last : ∀ {Hx : AH} {q'' : RSt}, (q'.2 ≠ 0 ∨ j = 0) → Hx.get H1.next = some (.cells [.slice a l c] 0) → Hx.get H.next = some (.cells [.slice none 0 0] 0) → SlV (fun x => H3.next ≤ x ∧ x < Hb.next) Hx a l (ps.map (·.1)) → Rd Hx b s q''.1 q''.2 → Mod (· = b) H Hx → Hb.next ≤ Hx.next →
      q'' = (if (rMany (rVtx s) N q3).2.2 = 0 then ((rMany (rVtx s) N q3).2.1, chk (rMany (rVtx s) N q3).1) else (rMany (rVtx s) N q3).2) →
      ∃ (t_a : Option Addr) (t_l : Nat) (t_c : Nat), Hx.cell H1.next (0 + 0) = some (.slice t_a t_l t_c) ∧ ∃ (H13 : AH), storeCellsv Hx H.next 0 [.slice t_a t_l t_c] = some H13 ∧ ∃ (r_a : Option Addr) (r_l : Nat) (r_c : Nat), H13.cell H.next (0 + 0) = some (.slice r_a r_l r_c) ∧
        ∃ a l c, Value.agg ⟨[.slice r_a r_l r_c]⟩ = .agg ⟨[.slice a l c]⟩ ∧ SlV (fun x => H.next ≤ x ∧ x < H13.next) H13 a l (rMany (rVtx s) N q3).1 ∧ Rd H13 b s (if (rMany (rVtx s) N q3).2.2 = 0 then ((rMany (rVtx s) N q3).2.1, chk (rMany (rVtx s) N q3).1) else (rMany (rVtx s) N q3).2).1 (if (rMany (rVtx s) N q3).2.2 = 0 then ((rMany (rVtx s) N q3).2.1, chk (rMany (rVtx s) N q3).1) else (rMany (rVtx s) N q3).2).2 ∧ Mod (· = b) H H13 := by
    intro Hx q'' h hvx hzx hsx hrx hmx hnx hq
    have m13 := Mod.set hmx.ok hzx (.cells (lset [.slice none 0 0] 0 [.slice a l c]) 0)
    have k13 := get_set_self Hx H.next (.cells (lset [.slice none 0 0] 0 [.slice a l c]) 0)
    refine ⟨a, l, c, cell_of hvx rfl, _, store_of (o := 0) hzx (by simp) rfl, a, l, c, cell_of k13 rfl, a, l, c, rfl, ?_, ?_, hmx.ext m13 ok fun x hx => .inr (by omega)⟩
    · rw [← (done h).1]
      have h13 : (Hx.set H.next (.cells (lset [.slice none 0 0] 0 [.slice a l c]) 0)).next = Hx.next := rfl
      have := hsx.mod loc_vtx m13 fun x hx e => by have := hx.1; omega
      refine ⟨this.len, fun hp => ⟨(this.base hp).1, by have := (this.base hp).2.1; omega, by have := (this.base hp).2.2; omega⟩, fun i hi => ?_⟩
      obtain ⟨c1, c2, ea, el, ec, c3, c4⟩ := this.cells i hi
      exact ⟨c1, c2, ea, el, ec, c3, c4.weak (fun x hx _ => ⟨by omega, by omega⟩) (edge_lt m13.ok)⟩
    · rw [← hq]; exact m13.get _ _ (by omega) hrx
  have fin : (q'.2 ≠ 0 ∨ j = 0) → FW Ee F_wire_Reader_Err [.pointer (some ⟨b, 0, none⟩)] Hb fun v_3 H10 =>
      ∃ (r24 : Int), v_3 = .int .i64 r24 ∧
      cond (r24 == 0) (
        ∃ (t27a : Option Addr) (t27l : Nat) (t27c : Nat), H10.cell H1.next (0 + 0) = some (.slice t27a t27l t27c) ∧
        FW Ee F_graph_Check [.agg ⟨[.slice t27a t27l t27c]⟩] H10 fun v_4 H11 =>
          ∃ (r28 : Int), v_4 = .int .i64 r28 ∧
          FW Ee F_wire_Reader_Fail [.pointer (some ⟨b, 0, none⟩), .int .i64 r28] H11 fun v_5 H12 =>
            v_5 = .tuple ⟨[]⟩ ∧
            ∃ (t_a : Option Addr) (t_l : Nat) (t_c : Nat), H12.cell H1.next (0 + 0) = some (.slice t_a t_l t_c) ∧ ∃ (H13 : AH), storeCellsv H12 H.next 0 [.slice t_a t_l t_c] = some H13 ∧ ∃ (r_a : Option Addr) (r_l : Nat) (r_c : Nat), H13.cell H.next (0 + 0) = some (.slice r_a r_l r_c) ∧
              ∃ a l c, Value.agg ⟨[.slice r_a r_l r_c]⟩ = .agg ⟨[.slice a l c]⟩ ∧ SlV (fun x => H.next ≤ x ∧ x < H13.next) H13 a l (rMany (rVtx s) N q3).1 ∧ Rd H13 b s (if (rMany (rVtx s) N q3).2.2 = 0 then ((rMany (rVtx s) N q3).2.1, chk (rMany (rVtx s) N q3).1) else (rMany (rVtx s) N q3).2).1 (if (rMany (rVtx s) N q3).2.2 = 0 then ((rMany (rVtx s) N q3).2.1, chk (rMany (rVtx s) N q3).1) else (rMany (rVtx s) N q3).2).2 ∧ Mod (· = b) H H13) (
        ∃ (t_a : Option Addr) (t_l : Nat) (t_c : Nat), H10.cell H1.next (0 + 0) = some (.slice t_a t_l t_c) ∧ ∃ (H13 : AH), storeCellsv H10 H.next 0 [.slice t_a t_l t_c] = some H13 ∧ ∃ (r_a : Option Addr) (r_l : Nat) (r_c : Nat), H13.cell H.next (0 + 0) = some (.slice r_a r_l r_c) ∧
          ∃ a l c, Value.agg ⟨[.slice r_a r_l r_c]⟩ = .agg ⟨[.slice a l c]⟩ ∧ SlV (fun x => H.next ≤ x ∧ x < H13.next) H13 a l (rMany (rVtx s) N q3).1 ∧ Rd H13 b s (if (rMany (rVtx s) N q3).2.2 = 0 then ((rMany (rVtx s) N q3).2.1, chk (rMany (rVtx s) N q3).1) else (rMany (rVtx s) N q3).2).1 (if (rMany (rVtx s) N q3).2.2 = 0 then ((rMany (rVtx s) N q3).2.1, chk (rMany (rVtx s) N q3).1) else (rMany (rVtx s) N q3).2).2 ∧ Mod (· = b) H H13) := by
    intro hend
    obtain ⟨d1, d2⟩ := done hend
    refine (rerr_ok hr).mono ?_
    rintro _ _ ⟨rfl, rfl⟩
    refine ⟨_, rfl, cond_intro (fun he => ?_) (fun he => ?_)⟩
    · have he : q'.2 = 0 := by simpa using he
      have hfit : Fit (ps.map (·.1)) := by rw [d1]; exact hGI.fit
      refine ⟨_, _, _, cell_of hv rfl, (gcheck_ok hm.ok slv (fun x hx => hx.2) hfit).mono ?_⟩
      rintro _ H11 ⟨rfl, g11⟩
      refine ⟨_, rfl, (rfail_ok g11.ok (hr.mod g11 id) _).mono ?_⟩
      rintro _ H12 ⟨rfl, r12, m12⟩
      have n11 := g11.next
      have n12 := m12.next
      rw [if_pos he] at r12
      refine ⟨rfl, last (q'' := (q'.1, chk (ps.map (·.1)))) hend (m12.get _ _ (by omega) (g11.get _ _ id hv)) (m12.get _ _ (by omega) (g11.get _ _ id hz)) ((slv.grow loc_vtx g11).mod loc_vtx m12 fun x hx e => by have := hx.1; omega) r12 ((hm.add g11).trans m12) (by omega) ?_⟩
      rw [d1, ← d2, if_pos he]
    · have he : q'.2 ≠ 0 := by simpa using he
      exact last (q'' := q') hend hv hz slv hr hm (Nat.le_refl _) (by rw [← d2, if_neg he])
  refine cond_dec (fun hpos => ?_) (fun hz0 => fin (.inr (by omega)))
  refine (rerr_ok hr).mono ?_
  rintro _ _ ⟨rfl, rfl⟩
  refine ⟨_, rfl, cond_intro (fun he => ?_) (fun he => fin (.inl (by simpa using he)))⟩
  have he : q'.2 = 0 := by simpa using he
  refine ⟨a, l, c, cell_of hv rfl, (xvtx_ok hm.ok hr hat hs).mono ?_⟩
  rintro _ H6 ⟨ea, el, ec, rfl, hE, r6, m6⟩
  have n6 := m6.next
  have pv := rVtx_ok hat
  refine ⟨_, _, _, _, _, rfl, ?_⟩
  intro H7 e7
  have g7 : Grow H6 H7 := e7 ▸ Grow.new m6.ok _
  have n7 : H7.next = H6.next + 1 := by rw [e7]; rfl
  have hO6 := hO.mod m6 fun x hx y ey e => by have := hfar y ey; omega
  have hob : ∀ x, a = some x → x.block < Hb.next := fun x ex => own_lt hO hm.ok ex
  obtain ⟨H8, k1, k2, k3, k4, k5⟩ := vtxs_push (N := H3.next) (v := (rVtx s q').1) m6.ok hO6 (by omega) (fun p hp => ((hes p hp).mod loc_edge m6 fun x hx e => by have := hx.1; omega).weak (fun x hx _ => ⟨hx.1, by omega, hx.2.2⟩) (edge_lt m6.ok))
    (hE.weak (fun x hx hl => ⟨by omega, hl, Off.of_gt fun y ey => by have := hob y ey; omega⟩) (edge_lt m6.ok)) e7 (by omega)
  have lowS : ∀ {x : Nat}, x < H3.next → ¬ (¬ Off a x) := fun hx h => h fun z ez e => by have := hfar z ez; omega
  have hv7 := g7.get _ _ id (m6.get _ _ (show ¬ H1.next = b by omega) hv)
  have hv8 := k4.get _ _ (lowS (by omega)) hv7
  have m9 := Mod.set k4.ok hv8 (.cells (lset [.slice a l c] 0 [.slice (some ⟨H7.next, 0, none⟩) (l + 1) (2 * (l + 1) + 1)]) 0)
  refine ⟨_, _, _, H8, k1, _, store_of (o := 0) hv8 (by simp) rfl, cell_of hv7 rfl, ?_⟩
  intro t15 e15
  rw [wrap_i64 (by omega) (by omega)] at e15
  obtain ⟨j, rfl⟩ : ∃ j', j = j' + 1 := ⟨j - 1, by omega⟩
  have e15 : t15 = (j : Int) := by omega
  subst e15
  rw [rMany_go he] at hl1 hl2
  refine ⟨j, by omega, j, ps ++ [((rVtx s q').1, ea, el, ec)], (rVtx s q').2, _, _, _, rfl, rfl, ?_, pv.1, get_set_self _ _ _, ?_, ?_, ?_, ?_, by rw [List.length_append, List.length_singleton]; omega, ?_, hl2, ?_, ?_⟩
  · exact m9.get _ _ (by omega) (k4.get _ _ (lowS (by omega)) (g7.get _ _ id r6))
  · exact k2.mod m9 fun x hx z ez e => by cases ez; simp only at e; omega
  · intro z ez
    cases ez
    simp only; omega
  · intro p hp
    exact (k5 p hp).mod loc_edge m9 fun x hx e => by have := hx.1; omega
  · exact m9.get _ _ (by omega) (k4.get _ _ (lowS (by omega)) (g7.get _ _ id (m6.get _ _ (show ¬ H.next = b by omega) hz)))
  · rw [List.map_append, List.append_assoc]; exact hl1
  · refine (((hm.trans m6).add g7).ext k4 ok fun x hx => .inr ?_).ext m9 ok fun x hx => .inr (by omega)
    obtain ⟨z, ez, rfl⟩ := off_not hx
    have := hfar z ez
    omega
  · show H3.next ≤ H8.next
    omega
end
end Go.Proofs.Cx
