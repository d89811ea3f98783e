/- slices.Sort at int64: pivots, patterns, shifts. slices.Sort at int64: put together. -/
import Derived.Test.YtojohclbjcnhaaaC5
namespace Go.Ev
open Go
/-- a cell with a number, that nobody else has -/
def One (k : IntKind) (H : AH) (b : Nat) : Prop := ∃ t : Int, H.get b = some (.cells [.int k t] 0)
def len8 : List UInt8 := [0, 1, 2, 2, 3, 3, 3, 3, 4, 4, 4, 4, 4, 4, 4, 4, 5, 5, 5, 5, 5, 5, 5, 5, 5, 5, 5, 5, 5, 5, 5, 5, 6, 6, 6, 6, 6, 6, 6, 6, 6, 6, 6, 6, 6, 6, 6, 6, 6, 6, 6, 6, 6, 6, 6, 6, 6, 6, 6, 6, 6, 6, 6, 6, 7, 7, 7, 7, 7, 7, 7, 7, 7, 7, 7, 7, 7, 7, 7, 7, 7, 7, 7, 7, 7, 7, 7, 7, 7, 7, 7, 7, 7, 7, 7, 7, 7, 7, 7, 7, 7, 7, 7, 7, 7, 7, 7, 7, 7, 7, 7, 7, 7, 7, 7, 7, 7, 7, 7, 7, 7, 7, 7, 7, 7, 7, 7, 7, 8, 8, 8, 8, 8, 8, 8, 8, 8, 8, 8, 8, 8, 8, 8, 8, 8, 8, 8, 8, 8, 8, 8, 8, 8, 8, 8, 8, 8, 8, 8, 8, 8, 8, 8, 8, 8, 8, 8, 8, 8, 8, 8, 8, 8, 8, 8, 8, 8, 8, 8, 8, 8, 8, 8, 8, 8, 8, 8, 8, 8, 8, 8, 8, 8, 8, 8, 8, 8, 8, 8, 8, 8, 8, 8, 8, 8, 8, 8, 8, 8, 8, 8, 8, 8, 8, 8, 8, 8, 8, 8, 8, 8, 8, 8, 8, 8, 8, 8, 8, 8, 8, 8, 8, 8, 8, 8, 8, 8, 8, 8, 8, 8, 8, 8, 8, 8, 8, 8, 8, 8, 8, 8, 8, 8, 8, 8, 8]
theorem len8_len : len8.length = 256 := by kernel_rfl
theorem len8_all : ((List.range 256).all fun v => Nat.ble (len8.getD v 0).toNat 8 && Nat.blt v (2 ^ (len8.getD v 0).toNat) && (Nat.beq v 0 || Nat.ble (2 ^ (len8.getD v 0).toNat) (2 * v)) && (Nat.beq v 0 || Nat.ble 1 (len8.getD v 0).toNat)) = true := by kernel_rfl
theorem len8_at {v : Nat} (hv : v < 256) : ∃ L : Nat, byteAt len8 (v : Int) = L ∧ L ≤ 8 ∧ v < 2 ^ L ∧ (v ≠ 0 → 2 ^ L ≤ 2 * v) ∧ (v ≠ 0 → 1 ≤ L) := by
  have h := List.all_eq_true.1 len8_all v (List.mem_range.2 hv)
  simp only [Bool.and_eq_true, Bool.or_eq_true] at h
  obtain ⟨⟨⟨h1, h2⟩, h3⟩, h4⟩ := h
  refine ⟨(len8.getD v 0).toNat, ?_, Nat.le_of_ble_eq_true h1, ?_, fun hne => ?_, fun hne => ?_⟩
  · unfold byteAt; rw [Int.toNat_natCast]
  · exact Nat.le_of_ble_eq_true h2
  · rcases h3 with h | h
    · exact (hne (Nat.eq_of_beq_eq_true h)).elim
    · exact Nat.le_of_ble_eq_true h
  · rcases h4 with h | h
    · exact (hne (Nat.eq_of_beq_eq_true h)).elim
    · exact Nat.le_of_ble_eq_true h
theorem wrap_u8_n (v : Nat) : IntKind.u8.wrap (v : Int) = ((v % 256 : Nat) : Int) := by
  have hb : (2 ^ IntKind.u8.bits : Int) = 256 := by rfl
  have hs : IntKind.u8.signed = false := rfl
  simp only [IntKind.wrap, hb, hs, Bool.false_and]
  simp only [Bool.false_eq_true, if_false]
  omega
theorem shr8 (v : Nat) : (v : Int).fdiv (2 ^ (min (8 : Int).toNat IntKind.u64.bits)) = ((v / 256 : Nat) : Int) := by
  have e : (2 : Int) ^ (min (8 : Int).toNat IntKind.u64.bits) = 256 := by decide
  rw [e, Int.fdiv_eq_ediv_of_nonneg _ (by omega)]; omega
theorem bv_nat {x : Nat} (h : x < 2 ^ 64) : IntKind.u64.wrap (x : Int) = x := by
  have : (2 : Nat) ^ 64 = 18446744073709551616 := by decide
  exact wrap_u64 (by omega) (by omega)
theorem ixor_nat (a b : Int) : ∃ n : Nat, n < 2 ^ 64 ∧ ixor .u64 a b = n := by
  refine ⟨(BitVec.ofInt 64 a ^^^ BitVec.ofInt 64 b).toNat, BitVec.isLt _, ?_⟩
  unfold ixor
  exact bv_nat (BitVec.isLt _)
theorem iand_le {a b : Nat} (hb : b < 2 ^ 64) : ∃ n : Nat, n ≤ b ∧ iand .u64 (a : Int) (b : Int) = n := by
  refine ⟨(BitVec.ofInt 64 (a : Int) &&& BitVec.ofInt 64 (b : Int)).toNat, ?_, ?_⟩
  · rw [BitVec.toNat_and, BitVec.ofInt_natCast, BitVec.ofInt_natCast, BitVec.toNat_ofNat, BitVec.toNat_ofNat, Nat.mod_eq_of_lt hb]
    exact Nat.and_le_right
  · unfold iand
    exact bv_nat (BitVec.isLt _)
end Go.Ev
namespace Go.Proofs.Cx
open Go Go.Ev
section
variable {H : AH} {d N c : Nat} {zs : List Int}

theorem order2_ok {x y s : Nat} (ok : Ok H) (hD : D H d zs) (hN : zs.length = N) (hx : x < N) (hy : y < N) (hs : One .i64 H s) :
    FW Ee F_slices_order2Ordered_int64 [.slice (some ⟨d, 0, none⟩) N c, .int .i64 x, .int .i64 y, .pointer (some ⟨s, 0, none⟩)] H fun r H' => ∃ u v : Nat, r = .tuple ⟨[.int .i64 u, .int .i64 v]⟩ ∧ (u = x ∧ v = y ∨ u = y ∧ v = x) ∧ One .i64 H' s ∧ Mod (· = s) H H' := by
  refine fw_slices_order2Ordered_int64 ?_
  refine grd_intro rfl ⟨by omega, by omega, _, hD.cell (by omega), grd_intro rfl ⟨by omega, by omega, _, hD.cell (by omega), less_ok.mono ?_⟩⟩
  rintro _ _ ⟨rfl, rfl⟩
  refine ⟨_, rfl, cond_intro (fun _ => ?_) (fun _ => ⟨x, y, rfl, .inl ⟨rfl, rfl⟩, hs, .refl ok⟩)⟩
  obtain ⟨t, ht⟩ := hs
  refine ⟨t, cell_of ht rfl, ?_⟩
  intro t22 e22
  exact ⟨_, store_of (o := 0) ht (by simp) rfl, y, x, rfl, .inr ⟨rfl, rfl⟩, ⟨t22, get_set_self _ _ _⟩, Mod.set ok ht _⟩
theorem median_ok {x y z s : Nat} (ok : Ok H) (hD : D H d zs) (hN : zs.length = N) (hx : x < N) (hy : y < N) (hz : z < N) (hs : One .i64 H s) (hsd : s ≠ d) :
    FW Ee F_slices_medianOrdered_int64 [.slice (some ⟨d, 0, none⟩) N c, .int .i64 x, .int .i64 y, .int .i64 z, .pointer (some ⟨s, 0, none⟩)] H fun r H' => ∃ u : Nat, r = .int .i64 u ∧ (u = x ∨ u = y ∨ u = z) ∧ One .i64 H' s ∧ Mod (· = s) H H' := by
  refine fw_slices_medianOrdered_int64 ?_
  refine (order2_ok ok hD hN hx hy hs).mono ?_
  rintro _ H1 ⟨u1, v1, rfl, h1, s1, m1⟩
  have D1 := hD.mod m1 (fun e => hsd e.symm)
  refine ⟨_, _, rfl, (order2_ok m1.ok D1 hN (by omega) hz s1).mono ?_⟩
  rintro _ H2 ⟨u2, v2, rfl, h2, s2, m2⟩
  have D2 := D1.mod m2 (fun e => hsd e.symm)
  refine ⟨_, _, rfl, (order2_ok m2.ok D2 hN (by omega) (by omega) s2).mono ?_⟩
  rintro _ H3 ⟨u3, v3, rfl, h3, s3, m3⟩
  exact ⟨_, _, rfl, v3, rfl, by omega, s3, (m1.trans m2).trans m3⟩
theorem medianAdj_ok {x s : Nat} (ok : Ok H) (hD : D H d zs) (hN : zs.length = N) (hx0 : 1 ≤ x) (hx : x + 1 < N) (hn : N ≤ 1000000) (hs : One .i64 H s) (hsd : s ≠ d) :
    FW Ee F_slices_medianAdjacentOrdered_int64 [.slice (some ⟨d, 0, none⟩) N c, .int .i64 x, .pointer (some ⟨s, 0, none⟩)] H fun r H' => ∃ u : Nat, r = .int .i64 u ∧ x ≤ u + 1 ∧ u ≤ x + 1 ∧ One .i64 H' s ∧ Mod (· = s) H H' := by
  refine fw_slices_medianAdjacentOrdered_int64 ?_
  intro t9 e9
  obtain rfl : t9 = ((x - 1 : Nat) : Int) := e9.trans (wnat (by omega) (by omega))
  intro t12 e12
  obtain rfl : t12 = ((x + 1 : Nat) : Int) := e12.trans (wnat (by omega) (by omega))
  refine (median_ok ok hD hN (by omega) (by omega) (by omega) hs hsd).mono ?_
  rintro _ H1 ⟨u, rfl, h1, s1, m1⟩
  exact ⟨_, rfl, u, rfl, by omega, by omega, s1, m1⟩
theorem choosePivot_ok {a b : Nat} (ok : Ok H) (hD : D H d zs) (hN : zs.length = N) (hab : a + 8 ≤ b) (hb : b ≤ N) (hn : N ≤ 1000000) :
    FW Ee F_slices_choosePivotOrdered_int64 [.slice (some ⟨d, 0, none⟩) N c, .int .i64 a, .int .i64 b] H fun r H' => ∃ (p : Nat) (h : Int), r = .tuple ⟨[.int .i64 p, .int .i64 h]⟩ ∧ a ≤ p ∧ p < b ∧ Grow H H' := by
  have hdl : d < H.next := by obtain ⟨es, e⟩ := hD; exact ok.lt e
  refine fw_slices_choosePivotOrdered_int64 ?_
  intro t15 e15
  obtain rfl : t15 = ((b - a : Nat) : Int) := e15.trans (wnat (by omega) (by omega))
  intro H1 e1
  have g1 : Grow H H1 := e1 ▸ Grow.new ok _
  have s1 : One .i64 H1 H.next := ⟨0, e1 ▸ get_new_self _ _⟩
  have D1 := hD.mod g1 id
  obtain ⟨q, hq⟩ : ∃ q, q = (b - a) / 4 := ⟨_, rfl⟩
  have hdiv : ((b - a : Nat) : Int).tdiv 4 = (q : Int) := by rw [hq]; rfl
  refine ⟨by omega, ?_⟩
  intro t18 e18
  obtain rfl : t18 = (q : Int) := e18.trans (wnat hdiv (by omega))
  intro t19 e19
  obtain rfl : t19 = (q : Int) := e19.trans (wnat (by omega) (by omega))
  intro t20 e20
  obtain rfl : t20 = ((a + q : Nat) : Int) := e20.trans (wnat (by omega) (by omega))
  refine ⟨by omega, ?_⟩
  intro t23 e23
  obtain rfl : t23 = (q : Int) := e23.trans (wnat hdiv (by omega))
  intro t24 e24
  obtain rfl : t24 = ((2 * q : Nat) : Int) := e24.trans (wnat (by omega) (by omega))
  intro t25 e25
  obtain rfl : t25 = ((a + 2 * q : Nat) : Int) := e25.trans (wnat (by omega) (by omega))
  refine ⟨by omega, ?_⟩
  intro t28 e28
  obtain rfl : t28 = (q : Int) := e28.trans (wnat hdiv (by omega))
  intro t29 e29
  obtain rfl : t29 = ((3 * q : Nat) : Int) := e29.trans (wnat (by omega) (by omega))
  intro t30 e30
  obtain rfl : t30 = ((a + 3 * q : Nat) : Int) := e30.trans (wnat (by omega) (by omega))
  have hsd : H.next ≠ d := by omega
  refine ⟨fun _ j _ Hx => ∃ p : Nat, j = p ∧ a ≤ p ∧ p < b ∧ One .i64 Hx H.next ∧ Mod (· = H.next) H1 Hx, ?_, ?_⟩
  · refine cond_dec (fun _ => ?_) (fun _ => ⟨a + 2 * q, rfl, by omega, by omega, s1, .refl g1.ok⟩)
    refine ⟨fun i j k Hx => ∃ x y z : Nat, i = x ∧ j = y ∧ k = z ∧ a ≤ x ∧ x < b ∧ a ≤ y ∧ y < b ∧ a ≤ z ∧ z < b ∧ One .i64 Hx H.next ∧ Mod (· = H.next) H1 Hx, ?_, ?_⟩
    · refine cond_dec (fun h50 => ?_) (fun _ => ⟨a + q, a + 2 * q, a + 3 * q, rfl, rfl, rfl, by omega, by omega, by omega, by omega, by omega, by omega, s1, .refl g1.ok⟩)
      refine (medianAdj_ok g1.ok D1 hN (by omega) (by omega) hn s1 hsd).mono ?_
      rintro _ H2 ⟨u2, rfl, k1, k2, s2, m2⟩
      refine ⟨_, rfl, (medianAdj_ok m2.ok (D1.mod m2 fun e => hsd e.symm) hN (by omega) (by omega) hn s2 hsd).mono ?_⟩
      rintro _ H3 ⟨u3, rfl, k3, k4, s3, m3⟩
      have m13 := m2.trans m3
      refine ⟨_, rfl, (medianAdj_ok m3.ok (D1.mod m13 fun e => hsd e.symm) hN (by omega) (by omega) hn s3 hsd).mono ?_⟩
      rintro _ H4 ⟨u4, rfl, k5, k6, s4, m4⟩
      exact ⟨_, rfl, u2, u3, u4, rfl, rfl, rfl, by omega, by omega, by omega, by omega, by omega, by omega, s4, m13.trans m4⟩
    · rintro i j k Hx ⟨x, y, z, rfl, rfl, rfl, h1, h2, h3, h4, h5, h6, sx, mx⟩
      refine (median_ok mx.ok (D1.mod mx fun e => hsd e.symm) hN (by omega) (by omega) (by omega) sx hsd).mono ?_
      rintro _ H6 ⟨u, rfl, k1, s6, m6⟩
      exact ⟨_, rfl, u, rfl, by omega, by omega, s6, mx.trans m6⟩
  · rintro i j k Hx ⟨p, rfl, h1, h2, ⟨t, ht⟩, mx⟩
    have g : Grow H Hx := g1.ext mx ok fun b hb => .inr (by omega)
    refine ⟨t, cell_of ht rfl, cond_intro (fun _ => ⟨p, _, rfl, h1, h2, g⟩) (fun _ => cond_intro (fun _ => ⟨p, _, rfl, h1, h2, g⟩) (fun _ => ⟨p, _, rfl, h1, h2, g⟩))⟩
theorem reverse_ok {a b : Nat} (ok : Ok H) (hD : D H d zs) (hN : zs.length = N) (hab : a < b) (hb : b ≤ N) (hn : N ≤ 1000000) :
    FW Ee F_slices_reverseRangeOrdered_int64 [.slice (some ⟨d, 0, none⟩) N c, .int .i64 a, .int .i64 b] H fun r H' => r = .tuple ⟨[]⟩ ∧ ∃ ws, D H' d ws ∧ Seg a b zs ws ∧ Mod (· = d) H H' := by
  refine fw_slices_reverseRangeOrdered_int64 ?_
  intro t10 e10
  obtain rfl : t10 = ((b - 1 : Nat) : Int) := e10.trans (wnat (by omega) (by omega))
  refine ⟨fun m i j Hx => ∃ (p q : Nat) (ws : List Int), i = p ∧ j = q ∧ a ≤ p ∧ q < b ∧ m = q - p ∧ D Hx d ws ∧ Seg a b zs ws ∧ Mod (· = d) H Hx, ⟨_, a, b - 1, zs, rfl, rfl, by omega, by omega, rfl, hD, .refl _ _ _, .refl ok⟩, ?_⟩
  rintro m i j Hx ⟨p, q, ws, rfl, rfl, hp, hq, rfl, hDx, hS, hm⟩
  have hw := hS.len
  refine cond_dec (fun hlt => ?_) (fun _ => ⟨rfl, ws, hDx, hS, hm⟩)
  obtain ⟨H1, H2, s1, s2, s3, s4⟩ := hDx.swap hm.ok (i := p) (j := q) (by omega) (by omega)
  refine grd_intro rfl ⟨by omega, by omega, _, hDx.cell (by omega), grd_intro rfl ⟨by omega, by omega, _, hDx.cell (by omega), grd_intro rfl ⟨by omega, by omega, H1, s1, grd_intro rfl ⟨by omega, by omega, H2, s2, ?_⟩⟩⟩⟩
  intro t29 e29
  obtain rfl : t29 = ((p + 1 : Nat) : Int) := e29.trans (wnat (by omega) (by omega))
  intro t31 e31
  obtain rfl : t31 = ((q - 1 : Nat) : Int) := e31.trans (wnat (by omega) (by omega))
  exact ⟨(q - 1) - (p + 1), by omega, p + 1, q - 1, _, rfl, rfl, by omega, by omega, rfl, s3, hS.trans (.sw (by omega) (by omega) (by omega) (by omega) (by omega) (by omega)), hm.trans s4⟩

theorem len64_ok {x : Nat} (hx : x < 65536) : FW Ee F_math_bits_Len64 [.int .u64 x] H fun r H' => ∃ L : Nat, r = .int .i64 L ∧ L ≤ 16 ∧ x < 2 ^ L ∧ (x ≠ 0 → 2 ^ L ≤ 2 * x) ∧ H = H' := by
  refine fw_math_bits_Len64 ?_
  refine cond_dec (fun h => by omega) (fun _ => cond_dec (fun h => by omega) (fun _ => cond_dec (fun hbig => ?_) (fun hsmall => ?_)))
  · refine ⟨by omega, ?_⟩
    intro t16 e16
    rw [shr8] at e16
    subst e16
    intro t18 e18
    obtain rfl : t18 = ((8 : Nat) : Int) := e18.trans (wnat (by omega) (by omega))
    intro t21 e21
    rw [wrap_u8_n, Nat.mod_eq_of_lt (by omega)] at e21
    subst e21
    refine ⟨by omega, ?_, ?_⟩
    · show ((x / 256 : Nat) : Int) < ((len8.length : Nat) : Int)
      rw [len8_len]; omega
    obtain ⟨L, h1, h2, h3, h4, h5⟩ := len8_at (v := x / 256) (by omega)
    intro t23 e23
    have e23 : t23 = IntKind.i64.wrap (byteAt len8 ((x / 256 : Nat) : Int)) := e23
    obtain rfl : t23 = (L : Int) := e23.trans (wnat h1 (by omega))
    intro t24 e24
    obtain rfl : t24 = ((8 + L : Nat) : Int) := e24.trans (wnat (by omega) (by omega))
    have hp : 2 ^ (8 + L) = 256 * 2 ^ L := by rw [Nat.pow_add]
    refine ⟨8 + L, rfl, by omega, ?_, fun _ => ?_, rfl⟩
    · rw [hp]; omega
    · have := h4 (by omega)
      rw [hp]; omega
  · intro t21 e21
    rw [wrap_u8_n, Nat.mod_eq_of_lt (by omega)] at e21
    subst e21
    refine ⟨by omega, ?_, ?_⟩
    · show ((x : Nat) : Int) < ((len8.length : Nat) : Int)
      rw [len8_len]; omega
    obtain ⟨L, h1, h2, h3, h4, h5⟩ := len8_at (v := x) (by omega)
    intro t23 e23
    have e23 : t23 = IntKind.i64.wrap (byteAt len8 ((x : Nat) : Int)) := e23
    obtain rfl : t23 = (L : Int) := e23.trans (wnat h1 (by omega))
    intro t24 e24
    obtain rfl : t24 = (L : Int) := e24.trans (wnat (by omega) (by omega))
    exact ⟨L, rfl, by omega, h3, h4, rfl⟩
theorem len_ok {x : Nat} (hx : x < 65536) : FW Ee F_math_bits_Len [.int .u64 x] H fun r H' => ∃ L : Nat, r = .int .i64 L ∧ L ≤ 16 ∧ x < 2 ^ L ∧ (x ≠ 0 → 2 ^ L ≤ 2 * x) ∧ H = H' := by
  refine fw_math_bits_Len ?_
  refine (len64_ok hx).mono ?_
  rintro _ _ ⟨L, rfl, h1, h2, h3, rfl⟩
  exact ⟨_, rfl, L, rfl, h1, h2, h3, rfl⟩
theorem nextPow_ok {x : Nat} (hx : x < 65536) (h0 : x ≠ 0) : FW Ee F_slices_nextPowerOfTwo [.int .i64 x] H fun r H' => ∃ M : Nat, r = .int .u64 M ∧ 1 ≤ M ∧ M ≤ 2 * x ∧ H = H' := by
  refine fw_slices_nextPowerOfTwo ?_
  intro t4 e4
  rw [wrap_u64 (by omega) (by omega)] at e4
  subst e4
  refine (len_ok hx).mono ?_
  rintro _ _ ⟨L, rfl, h1, h2, h3, rfl⟩
  refine ⟨_, rfl, by omega, ?_⟩
  intro t6 e6
  have hmin : min ((L : Int)).toNat IntKind.u64.bits = L := by
    show min ((L : Int)).toNat 64 = L
    omega
  have h4 := h3 h0
  have h5 : (1 : Int) * 2 ^ L = ((2 ^ L : Nat) : Int) := by rw [Int.one_mul, Int.natCast_pow]; rfl
  rw [hmin, h5, wrap_u64 (by omega) (by omega)] at e6
  subst e6
  exact ⟨2 ^ L, rfl, Nat.one_le_two_pow, h4, rfl⟩
theorem next_ok {s : Nat} (ok : Ok H) (hs : One .u64 H s) : FW Ee F_slices_xorshift_Next [.pointer (some ⟨s, 0, none⟩)] H fun r H' => ∃ n : Nat, r = .int .u64 n ∧ One .u64 H' s ∧ Mod (· = s) H H' := by
  obtain ⟨t, ht⟩ := hs
  refine fw_slices_xorshift_Next ?_
  refine ⟨t, cell_of ht rfl, t, cell_of ht rfl, by omega, ?_⟩
  intro t9 _ t10 _
  have h1 := get_set_self H s (.cells (lset [.int .u64 t] 0 [.int .u64 t10]) 0)
  have m1 := Mod.set ok ht (.cells (lset [.int .u64 t] 0 [.int .u64 t10]) 0)
  refine ⟨_, store_of (o := 0) ht (by simp) rfl, t10, cell_of h1 rfl, t10, cell_of h1 rfl, by omega, ?_⟩
  intro t18 _ t19 _
  have h2 := get_set_self (H.set s (.cells (lset [.int .u64 t] 0 [.int .u64 t10]) 0)) s (.cells (lset (lset [.int .u64 t] 0 [.int .u64 t10]) 0 [.int .u64 t19]) 0)
  have m2 := m1.trans (Mod.set m1.ok h1 (.cells (lset (lset [.int .u64 t] 0 [.int .u64 t10]) 0 [.int .u64 t19]) 0))
  refine ⟨_, store_of (o := 0) h1 (by simp [lset]) rfl, t19, cell_of h2 rfl, t19, cell_of h2 rfl, by omega, ?_⟩
  intro t27 _ t28 e28
  obtain ⟨n, _, hn⟩ := ixor_nat t19 t27
  rw [hn] at e28
  subst e28
  have h3 := get_set_self ((H.set s (.cells (lset [.int .u64 t] 0 [.int .u64 t10]) 0)).set s (.cells (lset (lset [.int .u64 t] 0 [.int .u64 t10]) 0 [.int .u64 t19]) 0)) s (.cells (lset (lset (lset [.int .u64 t] 0 [.int .u64 t10]) 0 [.int .u64 t19]) 0 [.int .u64 (n : Int)]) 0)
  refine ⟨_, store_of (o := 0) h2 (by simp [lset]) rfl, n, cell_of h3 rfl, n, rfl, ⟨n, h3⟩, m2.trans (Mod.set m2.ok h2 _)⟩

theorem break_ok {a b : Nat} (ok : Ok H) (hD : D H d zs) (hN : zs.length = N) (hab : a + 8 ≤ b) (hb : b ≤ N) (hn : N ≤ 60000) :
    FW Ee F_slices_breakPatternsOrdered_int64 [.slice (some ⟨d, 0, none⟩) N c, .int .i64 a, .int .i64 b] H fun r H' => r = .tuple ⟨[]⟩ ∧ ∃ ws, D H' d ws ∧ Seg a b zs ws ∧ Mod (· = d) H H' := by
  have hdl : d < H.next := by obtain ⟨es, e⟩ := hD; exact ok.lt e
  refine fw_slices_breakPatternsOrdered_int64 ?_
  intro t13 e13
  obtain rfl : t13 = ((b - a : Nat) : Int) := e13.trans (wnat (by omega) (by omega))
  refine cond_dec (fun _ => ?_) (fun h => by omega)
  intro t17 e17
  intro H1 e1
  obtain ⟨H2, e2, b2, g2, n2⟩ := fresh_store (vs := [.int .u64 t17]) e1 rfl rfl ok
  refine ⟨H2, e2, (nextPow_ok (by omega) (by omega)).mono ?_⟩
  rintro _ _ ⟨M, rfl, hM1, hM2, rfl⟩
  obtain ⟨q, hq⟩ : ∃ q, q = (b - a) / 4 := ⟨_, rfl⟩
  have hdiv : ((b - a : Nat) : Int).tdiv 4 = (q : Int) := by rw [hq]; rfl
  refine ⟨_, rfl, by omega, ?_⟩
  intro t22 e22
  obtain rfl : t22 = (q : Int) := e22.trans (wnat hdiv (by omega))
  intro t23 e23
  obtain rfl : t23 = ((2 * q : Nat) : Int) := e23.trans (wnat (by omega) (by omega))
  intro t24 e24
  obtain rfl : t24 = ((a + 2 * q : Nat) : Int) := e24.trans (wnat (by omega) (by omega))
  intro t25 e25
  obtain rfl : t25 = ((a + 2 * q - 1 : Nat) : Int) := e25.trans (wnat (by omega) (by omega))
  refine ⟨fun m i Hx => ∃ (p : Nat) (ws : List Int), i = p ∧ a ≤ p ∧ p ≤ a + 2 * q + 2 ∧ m = a + 2 * q + 2 - p ∧ One .u64 Hx H.next ∧ D Hx d ws ∧ Seg a b zs ws ∧ Mod (fun x => x = H.next ∨ x = d) H2 Hx, ⟨_, a + 2 * q - 1, zs, rfl, by omega, by omega, rfl, ⟨_, b2⟩, hD.mod g2 id, .refl _ _ _, .refl g2.ok⟩, ?_⟩
  rintro m i Hx ⟨p, ws, rfl, hp1, hp2, rfl, hs, hDx, hS, hm⟩
  have hw := hS.len
  refine ⟨by omega, ?_⟩
  intro t29 e29
  obtain rfl : t29 = (q : Int) := e29.trans (wnat hdiv (by omega))
  intro t30 e30
  obtain rfl : t30 = ((2 * q : Nat) : Int) := e30.trans (wnat (by omega) (by omega))
  intro t31 e31
  obtain rfl : t31 = ((a + 2 * q : Nat) : Int) := e31.trans (wnat (by omega) (by omega))
  intro t32 e32
  obtain rfl : t32 = ((a + 2 * q + 1 : Nat) : Int) := e32.trans (wnat (by omega) (by omega))
  refine cond_dec (fun hle => ?_) (fun _ => ⟨rfl, ws, hDx, hS, ?_⟩)
  · refine (next_ok hm.ok hs).mono ?_
    rintro _ H5 ⟨n, rfl, s5, m5⟩
    refine ⟨_, rfl, ?_⟩
    intro t38 e38
    have e38 : t38 = ((M - 1 : Nat) : Int) := by rw [e38, wrap_u64 (by omega) (by omega)]; omega
    subst e38
    intro t39 e39
    obtain ⟨o, ho, ho2⟩ := iand_le (a := n) (b := M - 1) (by have : (2 : Nat) ^ 64 = 18446744073709551616 := by decide
                                                             omega)
    rw [ho2] at e39
    subst e39
    intro t40 e40
    obtain rfl : t40 = (o : Int) := e40.trans (wnat rfl (by omega))
    have D5 := hDx.mod m5 (by omega)
    have m25 : Mod (fun x => x = H.next ∨ x = d) H2 H5 := hm.trans (m5.le (fun x h _ => .inl h) hm.ok)
    refine ⟨fun o Hy => H5 = Hy ∧ ∃ k : Nat, o = k ∧ k < b - a, ?_, ?_⟩
    · refine cond_dec (fun hge => ?_) (fun hlt => ⟨rfl, o, rfl, by omega⟩)
      intro t46 e46
      obtain rfl : t46 = ((o - (b - a) : Nat) : Int) := e46.trans (wnat (by omega) (by omega))
      exact ⟨rfl, _, rfl, by omega⟩
    rintro o' Hy ⟨rfl, k, rfl, hk⟩
    intro t52 e52
    obtain rfl : t52 = ((a + k : Nat) : Int) := e52.trans (wnat (by omega) (by omega))
    intro t56 e56
    obtain rfl : t56 = ((a + k : Nat) : Int) := e56.trans (wnat (by omega) (by omega))
    obtain ⟨H7, H8, q1, q2, q3, q4⟩ := D5.swap m5.ok (i := p) (j := a + k) (by omega) (by omega)
    refine grd_intro rfl ⟨by omega, by omega, _, D5.cell (by omega), grd_intro rfl ⟨by omega, by omega, _, D5.cell (by omega), grd_intro rfl ⟨by omega, by omega, H7, q1, grd_intro rfl ⟨by omega, by omega, H8, q2, ?_⟩⟩⟩⟩
    intro t35 e35
    obtain rfl : t35 = ((p + 1 : Nat) : Int) := e35.trans (wnat (by omega) (by omega))
    obtain ⟨t, ht⟩ := s5
    exact ⟨a + 2 * q + 2 - (p + 1), by omega, p + 1, _, rfl, by omega, by omega, rfl, ⟨t, q4.get _ _ (by omega) ht⟩, q3, hS.trans (.sw (by omega) (by omega) (by omega) (by omega) (by omega) (by omega)), m25.trans (q4.le (fun x h _ => .inr h) m5.ok)⟩
  · exact (g2.le (fun _ h _ => h.elim) ok).ext hm ok fun x hx => by
      rcases hx with h | h
      · exact .inr (by omega)
      · exact .inl h

theorem partial_ok {a b : Nat} (ok : Ok H) (hD : D H d zs) (hN : zs.length = N) (hab : a < b) (hb : b ≤ N) (hn : N ≤ 1000000) (hlow : 0 < a → ∀ k, a ≤ k → k < b → at_ zs (a - 1) ≤ at_ zs k) :
    FW Ee F_slices_partialInsertionSortOrdered_int64 [.slice (some ⟨d, 0, none⟩) N c, .int .i64 a, .int .i64 b] H fun r H' => ∃ (f : Bool) (ws : List Int), r = .bool f ∧ D H' d ws ∧ Seg a b zs ws ∧ (f = true → Srt a b ws) ∧ Mod (· = d) H H' := by
  have low : ∀ {ws : List Int}, Seg a b zs ws → 0 < a → ∀ k, a ≤ k → k < b → at_ ws (a - 1) ≤ at_ ws k := by
    intro ws hS h0 k h1 h2
    have hw := hS.len
    rw [hS.same (.inl (by omega))]
    exact hS.all (P := fun x => at_ zs (a - 1) ≤ x) (fun i h3 h4 _ => hlow h0 i h3 h4) k h1 h2 (by omega)
  refine fw_slices_partialInsertionSortOrdered_int64 ?_
  intro t12 e12
  obtain rfl : t12 = ((a + 1 : Nat) : Int) := e12.trans (wnat (by omega) (by omega))
  refine ⟨fun m i _ j Hx => ∃ (p l : Nat) (ws : List Int), i = p ∧ j = l ∧ l ≤ 5 ∧ m = 5 - l ∧ a + 1 ≤ p ∧ p ≤ b ∧ D Hx d ws ∧ Seg a b zs ws ∧ Srt a p ws ∧ Mod (· = d) H Hx, ⟨_, a + 1, 0, zs, rfl, rfl, by omega, rfl, by omega, by omega, hD, .refl _ _ _, .one (by omega), .refl ok⟩, ?_⟩
  rintro m i t6 j Hx ⟨p, l, ws, rfl, rfl, hl, rfl, hp1, hp2, hDx, hS, hSr, hm⟩
  have hw := hS.len
  refine cond_dec (fun hlt => ?_) (fun _ => ⟨false, ws, rfl, hDx, hS, fun h => (by cases h), hm⟩)
  refine ⟨fun i Hy => Hx = Hy ∧ ∃ r : Nat, i = r ∧ a + 1 ≤ r ∧ r ≤ b ∧ Srt a r ws, ?_, ?_⟩
  · refine ⟨fun m i Hy => Hx = Hy ∧ ∃ r : Nat, i = r ∧ a + 1 ≤ r ∧ r ≤ b ∧ m = b - r ∧ Srt a r ws, ⟨_, rfl, p, rfl, hp1, hp2, rfl, hSr⟩, ?_⟩
    rintro m i Hy ⟨rfl, r, rfl, hr1, hr2, rfl, hR⟩
    refine cond_dec (fun hlt2 => ?_) (fun _ => ⟨rfl, r, rfl, hr1, hr2, hR⟩)
    refine grd_intro rfl ⟨by omega, by omega, _, hDx.cell (by omega), ?_⟩
    intro t27 e27
    obtain rfl : t27 = ((r - 1 : Nat) : Int) := e27.trans (wnat (by omega) (by omega))
    refine grd_intro rfl ⟨by omega, by omega, _, hDx.cell (by omega), less_ok.mono ?_⟩
    rintro _ _ ⟨rfl, rfl⟩
    refine ⟨_, rfl, cond_intro (fun hnl => ?_) (fun _ => ⟨rfl, r, rfl, hr1, hr2, hR⟩)⟩
    have hnl : ¬ at_ ws r < at_ ws (r - 1) := by simpa using hnl
    intro t et
    obtain rfl : t = ((r + 1 : Nat) : Int) := et.trans (wnat (by omega) (by omega))
    exact ⟨b - (r + 1), by omega, rfl, r + 1, rfl, by omega, by omega, rfl, (SrtB.start hR).stop (.inr (by omega))⟩
  rintro i Hy ⟨rfl, r, rfl, hr1, hr2, hR⟩
  refine cond_intro (fun hend => ?_) (fun hne => ?_)
  · have : (r : Int) = (b : Int) := by simpa using hend
    have : r = b := by omega
    subst this
    exact ⟨true, ws, rfl, hDx, hS, fun _ => hR, hm⟩
  have hne : r ≠ b := by
    have : (r : Int) ≠ (b : Int) := by simpa using hne
    omega
  intro t40 e40
  obtain rfl : t40 = ((b - a : Nat) : Int) := e40.trans (wnat (by omega) (by omega))
  refine cond_dec (fun _ => ⟨false, ws, rfl, hDx, hS, fun h => (by cases h), hm⟩) (fun h50 => ?_)
  intro t46 e46
  obtain rfl : t46 = ((r - 1 : Nat) : Int) := e46.trans (wnat (by omega) (by omega))
  intro t49 e49
  obtain rfl : t49 = ((r - 1 : Nat) : Int) := e49.trans (wnat (by omega) (by omega))
  obtain ⟨H5, H6, s1, s2, s3, s4⟩ := hDx.swap hm.ok (i := r) (j := r - 1) (by omega) (by omega)
  refine grd_intro rfl ⟨by omega, by omega, _, hDx.cell (by omega), grd_intro rfl ⟨by omega, by omega, _, hDx.cell (by omega), grd_intro rfl ⟨by omega, by omega, H5, s1, grd_intro rfl ⟨by omega, by omega, H6, s2, ?_⟩⟩⟩⟩
  have hS6 : Seg a b zs (sw ws r (r - 1)) := hS.trans (.sw (by omega) (by omega) (by omega) (by omega) (by omega) (by omega))
  have hm6 := hm.trans s4
  have hB6 : SrtB a r (r - 1) (sw ws r (r - 1)) := by
    intro x y h1 h2 h3 h4
    rw [sw_at (by omega) (by omega), sw_at (by omega) (by omega), if_neg (by omega), if_neg (by omega), if_neg (by omega), if_neg (by omega)]
    exact hR x y h1 h2 (by omega)
  intro t60 e60
  obtain rfl : t60 = ((r - a : Nat) : Int) := e60.trans (wnat (by omega) (by omega))
  refine ⟨fun Hz => ∃ us, D Hz d us ∧ Seg a b zs us ∧ Srt a r us ∧ Mod (· = d) H Hz, ⟨cond_dec (fun h2 => ?_) (fun h2 => ⟨_, s3, hS6, .one (by omega), hm6⟩), ?_⟩⟩
  · intro t63 e63
    obtain rfl : t63 = ((r - 1 : Nat) : Int) := e63.trans (wnat (by omega) (by omega))
    refine ⟨fun _ Hz => ∃ us, D Hz d us ∧ Seg a b zs us ∧ Srt a r us ∧ Mod (· = d) H Hz, ⟨?_, fun _ _ h => h⟩⟩
    refine ⟨fun m j Hz => ∃ (q : Nat) (us : List Int), j = q ∧ a ≤ q ∧ q < r ∧ q = m ∧ D Hz d us ∧ Seg a b zs us ∧ SrtB a r q us ∧ Mod (· = d) H Hz, ⟨_, r - 1, _, rfl, by omega, by omega, rfl, s3, hS6, hB6, hm6⟩, ?_⟩
    rintro m j Hz ⟨q, us, rfl, hq1, hq2, rfl, hDz, hSz, hBz, hmz⟩
    have hul := hSz.len
    refine cond_dec (fun hge => ?_) (fun hlt3 => ⟨us, hDz, hSz, hBz.stop (.inl (by omega)), hmz⟩)
    refine grd_intro rfl ⟨by omega, by omega, _, hDz.cell (by omega), ?_⟩
    intro t74 e74
    obtain rfl : t74 = ((q - 1 : Nat) : Int) := e74.trans (wnat (by omega) (by omega))
    refine grd_intro rfl ⟨by omega, by omega, _, hDz.cell (by omega), less_ok.mono ?_⟩
    rintro _ _ ⟨rfl, rfl⟩
    refine ⟨_, rfl, cond_intro (fun hnl => ?_) (fun hl2 => ?_)⟩
    · have hnl : ¬ at_ us q < at_ us (q - 1) := by simpa using hnl
      exact ⟨us, hDz, hSz, hBz.stop (.inr (by omega)), hmz⟩
    · have hl2 : at_ us q < at_ us (q - 1) := by simpa using hl2
      have hqa : a < q := by
        rcases Nat.lt_or_ge a q with h | h
        · exact h
        · have : q = a := by omega
          subst this
          have := low hSz (by omega) q (by omega) (by omega)
          omega
      intro t83 e83
      obtain rfl : t83 = ((q - 1 : Nat) : Int) := e83.trans (wnat (by omega) (by omega))
      intro t86 e86
      obtain rfl : t86 = ((q - 1 : Nat) : Int) := e86.trans (wnat (by omega) (by omega))
      obtain ⟨H9, H10, k1, k2, k3, k4⟩ := hDz.swap hmz.ok (i := q) (j := q - 1) (by omega) (by omega)
      refine grd_intro rfl ⟨by omega, by omega, _, hDz.cell (by omega), grd_intro rfl ⟨by omega, by omega, _, hDz.cell (by omega), grd_intro rfl ⟨by omega, by omega, H9, k1, grd_intro rfl ⟨by omega, by omega, H10, k2, ?_⟩⟩⟩⟩
      intro t67 e67
      obtain rfl : t67 = ((q - 1 : Nat) : Int) := e67.trans (wnat (by omega) (by omega))
      refine ⟨q - 1, by omega, q - 1, _, rfl, by omega, by omega, rfl, k3, hSz.trans (.sw (by omega) (by omega) (by omega) (by omega) (by omega) (by omega)), ?_, hmz.trans k4⟩
      rw [sw_comm]
      exact hBz.step hqa (by omega) (by omega) hl2
  rintro Hz ⟨us, hDz, hSz, hRz, hmz⟩
  intro t97 e97
  obtain rfl : t97 = ((b - r : Nat) : Int) := e97.trans (wnat (by omega) (by omega))
  refine ⟨fun Hw => ∃ vs, D Hw d vs ∧ Seg a b zs vs ∧ Srt a r vs ∧ Mod (· = d) H Hw, ⟨cond_dec (fun h2 => ?_) (fun _ => ⟨us, hDz, hSz, hRz, hmz⟩), ?_⟩⟩
  · intro t100 e100
    obtain rfl : t100 = ((r + 1 : Nat) : Int) := e100.trans (wnat (by omega) (by omega))
    refine ⟨fun _ Hw => ∃ vs, D Hw d vs ∧ Seg a b zs vs ∧ Srt a r vs ∧ Mod (· = d) H Hw, ⟨?_, fun _ _ h => h⟩⟩
    refine ⟨fun m j Hw => ∃ (q : Nat) (vs : List Int), j = q ∧ r + 1 ≤ q ∧ q ≤ b ∧ m = b - q ∧ D Hw d vs ∧ Seg a b zs vs ∧ Srt a r vs ∧ Mod (· = d) H Hw, ⟨_, r + 1, us, rfl, by omega, by omega, rfl, hDz, hSz, hRz, hmz⟩, ?_⟩
    rintro m j Hw ⟨q, vs, rfl, hq1, hq2, rfl, hDw, hSw, hRw, hmw⟩
    have hvl := hSw.len
    refine cond_dec (fun hlt3 => ?_) (fun _ => ⟨vs, hDw, hSw, hRw, hmw⟩)
    refine grd_intro rfl ⟨by omega, by omega, _, hDw.cell (by omega), ?_⟩
    intro t112 e112
    obtain rfl : t112 = ((q - 1 : Nat) : Int) := e112.trans (wnat (by omega) (by omega))
    refine grd_intro rfl ⟨by omega, by omega, _, hDw.cell (by omega), less_ok.mono ?_⟩
    rintro _ _ ⟨rfl, rfl⟩
    refine ⟨_, rfl, cond_intro (fun _ => ⟨vs, hDw, hSw, hRw, hmw⟩) (fun _ => ?_)⟩
    intro t121 e121
    obtain rfl : t121 = ((q - 1 : Nat) : Int) := e121.trans (wnat (by omega) (by omega))
    intro t124 e124
    obtain rfl : t124 = ((q - 1 : Nat) : Int) := e124.trans (wnat (by omega) (by omega))
    obtain ⟨H15, H16, k1, k2, k3, k4⟩ := hDw.swap hmw.ok (i := q) (j := q - 1) (by omega) (by omega)
    refine grd_intro rfl ⟨by omega, by omega, _, hDw.cell (by omega), grd_intro rfl ⟨by omega, by omega, _, hDw.cell (by omega), grd_intro rfl ⟨by omega, by omega, H15, k1, grd_intro rfl ⟨by omega, by omega, H16, k2, ?_⟩⟩⟩⟩
    intro t105 e105
    obtain rfl : t105 = ((q + 1 : Nat) : Int) := e105.trans (wnat (by omega) (by omega))
    refine ⟨b - (q + 1), by omega, q + 1, _, rfl, by omega, by omega, rfl, k3, hSw.trans (.sw (by omega) (by omega) (by omega) (by omega) (by omega) (by omega)), hRw.same fun i h1 h2 => ?_, hmw.trans k4⟩
    rw [sw_at (by omega) (by omega), if_neg (by omega), if_neg (by omega)]
  rintro Hw ⟨vs, hDw, hSw, hRw, hmw⟩
  intro t16 e16
  obtain rfl : t16 = ((l + 1 : Nat) : Int) := e16.trans (wnat (by omega) (by omega))
  exact ⟨5 - (l + 1), by omega, r, l + 1, vs, rfl, rfl, by omega, rfl, by omega, by omega, hDw, hSw, hRw, hmw⟩
end
end Go.Proofs.Cx

namespace Go.Ev
open Go
/-- what is known between the rounds: p to q is left to do -/
structure PQ (a b p q : Nat) (ws : List Int) : Prop where
  ap : a ≤ p
  pq : p ≤ q
  qb : q ≤ b
  bl : b ≤ ws.length
  s1 : Srt a p ws
  s2 : Srt q b ws
  s3 : ∀ i j, a ≤ i → i < p → p ≤ j → j < b → at_ ws i ≤ at_ ws j
  s4 : ∀ i j, a ≤ i → i < q → q ≤ j → j < b → at_ ws i ≤ at_ ws j
  s5 : 0 < p → ∀ k, p ≤ k → k < q → at_ ws (p - 1) ≤ at_ ws k
section
variable {a b p q : Nat} {ws us : List Int}
theorem PQ.seg (h : PQ a b p q ws) (k : Seg p q ws us) : PQ a b p q us := by
  have hl := k.len
  have h1 := h.ap
  have h2 := h.pq
  have h3 := h.qb
  have h4 := h.bl
  have out : ∀ i, (i < p ∨ q ≤ i) → at_ us i = at_ ws i := fun i hi => k.same hi
  refine ⟨h1, h2, h3, by omega, h.s1.same fun i _ hi => out i (.inl hi), h.s2.same fun i hi _ => out i (.inr hi), fun i j g1 g2 g3 g4 => ?_, fun i j g1 g2 g3 g4 => ?_, fun h0 j g1 g2 => ?_⟩
  · rw [out i (.inl g2)]
    rcases Nat.lt_or_ge j q with g5 | g5
    · exact k.all (P := fun x => at_ ws i ≤ x) (fun j' g6 g7 _ => h.s3 i j' g1 g2 g6 (by omega)) j g3 g5 (by omega)
    · rw [out j (.inr g5)]; exact h.s3 i j g1 g2 g3 g4
  · rw [out j (.inr g3)]
    rcases Nat.lt_or_ge i p with g5 | g5
    · rw [out i (.inl g5)]; exact h.s4 i j g1 g2 g3 g4
    · exact k.all (P := fun x => x ≤ at_ ws j) (fun i' g6 g7 _ => h.s4 i' j (by omega) g7 g3 g4) i g5 g2 (by omega)
  · rw [out (p - 1) (.inl (by omega))]
    exact k.all (P := fun x => at_ ws (p - 1) ≤ x) (fun j' g6 g7 _ => h.s5 h0 j' g6 g7) j g1 g2 (by omega)
theorem PQ.done (h : PQ a b p q ws) (hs : Srt p q ws) : Srt a b ws := by
  intro i j h1 h2 h3
  rcases Nat.lt_or_ge i p with g1 | g1
  · rcases Nat.lt_or_ge j p with g2 | g2
    · exact h.s1 i j h1 h2 g2
    · exact h.s3 i j h1 g1 g2 h3
  · rcases Nat.lt_or_ge j q with g2 | g2
    · exact hs i j g1 h2 g2
    · rcases Nat.lt_or_ge i q with g3 | g3
      · exact h.s4 i j h1 g3 g2 h3
      · exact h.s2 i j g3 h2 h3
theorem PQ.start {zs : List Int} (hab : a ≤ b) (hb : b ≤ zs.length) (hlow : 0 < a → ∀ k, a ≤ k → k < b → at_ zs (a - 1) ≤ at_ zs k) : PQ a b a b zs :=
  ⟨Nat.le_refl _, hab, Nat.le_refl _, hb, .one (by omega), .one (by omega), fun i j _ _ _ _ => by omega, fun i j _ _ _ _ => by omega, hlow⟩
/-- those that equal the pivot are done -/
theorem PQ.equal {j : Nat} {P : Int} (h : PQ a b p q ws) (hj : p < j) (hjq : j ≤ q) (h0 : 0 < p) (hP : P ≤ at_ ws (p - 1)) (k1 : ∀ k, p ≤ k → k < j → at_ ws k ≤ P) (k2 : ∀ k, j ≤ k → k < q → P < at_ ws k) : PQ a b j q ws := by
  have eq : ∀ k, p ≤ k → k < j → at_ ws k = P := fun k g1 g2 => by
    have := k1 k g1 g2
    have := h.s5 h0 k g1 (by omega)
    omega
  refine ⟨by have := h.ap; omega, hjq, h.qb, h.bl, fun i l g1 g2 g3 => ?_, h.s2, fun i l g1 g2 g3 g4 => ?_, h.s4, fun _ l g1 g2 => ?_⟩
  · rcases Nat.lt_or_ge i p with g4 | g4
    · rcases Nat.lt_or_ge l p with g5 | g5
      · exact h.s1 i l g1 g2 g5
      · exact h.s3 i l g1 g4 g5 (by have := h.qb; omega)
    · rw [eq i g4 (by omega), eq l (by omega) g3]; exact Int.le_refl _
  · rcases Nat.lt_or_ge i p with g5 | g5
    · exact h.s3 i l g1 g5 (by omega) g4
    · rw [eq i g5 g2]
      rcases Nat.lt_or_ge l q with g6 | g6
      · have := k2 l g3 g6; omega
      · have := h.s4 i l g1 (by omega) g6 g4
        rw [eq i g5 g2] at this; exact this
  · rw [eq (j - 1) (by omega) (by omega)]
    have := k2 l g1 g2; omega
/-- the left side is done -/
theorem PQ.left {j : Nat} (h : PQ a b p q ws) (hp : p ≤ j) (hjq : j < q) (k1 : ∀ k, p ≤ k → k < j → at_ ws k < at_ ws j) (k2 : ∀ k, j < k → k < q → at_ ws j ≤ at_ ws k) (hseg : Seg p j ws us) (hs : Srt p j us) : PQ a b (j + 1) q us := by
  have hl := hseg.len
  have h1 := h.ap
  have h3 := h.qb
  have h4 := h.bl
  have hu := h.seg (hseg.wide (Nat.le_refl _) (by omega))
  have out : ∀ i, (i < p ∨ j ≤ i) → at_ us i = at_ ws i := fun i hi => hseg.same hi
  have hle : ∀ k, p ≤ k → k < j → at_ us k ≤ at_ ws j := fun k g1 g2 =>
    hseg.all (P := fun x => x ≤ at_ ws j) (fun i g3 g4 _ => Int.le_of_lt (k1 i g3 g4)) k g1 g2 (by omega)
  have hjn : ∀ k, j < k → k < b → at_ us j ≤ at_ us k := fun k g1 g2 => by
    rw [out j (.inr (Nat.le_refl _)), out k (.inr (by omega))]
    rcases Nat.lt_or_ge k q with g3 | g3
    · exact k2 k g1 g3
    · exact h.s4 j k (by omega) hjq g3 g2
  refine ⟨by omega, by omega, h3, by omega, fun i l g1 g2 g3 => ?_, hu.s2, fun i l g1 g2 g3 g4 => ?_, hu.s4, fun _ l g1 g2 => ?_⟩
  · rcases Nat.lt_or_ge i p with g4 | g4
    · rcases Nat.lt_or_ge l p with g5 | g5
      · exact hu.s1 i l g1 g2 g5
      · exact hu.s3 i l g1 g4 g5 (by omega)
    · rcases Nat.lt_or_ge l j with g5 | g5
      · exact hs i l g4 g2 g5
      · have : l = j := by omega
        subst this
        rw [out l (.inr (Nat.le_refl _))]; exact hle i g4 (by omega)
  · rcases Nat.lt_or_ge i p with g5 | g5
    · exact hu.s3 i l g1 g5 (by omega) g4
    · rcases Nat.lt_or_ge i j with g6 | g6
      · have q1 := hle i g5 g6
        have q2 := hjn l (by omega) g4
        rw [out j (.inr (Nat.le_refl _))] at q2
        omega
      · have : i = j := by omega
        subst this; exact hjn l (by omega) g4
  · exact hjn l (by omega) (by omega)
/-- the right side is done -/
theorem PQ.right {j : Nat} (h : PQ a b p q ws) (hp : p ≤ j) (hjq : j < q) (k1 : ∀ k, p ≤ k → k < j → at_ ws k < at_ ws j) (k2 : ∀ k, j < k → k < q → at_ ws j ≤ at_ ws k) (hseg : Seg (j + 1) q ws us) (hs : Srt (j + 1) q us) : PQ a b p j us := by
  have hl := hseg.len
  have h1 := h.ap
  have h3 := h.qb
  have h4 := h.bl
  have hu := h.seg (hseg.wide (by omega) (Nat.le_refl _))
  have out : ∀ i, (i < j + 1 ∨ q ≤ i) → at_ us i = at_ ws i := fun i hi => hseg.same hi
  have hjm : ∀ k, j + 1 ≤ k → k < q → at_ ws j ≤ at_ us k := fun k g1 g2 =>
    hseg.all (P := fun x => at_ ws j ≤ x) (fun i g3 g4 _ => k2 i (by omega) g4) k g1 g2 (by omega)
  have hjn : ∀ k, j < k → k < b → at_ us j ≤ at_ us k := fun k g1 g2 => by
    rcases Nat.lt_or_ge k q with g3 | g3
    · rw [out j (.inl (by omega))]; exact hjm k (by omega) g3
    · exact hu.s4 j k (by omega) hjq g3 g2
  refine ⟨h1, hp, by omega, by omega, hu.s1, fun i l g1 g2 g3 => ?_, hu.s3, fun i l g1 g2 g3 g4 => ?_, fun h0 l g1 g2 => hu.s5 h0 l g1 (by omega)⟩
  · rcases Nat.lt_or_ge i (j + 1) with g4 | g4
    · have : i = j := by omega
      subst this; exact hjn l g2 g3
    · rcases Nat.lt_or_ge l q with g5 | g5
      · exact hs i l g4 g2 g5
      · rcases Nat.lt_or_ge i q with g6 | g6
        · exact hu.s4 i l (by omega) g6 g5 g3
        · exact hu.s2 i l g6 g2 g3
  · rcases Nat.lt_or_ge i p with g5 | g5
    · exact hu.s3 i l g1 g5 (by omega) g4
    · have q1 : at_ us i < at_ us j := by
        rw [out i (.inl (by omega)), out j (.inl (by omega))]; exact k1 i g5 g2
      rcases Nat.lt_or_ge j l with g6 | g6
      · have := hjn l g6 g4; omega
      · have : l = j := by omega
        subst this; omega
end
end Go.Ev
namespace Go.Proofs.Cx
open Go Go.Ev

theorem pdqsort_ok (k : Nat) : ∀ {H : AH} {d N c a b limit : Nat} {zs : List Int}, b - a ≤ k → Ok H → D H d zs → zs.length = N → a ≤ b → b ≤ N → N ≤ 60000 → limit ≤ 100 → (0 < a → ∀ k, a ≤ k → k < b → at_ zs (a - 1) ≤ at_ zs k) →
    FW Ee F_slices_pdqsortOrdered_int64 [.slice (some ⟨d, 0, none⟩) N c, .int .i64 a, .int .i64 b, .int .i64 limit] H fun r H' => r = .tuple ⟨[]⟩ ∧ ∃ ws, D H' d ws ∧ Seg a b zs ws ∧ Srt a b ws ∧ Mod (· = d) H H' := by
  induction k with
  | zero =>
    intro H d N c a b limit zs hk ok hD hN hab hb hn hl hlow
    refine fw_slices_pdqsortOrdered_int64 ?_
    refine ⟨fun _ l a' _ _ b' Hx => H = Hx ∧ a' = (a : Int) ∧ b' = (b : Int), ⟨0, rfl, rfl, rfl⟩, ?_⟩
    rintro m l a' wp wb b' Hx ⟨rfl, rfl, rfl⟩
    intro t21 e21
    obtain rfl : t21 = ((b - a : Nat) : Int) := e21.trans (wnat (by omega) (by omega))
    refine cond_dec (fun _ => ?_) (fun h => by omega)
    refine (insertion_ok ok hD hN (by omega) hb (by omega)).mono ?_
    rintro _ H2 ⟨rfl, h⟩
    exact ⟨rfl, rfl, h⟩
  | succ k ih =>
    intro H d N c a b limit zs hk ok hD hN hab hb hn hl hlow
    refine fw_slices_pdqsortOrdered_int64 ?_
    refine ⟨fun m l a' _ _ b' Hx => ∃ (lim p q : Nat) (ws : List Int), l = lim ∧ a' = p ∧ b' = q ∧ lim ≤ 100 ∧ m = q - p ∧ D Hx d ws ∧ Seg a b zs ws ∧ PQ a b p q ws ∧ Mod (· = d) H Hx,
      ⟨_, limit, a, b, zs, rfl, rfl, rfl, hl, rfl, hD, .refl _ _ _, PQ.start hab (by omega) hlow, .refl ok⟩, ?_⟩
    rintro m l a' wp wb b' Hx ⟨lim, p, q, ws, rfl, rfl, rfl, hlim, rfl, hDx, hS, hQ, hm⟩
    have hw := hS.len
    have q1 := hQ.ap
    have q2 := hQ.pq
    have q3 := hQ.qb
    intro t21 e21
    obtain rfl : t21 = ((q - p : Nat) : Int) := e21.trans (wnat (by omega) (by omega))
    have finish : ∀ {Hy Hz : AH} {us vs : List Int}, Seg a b zs us → PQ a b p q us → Mod (· = d) H Hy → D Hz d vs → Seg p q us vs → Srt p q vs → Mod (· = d) Hy Hz → Value.tuple ⟨[]⟩ = .tuple ⟨[]⟩ ∧ ∃ ws, D Hz d ws ∧ Seg a b zs ws ∧ Srt a b ws ∧ Mod (· = d) H Hz :=
      fun h1 h2 h3 h4 h5 h6 h7 => ⟨rfl, _, h4, h1.trans (h5.wide q1 q3), (h2.seg h5).done h6, h3.trans h7⟩
    refine cond_dec (fun _ => ?_) (fun hbig => ?_)
    · refine (insertion_ok hm.ok hDx (by omega) (by omega) (by omega) (by omega)).mono ?_
      rintro _ H2 ⟨rfl, us, k1, k2, k3, k4⟩
      exact ⟨rfl, finish hS hQ hm k1 k2 k3 k4⟩
    refine cond_intro (fun _ => ?_) (fun hl0 => ?_)
    · refine (heapsort_ok hm.ok hDx (by omega) q2 (by omega) (by omega)).mono ?_
      rintro _ H2 ⟨rfl, us, k1, k2, k3, k4⟩
      exact ⟨rfl, finish hS hQ hm k1 k2 k3 k4⟩
    have hl0 : lim ≠ 0 := by
      have : (lim : Int) ≠ 0 := by simpa using hl0
      omega
    refine ⟨fun l Hy => ∃ (lim : Nat) (us : List Int), l = lim ∧ lim ≤ 100 ∧ D Hy d us ∧ Seg a b zs us ∧ PQ a b p q us ∧ Mod (· = d) H Hy, ⟨?_, ?_⟩⟩
    · refine cond_intro (fun _ => ?_) (fun _ => ⟨lim, ws, rfl, hlim, hDx, hS, hQ, hm⟩)
      refine (break_ok hm.ok hDx (by omega) (by omega) (by omega) (by omega)).mono ?_
      rintro _ H4 ⟨rfl, us, k1, k2, k3⟩
      refine ⟨rfl, ?_⟩
      intro t41 e41
      obtain rfl : t41 = ((lim - 1 : Nat) : Int) := e41.trans (wnat (by omega) (by omega))
      exact ⟨lim - 1, us, rfl, by omega, k1, hS.trans (k2.wide q1 q3), hQ.seg k2, hm.trans k3⟩
    clear hDx hS hQ hm hw hl0 hlim
    rintro l2 Hy ⟨lim2, us, rfl, hlim2, hDy, hSy, hQy, hmy⟩
    have hul := hSy.len
    refine (choosePivot_ok hmy.ok hDy (by omega) (by omega) (by omega) (by omega)).mono ?_
    rintro _ H6 ⟨pv, hint, rfl, hp1, hp2, g6⟩
    have D6 := hDy.mod g6 id
    have m6 : Mod (· = d) H H6 := hmy.add g6
    refine ⟨_, _, rfl, ?_⟩
    refine ⟨fun v h Hz => ∃ (w : Nat) (vs : List Int), v = w ∧ p ≤ w ∧ w < q ∧ D Hz d vs ∧ Seg a b zs vs ∧ PQ a b p q vs ∧ Mod (· = d) H Hz, ⟨?_, ?_⟩⟩
    · refine cond_intro (fun _ => ?_) (fun _ => ⟨pv, us, rfl, hp1, hp2, D6, hSy, hQy, m6⟩)
      refine (reverse_ok m6.ok D6 (by omega) (by omega) (by omega) (by omega)).mono ?_
      rintro _ H7 ⟨rfl, vs, k1, k2, k3⟩
      refine ⟨rfl, ?_⟩
      intro t56 e56
      obtain rfl : t56 = ((q - 1 : Nat) : Int) := e56.trans (wnat (by omega) (by omega))
      intro t59 e59
      obtain rfl : t59 = ((pv - p : Nat) : Int) := e59.trans (wnat (by omega) (by omega))
      intro t60 e60
      obtain rfl : t60 = ((q - 1 - (pv - p) : Nat) : Int) := e60.trans (wnat (by omega) (by omega))
      exact ⟨_, vs, rfl, by omega, by omega, k1, hSy.trans (k2.wide q1 q3), hQy.seg k2, m6.trans k3⟩
    clear hDy hSy hQy hmy hul D6 m6 g6 hp1 hp2
    rintro pv2 hint2 H8 ⟨v, vs, rfl, hv1, hv2, hD8, hS8, hQ8, hm8⟩
    have hvl := hS8.len
    refine cond_intro (fun _ => cond_intro (fun _ => ?A) (fun _ => ?B)) (fun _ => ?C)
    case' A =>
      refine ⟨fun Hz => ∃ (xs : List Int), D Hz d xs ∧ Seg a b zs xs ∧ PQ a b p q xs ∧ Mod (· = d) H Hz, ⟨?_, ?_⟩⟩
      · refine cond_intro (fun _ => ?_) (fun _ => ⟨vs, hD8, hS8, hQ8, hm8⟩)
        refine (partial_ok hm8.ok hD8 (by omega) (by omega) (by omega) (by omega) hQ8.s5).mono ?_
        rintro _ H9 ⟨f, xs, rfl, k1, k2, k3, k4⟩
        refine ⟨f, rfl, cond_intro (fun hf => finish hS8 hQ8 hm8 k1 k2 (k3 hf) k4) (fun _ => ?_)⟩
        exact ⟨xs, k1, hS8.trans (k2.wide q1 q3), hQ8.seg k2, hm8.trans k4⟩
    case' B =>
      refine ⟨fun Hz => ∃ (xs : List Int), D Hz d xs ∧ Seg a b zs xs ∧ PQ a b p q xs ∧ Mod (· = d) H Hz, ⟨vs, hD8, hS8, hQ8, hm8⟩, ?_⟩
    case' C =>
      refine ⟨fun Hz => ∃ (xs : List Int), D Hz d xs ∧ Seg a b zs xs ∧ PQ a b p q xs ∧ Mod (· = d) H Hz, ⟨vs, hD8, hS8, hQ8, hm8⟩, ?_⟩
    all_goals
      clear hD8 hS8 hQ8 hm8 hvl
      rintro Hz ⟨xs, hDz, hSz, hQz, hmz⟩
      have hxl := hSz.len
      refine cond_dec (fun hp0 => ?_) (fun hp0 => ?_)
      case' _ =>
        intro t78 e78
        obtain rfl : t78 = ((p - 1 : Nat) : Int) := e78.trans (wnat (by omega) (by omega))
        refine grd_intro rfl ⟨by omega, by omega, _, hDz.cell (by omega), grd_intro rfl ⟨by omega, by omega, _, hDz.cell (by omega), less_ok.mono ?_⟩⟩
        rintro _ _ ⟨rfl, rfl⟩
        refine ⟨_, rfl, cond_intro (fun hnl => ?_) (fun _ => ?_)⟩
        · have hnl : ¬ at_ xs (p - 1) < at_ xs v := by simpa using hnl
          refine (partitionEqual_ok hmz.ok hDz (by omega) hv1 hv2 (by omega) (by omega)).mono ?_
          rintro _ H12 ⟨j, ys, rfl, k1, k2, k3, k4, k5, k6, k7⟩
          have hQ2 := hQz.seg k4
          have hsame : at_ ys (p - 1) = at_ xs (p - 1) := k4.same (.inl (by omega))
          refine ⟨_, rfl, q - j, by omega, lim2, j, q, ys, rfl, rfl, rfl, hlim2, rfl, k3, hSz.trans (k4.wide q1 q3), hQ2.equal k1 k2 (by omega) (by rw [hsame]; omega) k5 k6, hmz.trans k7⟩
      all_goals
        refine (partition_ok hmz.ok hDz (by omega) hv1 hv2 (by omega) (by omega)).mono ?_
        rintro _ H13 ⟨j, f, ys, rfl, k1, k2, k3, k4, k5, k6, k7⟩
        have hyl := k4.len
        have hQ2 := hQz.seg k4
        have hS2 := hSz.trans (k4.wide q1 q3)
        have hm2 := hmz.trans k7
        refine ⟨_, _, rfl, ?_⟩
        intro t105 e105
        obtain rfl : t105 = ((j - p : Nat) : Int) := e105.trans (wnat (by omega) (by omega))
        intro t108 e108
        obtain rfl : t108 = ((q - j : Nat) : Int) := e108.trans (wnat (by omega) (by omega))
        refine ⟨by omega, ?_⟩
        intro t110 e110
        refine cond_dec (fun _ => ?_) (fun _ => ?_)
        · refine (ih (by omega) hm2.ok k3 (by omega) k1 (by omega) (by omega) hlim2 (fun h0 l g1 g2 => hQ2.s5 h0 l g1 (by omega))).mono ?_
          rintro _ H14 ⟨rfl, vs2, l1, l2, l3, l4⟩
          refine ⟨rfl, ?_⟩
          intro t123 e123
          obtain rfl : t123 = ((j + 1 : Nat) : Int) := e123.trans (wnat (by omega) (by omega))
          exact ⟨q - (j + 1), by omega, lim2, j + 1, q, vs2, rfl, rfl, rfl, hlim2, rfl, l1, hS2.trans (l2.wide q1 (by omega)), hQ2.left k1 k2 k5 k6 l2 l3, hm2.trans l4⟩
        · intro t129 e129
          obtain rfl : t129 = ((j + 1 : Nat) : Int) := e129.trans (wnat (by omega) (by omega))
          refine (ih (by omega) hm2.ok k3 (by omega) (by omega) (by omega) (by omega) hlim2 (fun _ l g1 g2 => by rw [Nat.add_sub_cancel]; exact k6 l (by omega) g2)).mono ?_
          rintro _ H15 ⟨rfl, vs2, l1, l2, l3, l4⟩
          exact ⟨rfl, j - p, by omega, lim2, p, j, vs2, rfl, rfl, rfl, hlim2, rfl, l1, hS2.trans (l2.wide (by omega) q3), hQ2.right k1 k2 k5 k6 l2 l3, hm2.trans l4⟩

/-- slices.Sort: the same numbers, in order -/
theorem sort64_ok {H : AH} {d N c : Nat} {zs : List Int} (ok : Ok H) (hD : D H d zs) (hN : zs.length = N) (hn : N ≤ 60000) :
    FW Ee F_slices_Sort_L_int64_int64 [.slice (some ⟨d, 0, none⟩) N c] H fun r H' => r = .tuple ⟨[]⟩ ∧ D H' d (sortI zs) ∧ Mod (· = d) H H' := by
  refine fw_slices_Sort_L_int64_int64 ?_
  intro t8 e8
  rw [wrap_u64 (by omega) (by omega)] at e8
  subst e8
  refine (len_ok (by omega)).mono ?_
  rintro _ _ ⟨L, rfl, h1, _, _, rfl⟩
  refine ⟨_, rfl, ?_⟩
  have := pdqsort_ok (N - 0) (H := H) (c := c) (a := 0) (b := N) (limit := L) (zs := zs) (Nat.le_refl _) ok hD hN (by omega) (Nat.le_refl _) hn (by omega) (fun h => by omega)
  refine this.mono ?_
  rintro _ H2 ⟨rfl, ws, k1, k2, k3, k4⟩
  have hw := k2.len
  have hsorted : ws.Pairwise (· ≤ ·) := List.pairwise_iff_getElem.2 fun i j hi hj hij => by
    have := k3 i j (by omega) hij (by omega)
    rwa [at_eq hi, at_eq hj] at this
  have hp : ws.Perm (sortI zs) := k2.perm.trans (List.mergeSort_perm zs _).symm
  have e : ws = sortI zs := List.Perm.eq_of_pairwise (fun a b _ _ h1 h2 => Int.le_antisymm h1 h2) hsorted (sortI_le zs) hp
  exact ⟨rfl, rfl, e ▸ k1, k4⟩
end Go.Proofs.Cx
