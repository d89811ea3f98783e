/- slices.Sort at int64: order by insertion, by heaps. slices.Sort at int64: partitions. -/
import Derived.Test.YtojohclbjcnhaaaC4
import Derived.Test.YtojohclbjcnhaaaVc5
namespace Go.Ev
open Go
theorem sw_comm (zs : List Int) (i j : Nat) : sw zs i j = sw zs j i := by
  unfold sw
  by_cases e : i = j
  · subst e; rfl
  · exact List.set_comm _ _ e
/-- a list of numbers in a block -/
def D (H : AH) (b : Nat) (zs : List Int) : Prop := ∃ es, H.get b = some (.cells (zs.map iv) es)
theorem D.mod {S : Nat → Prop} {H H' : AH} {b : Nat} {zs : List Int} (h : D H b zs) (hm : Mod S H H') (hs : ¬ S b) : D H' b zs := let ⟨es, e⟩ := h
  ⟨es, hm.get _ _ hs e⟩
theorem D.cell {H : AH} {b : Nat} {zs : List Int} (h : D H b zs) {i : Nat} (hi : i < zs.length) : H.cell b (0 + (i : Int).toNat * 1) = some (.int .i64 (at_ zs i)) := by
  obtain ⟨es, e⟩ := h
  refine cell_of e ?_
  rw [show 0 + (i : Int).toNat * 1 = i from by omega, List.getElem?_map, List.getElem?_eq_getElem hi, at_eq hi]; rfl
theorem D.set {H : AH} {b : Nat} {zs : List Int} (ok : Ok H) (h : D H b zs) {i : Nat} (hi : i < zs.length) (x : Int) :
    ∃ H', storeCellsv H b (0 + (i : Int).toNat * 1) [.int .i64 x] = some H' ∧ D H' b (zs.set i x) ∧ Mod (· = b) H H' := by
  obtain ⟨es, e⟩ := h
  refine ⟨_, store_of e (by rw [List.length_map]; simp; omega) rfl, ⟨es, ?_⟩, Mod.set ok e _⟩
  rw [get_set_self, show 0 + (i : Int).toNat * 1 = i from by omega, lset_one (by rw [List.length_map]; exact hi), List.map_set]; rfl
theorem D.swap {H : AH} {b : Nat} {zs : List Int} (ok : Ok H) (h : D H b zs) {i j : Nat} (hi : i < zs.length) (hj : j < zs.length) :
    ∃ H1 H2, storeCellsv H b (0 + (i : Int).toNat * 1) [.int .i64 (at_ zs j)] = some H1 ∧ storeCellsv H1 b (0 + (j : Int).toNat * 1) [.int .i64 (at_ zs i)] = some H2 ∧ D H2 b (sw zs i j) ∧ Mod (· = b) H H2 := by
  obtain ⟨H1, h1, h2, h3⟩ := h.set ok hi (at_ zs j)
  obtain ⟨H2, k1, k2, k3⟩ := h2.set h3.ok (i := j) (by rw [List.length_set]; exact hj) (at_ zs i)
  exact ⟨H1, H2, h1, k1, k2, h3.trans k3⟩
end Go.Ev
namespace Go.Proofs.Cx
open Go Go.Ev

theorem less_ok {x y : Int} {H : AH} : FW Ee F_cmp_Less_int64 [.int .i64 x, .int .i64 y] H fun r H' => r = .bool (decide (x < y)) ∧ H = H' := by
  refine fw_cmp_Less_int64 ?_
  refine (fw_cmp_isNaN_int64 (Q := fun r H' => r = .bool false ∧ H = H') ⟨by simp, rfl⟩).mono ?_
  rintro _ _ ⟨rfl, rfl⟩
  exact ⟨false, rfl, rfl, rfl⟩

section
variable {H : AH} {d N c : Nat} {zs : List Int}
theorem insertion_ok {a b : Nat} (ok : Ok H) (hD : D H d zs) (hN : zs.length = N) (ha : a ≤ N) (hb : b ≤ N) (hn : N ≤ 1000000) :
    FW Ee F_slices_insertionSortOrdered_int64 [.slice (some ⟨d, 0, none⟩) N c, .int .i64 a, .int .i64 b] H fun r H' => r = .tuple ⟨[]⟩ ∧ ∃ ws, D H' d ws ∧ Seg a b zs ws ∧ Srt a b ws ∧ Mod (· = d) H H' := by
  by_cases hab : b ≤ a
  · refine fw_slices_insertionSortOrdered_int64 ?_
    intro t9 e9
    refine ⟨fun _ i Hb => H = Hb ∧ i = t9, ⟨0, rfl, rfl⟩, ?_⟩
    rintro m i Hb ⟨rfl, rfl⟩
    refine cond_dec (fun hlt => ?_) (fun _ => ⟨rfl, zs, hD, .refl _ _ _, .one (by omega), .refl ok⟩)
    exfalso
    rw [wrap_i64 (by omega) (by omega)] at e9
    omega
  refine fw_slices_insertionSortOrdered_int64 ?_
  intro t9 e9
  obtain rfl : t9 = ((a + 1 : Nat) : Int) := e9.trans (wnat (by omega) (by omega))
  refine ⟨fun m i Hb => ∃ (p : Nat) (ws : List Int), i = p ∧ a + 1 ≤ p ∧ p ≤ b ∧ m = b - p ∧ D Hb d ws ∧ Seg a b zs ws ∧ Srt a p ws ∧ Mod (· = d) H Hb,
    ⟨_, a + 1, zs, rfl, by omega, by omega, rfl, hD, .refl _ _ _, .one (by omega), .refl ok⟩, ?_⟩
  rintro m i Hb ⟨p, ws, rfl, hp1, hp2, rfl, hDb, hS, hSr, hm⟩
  refine cond_dec (fun hlt => ?_) (fun hge => ?_)
  · have hpb : p < b := by omega
    have next : ∀ (us : List Int) (Hx : AH), D Hx d us → Seg a b zs us → Srt a (p + 1) us → Mod (· = d) H Hx → ∀ t : Int, t = IntKind.i64.wrap ((p : Int) + 1) →
        ∃ m, m < b - p ∧ ∃ (p : Nat) (ws : List Int), t = p ∧ a + 1 ≤ p ∧ p ≤ b ∧ m = b - p ∧ D Hx d ws ∧ Seg a b zs ws ∧ Srt a p ws ∧ Mod (· = d) H Hx := by
      intro us Hx h1 h2 h3 h4 t et
      obtain rfl : t = ((p + 1 : Nat) : Int) := et.trans (wnat (by omega) (by omega))
      exact ⟨b - (p + 1), by omega, p + 1, us, rfl, by omega, by omega, rfl, h1, h2, h3, h4⟩
    refine ⟨fun m j Hc => ∃ (q : Nat) (us : List Int), j = q ∧ a ≤ q ∧ q ≤ p ∧ q = m ∧ D Hc d us ∧ Seg a b zs us ∧ SrtB a (p + 1) q us ∧ Mod (· = d) H Hc, ⟨_, p, ws, rfl, by omega, by omega, rfl, hDb, hS, SrtB.start hSr, hm⟩, ?_⟩
    rintro m j Hc ⟨q, us, rfl, hq1, hq2, rfl, hDc, hSu, hSB, hmc⟩
    have hul := hSu.len
    refine cond_dec (fun hgt => ?_) (fun hle => next us Hc hDc hSu (hSB.stop (.inl (by omega))) hmc)
    refine grd_intro rfl ⟨by omega, by omega, _, hDc.cell (by omega), ?_⟩
    intro t26 e26
    obtain rfl : t26 = ((q - 1 : Nat) : Int) := e26.trans (wnat (by omega) (by omega))
    refine grd_intro rfl ⟨by omega, by omega, _, hDc.cell (by omega), less_ok.mono ?_⟩
    rintro _ _ ⟨rfl, rfl⟩
    refine ⟨_, rfl, cond_dec (fun hl => ?_) (fun hnl => next us Hc hDc hSu (hSB.stop (.inr (by omega))) hmc)⟩
    intro t37 e37
    obtain rfl : t37 = ((q - 1 : Nat) : Int) := e37.trans (wnat (by omega) (by omega))
    intro t40 e40
    obtain rfl : t40 = ((q - 1 : Nat) : Int) := e40.trans (wnat (by omega) (by omega))
    obtain ⟨H4, H5, s1, s2, s3, s4⟩ := hDc.swap hmc.ok (i := q) (j := q - 1) (by omega) (by omega)
    refine grd_intro rfl ⟨by omega, by omega, _, hDc.cell (by omega), grd_intro rfl ⟨by omega, by omega, _, hDc.cell (by omega), grd_intro rfl ⟨by omega, by omega, H4, s1, grd_intro rfl ⟨by omega, by omega, H5, s2, ?_⟩⟩⟩⟩
    intro t32 e32
    obtain rfl : t32 = ((q - 1 : Nat) : Int) := e32.trans (wnat (by omega) (by omega))
    refine ⟨q - 1, by omega, q - 1, _, rfl, by omega, by omega, rfl, s3, hSu.trans (.sw (by omega) (by omega) (by omega) (by omega) (by omega) (by omega)), ?_, hmc.trans s4⟩
    rw [sw_comm]
    exact hSB.step (by omega) (by omega) (by omega) hl
  · have : p = b := by omega
    subst this
    exact ⟨rfl, ws, hDb, hS, hSr, hm⟩

theorem siftdown_ok {lo hi f : Nat} (ok : Ok H) (hD : D H d zs) (hN : zs.length = N) (hf : f + hi ≤ N) (hlo : lo ≤ N) (hn : N ≤ 1000000) (hh : Hp zs f (lo + 1) hi) :
    FW Ee F_slices_siftDownOrdered_int64 [.slice (some ⟨d, 0, none⟩) N c, .int .i64 lo, .int .i64 hi, .int .i64 f] H fun r H' => r = .tuple ⟨[]⟩ ∧ ∃ ws, D H' d ws ∧ Seg (f + lo) (f + hi) zs ws ∧ Hp ws f lo hi ∧ Mod (· = d) H H' := by
  refine fw_slices_siftDownOrdered_int64 ?_
  refine ⟨fun m i Hb => ∃ (r : Nat) (ws : List Int), i = r ∧ lo ≤ r ∧ r ≤ N ∧ m = N - r ∧ D Hb d ws ∧ Seg (f + lo) (f + hi) zs ws ∧ HpX ws f lo hi r ∧ HpU ws f lo hi r ∧ Mod (· = d) H Hb,
    ⟨_, lo, zs, rfl, by omega, by omega, rfl, hD, .refl _ _ _, hh.x, Hp.u, .refl ok⟩, ?_⟩
  rintro m i Hb ⟨r, ws, rfl, hr1, hr2, rfl, hDb, hS, hX, hU, hm⟩
  have hwl := hS.len
  intro t12 e12
  obtain rfl : t12 = ((2 * r : Nat) : Int) := e12.trans (wnat (by omega) (by omega))
  intro t13 e13
  obtain rfl : t13 = ((2 * r + 1 : Nat) : Int) := e13.trans (wnat (by omega) (by omega))
  refine cond_dec (fun hge => ?_) (fun hlt => ?_)
  · exact ⟨rfl, ws, hDb, hS, hX.stop fun c h1 h2 => by omega, hm⟩
  intro t18 e18
  obtain rfl : t18 = ((2 * r + 2 : Nat) : Int) := e18.trans (wnat (by omega) (by omega))
  refine cond_dec (fun htwo => ?A) (fun hone => ?B)
  case' A =>
    intro t25 e25
    obtain rfl : t25 = ((f + (2 * r + 1) : Nat) : Int) := e25.trans (wnat (by omega) (by omega))
    refine grd_intro rfl ⟨by omega, by omega, _, hDb.cell (by omega), ?_⟩
    intro t31 e31
    obtain rfl : t31 = ((f + (2 * r + 1) : Nat) : Int) := e31.trans (wnat (by omega) (by omega))
    intro t32 e32
    obtain rfl : t32 = ((f + (2 * r + 2) : Nat) : Int) := e32.trans (wnat (by omega) (by omega))
    refine grd_intro rfl ⟨by omega, by omega, _, hDb.cell (by omega), less_ok.mono ?_⟩
    rintro _ _ ⟨rfl, rfl⟩
    refine ⟨_, rfl, fun c Hx => Hb = Hx ∧ ∃ e : Nat, c = e ∧ (e = 2 * r + 1 ∨ e = 2 * r + 2) ∧ e < hi ∧ ∀ c, (c = 2 * r + 1 ∨ c = 2 * r + 2) → c < hi → at_ ws (f + c) ≤ at_ ws (f + e), ?_, ?_⟩
    · refine cond_dec (fun hl => ?_) (fun hnl => ?_)
      · intro t38 e38
        obtain rfl : t38 = ((2 * r + 2 : Nat) : Int) := e38.trans (wnat (by omega) (by omega))
        refine ⟨rfl, 2 * r + 2, rfl, .inr rfl, by omega, fun c hc hch => ?_⟩
        rcases hc with rfl | rfl <;> omega
      · refine ⟨rfl, 2 * r + 1, rfl, .inl rfl, by omega, fun c hc hch => ?_⟩
        rcases hc with rfl | rfl <;> omega
  case' B =>
    refine ⟨fun c Hx => Hb = Hx ∧ ∃ e : Nat, c = e ∧ (e = 2 * r + 1 ∨ e = 2 * r + 2) ∧ e < hi ∧ ∀ c, (c = 2 * r + 1 ∨ c = 2 * r + 2) → c < hi → at_ ws (f + c) ≤ at_ ws (f + e), ?_, ?_⟩
    · refine ⟨rfl, 2 * r + 1, rfl, .inl rfl, by omega, fun c hc hch => ?_⟩
      rcases hc with rfl | rfl
      · exact Int.le_refl _
      · omega
  all_goals
    rintro ch Hx ⟨rfl, e, rfl, he, heh, hbig⟩
    intro t42 e42
    obtain rfl : t42 = ((f + r : Nat) : Int) := e42.trans (wnat (by omega) (by omega))
    refine grd_intro rfl ⟨by omega, by omega, _, hDb.cell (by omega), ?_⟩
    intro t48 e48
    obtain rfl : t48 = ((f + e : Nat) : Int) := e48.trans (wnat (by omega) (by omega))
    refine grd_intro rfl ⟨by omega, by omega, _, hDb.cell (by omega), less_ok.mono ?_⟩
    rintro _ _ ⟨rfl, rfl⟩
    refine ⟨_, rfl, cond_intro (fun hnl => ?_) (fun hl => ?_)⟩
    · have hnl : ¬ at_ ws (f + r) < at_ ws (f + e) := by simpa using hnl
      exact ⟨rfl, ws, hDb, hS, hX.stop fun c h1 h2 => by have := hbig c h1 h2; omega, hm⟩
    · have hl : at_ ws (f + r) < at_ ws (f + e) := by simpa using hl
      intro t56 e56
      obtain rfl : t56 = ((f + r : Nat) : Int) := e56.trans (wnat (by omega) (by omega))
      intro t60 e60
      obtain rfl : t60 = ((f + e : Nat) : Int) := e60.trans (wnat (by omega) (by omega))
      intro t64 e64
      obtain rfl : t64 = ((f + e : Nat) : Int) := e64.trans (wnat (by omega) (by omega))
      refine grd_intro rfl ⟨by omega, by omega, _, hDb.cell (by omega), ?_⟩
      intro t70 e70
      obtain rfl : t70 = ((f + r : Nat) : Int) := e70.trans (wnat (by omega) (by omega))
      obtain ⟨H4, H5, s1, s2, s3, s4⟩ := hDb.swap hm.ok (i := f + r) (j := f + e) (by omega) (by omega)
      obtain ⟨k1, k2⟩ := hX.step hU hr1 he heh (by omega) hbig hl
      refine grd_intro rfl ⟨by omega, by omega, _, hDb.cell (by omega), grd_intro rfl ⟨by omega, by omega, H4, s1, grd_intro rfl ⟨by omega, by omega, H5, s2, ?_⟩⟩⟩
      exact ⟨N - e, by omega, e, _, rfl, by omega, by omega, rfl, s3, hS.trans (.sw (by omega) (by omega) (by omega) (by omega) (by omega) (by omega)), k1, k2, hm.trans s4⟩

theorem heapsort_ok {a b : Nat} (ok : Ok H) (hD : D H d zs) (hN : zs.length = N) (hab : a ≤ b) (hb : b ≤ N) (hn : N ≤ 1000000) :
    FW Ee F_slices_heapSortOrdered_int64 [.slice (some ⟨d, 0, none⟩) N c, .int .i64 a, .int .i64 b] H fun r H' => r = .tuple ⟨[]⟩ ∧ ∃ ws, D H' d ws ∧ Seg a b zs ws ∧ Srt a b ws ∧ Mod (· = d) H H' := by
  refine fw_slices_heapSortOrdered_int64 ?_
  intro t14 e14
  obtain rfl : t14 = ((b - a : Nat) : Int) := e14.trans (wnat (by omega) (by omega))
  intro t16 e16
  rw [wrap_i64 (by omega) (by omega)] at e16
  refine ⟨by omega, ?_⟩
  intro t17 e17
  have h16 : t16.tdiv 2 = (((b - a - 1) / 2 : Nat) : Int) := by
    rcases Nat.eq_zero_or_pos (b - a) with h | h
    · rw [show t16 = -1 by omega, h]; rfl
    · rw [show t16 = ((b - a - 1 : Nat) : Int) by omega]; rfl
  obtain rfl : t17 = (((b - a - 1) / 2 : Nat) : Int) := e17.trans (wnat h16 (by omega))
  -- the heap is made
  refine ⟨fun m i Hb => ∃ (p : Nat) (ws : List Int), i = (p : Int) - 1 ∧ p = m ∧ p ≤ N + 1 ∧ D Hb d ws ∧ Seg a b zs ws ∧ Hp ws a p (b - a) ∧ Mod (· = d) H Hb,
    ⟨_, (b - a - 1) / 2 + 1, zs, by omega, rfl, by omega, hD, .refl _ _ _, fun k c h1 h2 h3 => by omega, .refl ok⟩, ?_⟩
  rintro m i Hb ⟨p, ws, rfl, rfl, hp, hDb, hS, hH, hm⟩
  have hwl := hS.len
  refine cond_dec (fun hge => ?_) (fun hlt => ?_)
  · obtain ⟨p, rfl⟩ : ∃ q, p = q + 1 := ⟨p - 1, by omega⟩
    rw [show ((p + 1 : Nat) : Int) - 1 = (p : Int) from by omega]
    refine (siftdown_ok hm.ok hDb (by omega) (by omega) (by omega) hn hH).mono ?_
    rintro _ H2 ⟨rfl, us, k1, k2, k3, k4⟩
    refine ⟨rfl, ?_⟩
    intro t21 e21
    rw [wrap_i64 (by omega) (by omega)] at e21
    exact ⟨p, by omega, p, us, e21, rfl, by omega, k1, hS.trans (k2.wide (by omega) (by omega)), k3, hm.trans k4⟩
  · have hp0 : p = 0 := by omega
    subst hp0
    intro t28 e28
    rw [wrap_i64 (by omega) (by omega)] at e28
    refine ⟨fun m i Hc => ∃ (p : Nat) (us : List Int), i = (p : Int) - 1 ∧ p = m ∧ p ≤ b - a ∧ D Hc d us ∧ Seg a b zs us ∧ Hp us a 0 p ∧ Srt (a + p) b us ∧ (∀ i j, a ≤ i → i < a + p → a + p ≤ j → j < b → at_ us i ≤ at_ us j) ∧ Mod (· = d) H Hc,
      ⟨_, b - a, ws, by omega, rfl, by omega, hDb, hS, hH, .one (by omega), fun i j _ _ _ _ => by omega, hm⟩, ?_⟩
    rintro m i Hc ⟨p, us, rfl, rfl, hp, hDc, hSu, hHp, hSr, hle, hmc⟩
    have hul := hSu.len
    refine cond_dec (fun hge => ?_) (fun hlt2 => ?_)
    · obtain ⟨p, rfl⟩ : ∃ q, p = q + 1 := ⟨p - 1, by omega⟩
      rw [show ((p + 1 : Nat) : Int) - 1 = (p : Int) from by omega]
      intro t38 e38
      obtain rfl : t38 = ((a + p : Nat) : Int) := e38.trans (wnat (by omega) (by omega))
      intro t42 e42
      obtain rfl : t42 = ((a + p : Nat) : Int) := e42.trans (wnat (by omega) (by omega))
      obtain ⟨H4, H5, s1, s2, s3, s4⟩ := hDc.swap hmc.ok (i := a) (j := a + p) (by omega) (by omega)
      refine grd_intro rfl ⟨by omega, by omega, _, hDc.cell (by omega), grd_intro rfl ⟨by omega, by omega, _, hDc.cell (by omega), grd_intro rfl ⟨by omega, by omega, H4, s1, grd_intro rfl ⟨by omega, by omega, H5, s2, ?_⟩⟩⟩⟩
      have ha : ∀ k, at_ (sw us a (a + p)) k = if k = a + p then at_ us a else if k = a then at_ us (a + p) else at_ us k := sw_at (by omega) (by omega)
      have htop := hHp.top
      have hH5 : Hp (sw us a (a + p)) a (0 + 1) p := by
        intro k c h1 h2 h3
        rw [ha, ha, if_neg (by omega), if_neg (by omega), if_neg (by omega), if_neg (by omega)]
        exact hHp k c (by omega) h2 (by omega)
      refine (siftdown_ok (lo := 0) s4.ok s3 (by rw [sw_len]; omega) (by omega) (by omega) hn hH5).mono ?_
      rintro _ H6 ⟨rfl, vs, k1, k2, k3, k4⟩
      have hvl := k2.len
      rw [sw_len] at hvl
      refine ⟨rfl, ?_⟩
      intro t32 e32
      rw [wrap_i64 (by omega) (by omega)] at e32
      -- what stands from p on
      have hfix : ∀ j, a + p ≤ j → at_ vs j = at_ (sw us a (a + p)) j := fun j hj => k2.same (.inr (by omega))
      have hmax : ∀ k, k < p + 1 → at_ us (a + k) ≤ at_ us a := fun k hk => htop k hk
      have hlow : ∀ i, a + 0 ≤ i → i < a + p → i < vs.length → at_ vs i ≤ at_ us a ∧ ∀ j, a + (p + 1) ≤ j → j < b → at_ vs i ≤ at_ us j := by
        refine k2.all (P := fun x => x ≤ at_ us a ∧ ∀ j, a + (p + 1) ≤ j → j < b → x ≤ at_ us j) fun i h1 h2 _ => ?_
        rw [ha, if_neg (by omega)]
        by_cases e : i = a
        · rw [if_pos e]
          exact ⟨hmax p (by omega), fun j h3 h4 => hle (a + p) j (by omega) (by omega) h3 h4⟩
        · rw [if_neg e]
          refine ⟨?_, fun j h3 h4 => hle i j (by omega) (by omega) h3 h4⟩
          have := hmax (i - a) (by omega)
          rwa [show a + (i - a) = i from by omega] at this
      refine ⟨p, by omega, p, vs, e32, rfl, by omega, k1, (hSu.trans (.sw (by omega) (by omega) (by omega) (by omega) (by omega) (by omega))).trans (k2.wide (by omega) (by omega)), k3, ?_, ?_, (hmc.trans s4).trans k4⟩
      · intro i j h1 h2 h3
        rw [hfix i h1, hfix j (by omega), ha, ha]
        by_cases e : i = a + p
        · rw [if_pos e, if_neg (by omega), if_neg (by omega)]
          exact hle a j (by omega) (by omega) (by omega) h3
        · rw [if_neg e, if_neg (by omega), if_neg (by omega), if_neg (by omega)]
          exact hSr i j (by omega) h2 h3
      · intro i j h1 h2 h3 h4
        obtain ⟨q1, q2⟩ := hlow i (by omega) h2 (by omega)
        rw [hfix j h3, ha]
        by_cases e : j = a + p
        · rw [if_pos e]; exact q1
        · rw [if_neg e, if_neg (by omega)]; exact q2 j (by omega) h4
    · have hp0 : p = 0 := by omega
      subst hp0
      exact ⟨rfl, us, hDc, hSu, hSr, hmc⟩
end
end Go.Proofs.Cx

namespace Go.Ev
open Go
/-- those ahead of i are on the left, those behind j on the right -/
def PI (lt : Int → Bool) (a b i j : Nat) (ws : List Int) : Prop := (∀ k, a < k → k < i → lt (at_ ws k) = true) ∧ ∀ k, j < k → k < b → lt (at_ ws k) = false
section
variable {lt : Int → Bool} {a b i j : Nat} {ws : List Int}
theorem PI.start : PI lt a b (a + 1) (b - 1) ws := ⟨fun k h1 h2 => by omega, fun k h1 h2 => by omega⟩
theorem PI.left (h : PI lt a b i j ws) (hx : lt (at_ ws i) = true) : PI lt a b (i + 1) j ws :=
  ⟨fun k h1 h2 => by
    rcases Nat.lt_or_ge k i with h3 | h3
    · exact h.1 k h1 h3
    · have : k = i := by omega
      rw [this]; exact hx, h.2⟩
theorem PI.right (h : PI lt a b i j ws) (hx : lt (at_ ws j) = false) : PI lt a b i (j - 1) ws :=
  ⟨h.1, fun k h1 h2 => by
    rcases Nat.lt_or_ge j k with h3 | h3
    · exact h.2 k h3 h2
    · have : k = j := by omega
      rw [this]; exact hx⟩
theorem PI.swap (h : PI lt a b i j ws) (hi : lt (at_ ws i) = false) (hj : lt (at_ ws j) = true) (hij : i < j) (hai : a < i) (hjb : j < b) (hb : b ≤ ws.length) :
    PI lt a b (i + 1) (j - 1) (sw ws i j) ∧ at_ (sw ws i j) a = at_ ws a := by
  have ha : ∀ k, at_ (sw ws i j) k = if k = j then at_ ws i else if k = i then at_ ws j else at_ ws k := sw_at (by omega) (by omega)
  refine ⟨⟨fun k h1 h2 => ?_, fun k h1 h2 => ?_⟩, ?_⟩
  · rw [ha, if_neg (by omega)]
    by_cases e : k = i
    · rw [if_pos e]; exact hj
    · rw [if_neg e]; exact h.1 k h1 (by omega)
  · rw [ha]
    by_cases e : k = j
    · rw [if_pos e]; exact hi
    · rw [if_neg e, if_neg (by omega)]; exact h.2 k (by omega) h2
  · rw [ha, if_neg (by omega), if_neg (by omega)]
end
end Go.Ev
namespace Go.Proofs.Cx
open Go Go.Ev
section
variable {H : AH} {d N c : Nat} {zs : List Int}

theorem partition_ok {a b pv : Nat} (ok : Ok H) (hD : D H d zs) (hN : zs.length = N) (hap : a ≤ pv) (hpb : pv < b) (hb : b ≤ N) (hn : N ≤ 1000000) :
    FW Ee F_slices_partitionOrdered_int64 [.slice (some ⟨d, 0, none⟩) N c, .int .i64 a, .int .i64 b, .int .i64 pv] H fun r H' => ∃ (j : Nat) (f : Bool) (ws : List Int), r = .tuple ⟨[.int .i64 j, .bool f]⟩ ∧ a ≤ j ∧ j < b ∧ D H' d ws ∧ Seg a b zs ws ∧
      (∀ k, a ≤ k → k < j → at_ ws k < at_ ws j) ∧ (∀ k, j < k → k < b → at_ ws j ≤ at_ ws k) ∧ Mod (· = d) H H' := by
  refine fw_slices_partitionOrdered_int64 ?_
  obtain ⟨H1, H2, s1, s2, s3, s4⟩ := hD.swap ok (i := a) (j := pv) (by omega) (by omega)
  obtain ⟨w0, hw0⟩ : ∃ w, w = sw zs a pv := ⟨_, rfl⟩
  have hS0 : Seg a b zs w0 := hw0 ▸ .sw (by omega) (by omega) (by omega) (by omega) (by omega) (by omega)
  rw [← hw0] at s3
  obtain ⟨P, hP⟩ : ∃ P, P = at_ w0 a := ⟨_, rfl⟩
  refine grd_intro rfl ⟨by omega, by omega, _, hD.cell (by omega), grd_intro rfl ⟨by omega, by omega, _, hD.cell (by omega), grd_intro rfl ⟨by omega, by omega, H1, s1, grd_intro rfl ⟨by omega, by omega, H2, s2, ?_⟩⟩⟩⟩
  intro t27 e27
  obtain rfl : t27 = ((a + 1 : Nat) : Int) := e27.trans (wnat (by omega) (by omega))
  intro t29 e29
  obtain rfl : t29 = ((b - 1 : Nat) : Int) := e29.trans (wnat (by omega) (by omega))
  -- the end: the pivot goes between
  have fin : ∀ {Hx : AH} {ws : List Int} {p q : Nat} {f : Bool}, D Hx d ws → Seg a b zs ws → at_ ws a = P → PI (fun x => decide (x < P)) a b p q ws → p = q + 1 → a ≤ q → q < b → Mod (· = d) H Hx →
      ∃ H9 H10, storeCellsv Hx d (0 + (q : Int).toNat * 1) [.int .i64 (at_ ws a)] = some H9 ∧ storeCellsv H9 d (0 + (a : Int).toNat * 1) [.int .i64 (at_ ws q)] = some H10 ∧
        ∃ (j : Nat) (g : Bool) (us : List Int), Value.tuple ⟨[.int .i64 (q : Int), .bool f]⟩ = .tuple ⟨[.int .i64 j, .bool g]⟩ ∧ a ≤ j ∧ j < b ∧ D H10 d us ∧ Seg a b zs us ∧ (∀ k, a ≤ k → k < j → at_ us k < at_ us j) ∧ (∀ k, j < k → k < b → at_ us j ≤ at_ us k) ∧ Mod (· = d) H H10 := by
    intro Hx ws p q f h1 h2 h3 h4 h5 h6 h7 h8
    have hwl := h2.len
    obtain ⟨H9, H10, k1, k2, k3, k4⟩ := h1.swap h8.ok (i := q) (j := a) (by omega) (by omega)
    have ha : ∀ k, at_ (sw ws q a) k = if k = a then at_ ws q else if k = q then at_ ws a else at_ ws k := sw_at (by omega) (by omega)
    refine ⟨H9, H10, k1, k2, q, f, _, rfl, h6, h7, k3, h2.trans (.sw (by omega) (by omega) (by omega) (by omega) (by omega) (by omega)), fun k g1 g2 => ?_, fun k g1 g2 => ?_, h8.trans k4⟩
    · rw [ha, ha, if_neg (show q ≠ a by omega), if_pos rfl, h3]
      by_cases e : k = a
      · rw [if_pos e]
        exact of_decide_eq_true (h4.1 q (by omega) (by omega))
      · rw [if_neg e, if_neg (by omega)]
        exact of_decide_eq_true (h4.1 k (by omega) (by omega))
    · have hk := of_decide_eq_false (h4.2 k g1 g2)
      rw [ha, ha, if_neg (show k ≠ a by omega), if_neg (show k ≠ q by omega)]
      by_cases e : q = a
      · rw [if_pos e, e, h3]; omega
      · rw [if_neg e, if_pos rfl, h3]; omega
  refine ⟨fun i Hx => H2 = Hx ∧ ∃ p : Nat, i = p ∧ a + 1 ≤ p ∧ p ≤ b ∧ PI (fun x => decide (x < P)) a b p (b - 1) w0 ∧ (p = b ∨ decide (at_ w0 p < P) = false), ?_, ?_⟩
  · refine ⟨fun m i Hx => H2 = Hx ∧ ∃ p : Nat, i = p ∧ a + 1 ≤ p ∧ p ≤ b ∧ m = b - p ∧ PI (fun x => decide (x < P)) a b p (b - 1) w0, ⟨_, rfl, a + 1, rfl, by omega, by omega, rfl, PI.start⟩, ?_⟩
    rintro m i Hx ⟨rfl, p, rfl, hp1, hp2, rfl, hI⟩
    refine cond_dec (fun hle => ?_) (fun hgt => ⟨rfl, p, rfl, hp1, hp2, hI, .inl (by omega)⟩)
    have hw := hS0.len
    refine grd_intro rfl ⟨by omega, by omega, _, s3.cell (by omega), grd_intro rfl ⟨by omega, by omega, _, s3.cell (by omega), less_ok.mono ?_⟩⟩
    rintro _ _ ⟨rfl, rfl⟩
    rw [← hP]
    refine ⟨_, rfl, cond_intro (fun hl => ?_) (fun hnl => ⟨rfl, p, rfl, hp1, hp2, hI, .inr hnl⟩)⟩
    intro t et
    obtain rfl : t = ((p + 1 : Nat) : Int) := et.trans (wnat (by omega) (by omega))
    exact ⟨b - (p + 1), by omega, rfl, p + 1, rfl, by omega, by omega, rfl, hI.left hl⟩
  rintro i Hx ⟨rfl, p, rfl, hp1, hp2, hI, hpe⟩
  refine ⟨fun j Hx => H2 = Hx ∧ ∃ q : Nat, j = q ∧ a ≤ q ∧ q < b ∧ p ≤ q + 1 ∧ PI (fun x => decide (x < P)) a b p q w0 ∧ (p = q + 1 ∨ decide (at_ w0 q < P) = true), ?_, ?_⟩
  · refine ⟨fun m j Hx => H2 = Hx ∧ ∃ q : Nat, j = q ∧ a ≤ q ∧ q < b ∧ p ≤ q + 1 ∧ q = m ∧ PI (fun x => decide (x < P)) a b p q w0, ⟨_, rfl, b - 1, rfl, by omega, by omega, by omega, rfl, hI⟩, ?_⟩
    rintro m j Hx ⟨rfl, q, rfl, hq1, hq2, hq3, rfl, hJ⟩
    refine cond_dec (fun hle => ?_) (fun hgt => ⟨rfl, q, rfl, hq1, hq2, hq3, hJ, .inl (by omega)⟩)
    have hw := hS0.len
    refine grd_intro rfl ⟨by omega, by omega, _, s3.cell (by omega), grd_intro rfl ⟨by omega, by omega, _, s3.cell (by omega), less_ok.mono ?_⟩⟩
    rintro _ _ ⟨rfl, rfl⟩
    rw [← hP]
    refine ⟨_, rfl, cond_intro (fun hnl => ?_) (fun hl => ⟨rfl, q, rfl, hq1, hq2, hq3, hJ, .inr (by simpa using hl)⟩)⟩
    intro t et
    obtain rfl : t = ((q - 1 : Nat) : Int) := et.trans (wnat (by omega) (by omega))
    exact ⟨q - 1, by omega, rfl, q - 1, rfl, by omega, by omega, by omega, rfl, hJ.right (by simpa using hnl)⟩
  rintro j Hx ⟨rfl, q, rfl, hq1, hq2, hq3, hJ, hqe⟩
  have hw := hS0.len
  refine cond_dec (fun hgt => ?_) (fun hle => ?_)
  · obtain ⟨H9, H10, k1, k2, k3⟩ := fin (f := true) s3 hS0 hP.symm hJ (by omega) hq1 hq2 s4
    exact grd_intro rfl ⟨by omega, by omega, _, s3.cell (by omega), grd_intro rfl ⟨by omega, by omega, _, s3.cell (by omega), grd_intro rfl ⟨by omega, by omega, H9, k1, grd_intro rfl ⟨by omega, by omega, H10, k2, k3⟩⟩⟩⟩
  -- they change places, and so on
  have hpf : decide (at_ w0 p < P) = false := by
    rcases hpe with h | h
    · omega
    · exact h
  have hqt : decide (at_ w0 q < P) = true := by
    rcases hqe with h | h
    · omega
    · exact h
  have hpq : p < q := by
    rcases Nat.lt_or_ge p q with h | h
    · exact h
    · have : p = q := by omega
      rw [this, hqt] at hpf; cases hpf
  obtain ⟨H11, H12, k1, k2, k3, k4⟩ := s3.swap s4.ok (i := p) (j := q) (by omega) (by omega)
  obtain ⟨l1, l2⟩ := hJ.swap hpf hqt hpq (by omega) hq2 (by omega)
  refine grd_intro rfl ⟨by omega, by omega, _, s3.cell (by omega), grd_intro rfl ⟨by omega, by omega, _, s3.cell (by omega), grd_intro rfl ⟨by omega, by omega, H11, k1, grd_intro rfl ⟨by omega, by omega, H12, k2, ?_⟩⟩⟩⟩
  intro t96 e96
  obtain rfl : t96 = ((p + 1 : Nat) : Int) := e96.trans (wnat (by omega) (by omega))
  intro t98 e98
  obtain rfl : t98 = ((q - 1 : Nat) : Int) := e98.trans (wnat (by omega) (by omega))
  refine ⟨fun m i j Hx => ∃ (p q : Nat) (ws : List Int), i = p ∧ j = q ∧ a + 1 ≤ p ∧ a ≤ q ∧ q < b ∧ p ≤ q + 1 ∧ q = m ∧ D Hx d ws ∧ Seg a b zs ws ∧ at_ ws a = P ∧ PI (fun x => decide (x < P)) a b p q ws ∧ Mod (· = d) H Hx,
    ⟨_, p + 1, q - 1, _, rfl, rfl, by omega, by omega, by omega, by omega, rfl, k3, hS0.trans (.sw (by omega) (by omega) (by omega) (by omega) (by omega) (by omega)), l2.trans hP.symm, l1, s4.trans k4⟩, ?_⟩
  clear hI hJ hpe hqe hpf hqt hpq l1 l2 k1 k2 k3 k4 hp1 hp2 hq1 hq2 hq3 hle
  rintro m i j Hx ⟨p, q, ws, rfl, rfl, hp1, hq1, hq2, hq3, rfl, hDx, hS, hPa, hI, hm⟩
  have hw := hS.len
  refine ⟨fun i Hy => Hx = Hy ∧ ∃ r : Nat, i = r ∧ p ≤ r ∧ r ≤ q + 1 ∧ PI (fun x => decide (x < P)) a b r q ws ∧ (r = q + 1 ∨ decide (at_ ws r < P) = false), ?_, ?_⟩
  · refine ⟨fun m i Hy => Hx = Hy ∧ ∃ r : Nat, i = r ∧ p ≤ r ∧ r ≤ q + 1 ∧ m = q + 1 - r ∧ PI (fun x => decide (x < P)) a b r q ws, ⟨_, rfl, p, rfl, by omega, by omega, rfl, hI⟩, ?_⟩
    rintro m i Hy ⟨rfl, r, rfl, hr1, hr2, rfl, hR⟩
    refine cond_dec (fun hle => ?_) (fun hgt => ⟨rfl, r, rfl, hr1, hr2, hR, .inl (by omega)⟩)
    refine grd_intro rfl ⟨by omega, by omega, _, hDx.cell (by omega), grd_intro rfl ⟨by omega, by omega, _, hDx.cell (by omega), less_ok.mono ?_⟩⟩
    rintro _ _ ⟨rfl, rfl⟩
    rw [hPa]
    refine ⟨_, rfl, cond_intro (fun hl => ?_) (fun hnl => ⟨rfl, r, rfl, hr1, hr2, hR, .inr hnl⟩)⟩
    intro t et
    obtain rfl : t = ((r + 1 : Nat) : Int) := et.trans (wnat (by omega) (by omega))
    exact ⟨q + 1 - (r + 1), by omega, rfl, r + 1, rfl, by omega, by omega, rfl, hR.left hl⟩
  rintro i Hy ⟨rfl, r, rfl, hr1, hr2, hR, hre⟩
  refine ⟨fun j Hy => Hx = Hy ∧ ∃ s : Nat, j = s ∧ a ≤ s ∧ s ≤ q ∧ r ≤ s + 1 ∧ PI (fun x => decide (x < P)) a b r s ws ∧ (r = s + 1 ∨ decide (at_ ws s < P) = true), ?_, ?_⟩
  · refine ⟨fun m j Hy => Hx = Hy ∧ ∃ s : Nat, j = s ∧ a ≤ s ∧ s ≤ q ∧ r ≤ s + 1 ∧ s = m ∧ PI (fun x => decide (x < P)) a b r s ws, ⟨_, rfl, q, rfl, by omega, by omega, by omega, rfl, hR⟩, ?_⟩
    rintro m j Hy ⟨rfl, s, rfl, hs1, hs2, hs3, rfl, hJ⟩
    refine cond_dec (fun hle => ?_) (fun hgt => ⟨rfl, s, rfl, hs1, hs2, hs3, hJ, .inl (by omega)⟩)
    refine grd_intro rfl ⟨by omega, by omega, _, hDx.cell (by omega), grd_intro rfl ⟨by omega, by omega, _, hDx.cell (by omega), less_ok.mono ?_⟩⟩
    rintro _ _ ⟨rfl, rfl⟩
    rw [hPa]
    refine ⟨_, rfl, cond_intro (fun hnl => ?_) (fun hl => ⟨rfl, s, rfl, hs1, hs2, hs3, hJ, .inr (by simpa using hl)⟩)⟩
    intro t et
    obtain rfl : t = ((s - 1 : Nat) : Int) := et.trans (wnat (by omega) (by omega))
    exact ⟨s - 1, by omega, rfl, s - 1, rfl, by omega, by omega, by omega, rfl, hJ.right (by simpa using hnl)⟩
  rintro j Hy ⟨rfl, s, rfl, hs1, hs2, hs3, hJ, hse⟩
  refine cond_dec (fun hgt => ?_) (fun hle => ?_)
  · obtain ⟨H9, H10, k1, k2, k3⟩ := fin (f := false) hDx hS hPa hJ (by omega) hs1 (by omega) hm
    exact grd_intro rfl ⟨by omega, by omega, _, hDx.cell (by omega), grd_intro rfl ⟨by omega, by omega, _, hDx.cell (by omega), grd_intro rfl ⟨by omega, by omega, H9, k1, grd_intro rfl ⟨by omega, by omega, H10, k2, k3⟩⟩⟩⟩
  have hpf : decide (at_ ws r < P) = false := by
    rcases hre with h | h
    · omega
    · exact h
  have hqt : decide (at_ ws s < P) = true := by
    rcases hse with h | h
    · omega
    · exact h
  have hpq : r < s := by
    rcases Nat.lt_or_ge r s with h | h
    · exact h
    · have : r = s := by omega
      rw [this, hqt] at hpf; cases hpf
  obtain ⟨H11, H12, k1, k2, k3, k4⟩ := hDx.swap hm.ok (i := r) (j := s) (by omega) (by omega)
  obtain ⟨l1, l2⟩ := hJ.swap hpf hqt hpq (by omega) (by omega) (by omega)
  refine grd_intro rfl ⟨by omega, by omega, _, hDx.cell (by omega), grd_intro rfl ⟨by omega, by omega, _, hDx.cell (by omega), grd_intro rfl ⟨by omega, by omega, H11, k1, grd_intro rfl ⟨by omega, by omega, H12, k2, ?_⟩⟩⟩⟩
  intro t96 e96
  obtain rfl : t96 = ((r + 1 : Nat) : Int) := e96.trans (wnat (by omega) (by omega))
  intro t98 e98
  obtain rfl : t98 = ((s - 1 : Nat) : Int) := e98.trans (wnat (by omega) (by omega))
  exact ⟨s - 1, by omega, r + 1, s - 1, _, rfl, rfl, by omega, by omega, by omega, by omega, rfl, k3, hS.trans (.sw (by omega) (by omega) (by omega) (by omega) (by omega) (by omega)), l2.trans hPa, l1, hm.trans k4⟩

theorem partitionEqual_ok {a b pv : Nat} (ok : Ok H) (hD : D H d zs) (hN : zs.length = N) (hap : a ≤ pv) (hpb : pv < b) (hb : b ≤ N) (hn : N ≤ 1000000) :
    FW Ee F_slices_partitionEqualOrdered_int64 [.slice (some ⟨d, 0, none⟩) N c, .int .i64 a, .int .i64 b, .int .i64 pv] H fun r H' => ∃ (j : Nat) (ws : List Int), r = .int .i64 j ∧ a < j ∧ j ≤ b ∧ D H' d ws ∧ Seg a b zs ws ∧
      (∀ k, a ≤ k → k < j → at_ ws k ≤ at_ zs pv) ∧ (∀ k, j ≤ k → k < b → at_ zs pv < at_ ws k) ∧ Mod (· = d) H H' := by
  refine fw_slices_partitionEqualOrdered_int64 ?_
  obtain ⟨H1, H2, s1, s2, s3, s4⟩ := hD.swap ok (i := a) (j := pv) (by omega) (by omega)
  obtain ⟨w0, hw0⟩ : ∃ w, w = sw zs a pv := ⟨_, rfl⟩
  have hS0 : Seg a b zs w0 := hw0 ▸ .sw (by omega) (by omega) (by omega) (by omega) (by omega) (by omega)
  have hP : at_ w0 a = at_ zs pv := by
    rw [hw0, sw_at (by omega) (by omega)]
    by_cases e : a = pv
    · rw [if_pos e, e]
    · rw [if_neg e, if_pos rfl]
  rw [← hw0] at s3
  obtain ⟨P, hPe⟩ : ∃ P, P = at_ zs pv := ⟨_, rfl⟩
  rw [← hPe] at hP
  rw [← hPe]
  refine grd_intro rfl ⟨by omega, by omega, _, hD.cell (by omega), grd_intro rfl ⟨by omega, by omega, _, hD.cell (by omega), grd_intro rfl ⟨by omega, by omega, H1, s1, grd_intro rfl ⟨by omega, by omega, H2, s2, ?_⟩⟩⟩⟩
  intro t26 e26
  obtain rfl : t26 = ((a + 1 : Nat) : Int) := e26.trans (wnat (by omega) (by omega))
  intro t28 e28
  obtain rfl : t28 = ((b - 1 : Nat) : Int) := e28.trans (wnat (by omega) (by omega))
  refine ⟨fun m i j Hx => ∃ (p q : Nat) (ws : List Int), i = p ∧ j = q ∧ a + 1 ≤ p ∧ a ≤ q ∧ q < b ∧ p ≤ q + 1 ∧ q = m ∧ D Hx d ws ∧ Seg a b zs ws ∧ at_ ws a = P ∧ PI (fun x => !decide (P < x)) a b p q ws ∧ Mod (· = d) H Hx,
    ⟨_, a + 1, b - 1, w0, rfl, rfl, by omega, by omega, by omega, by omega, rfl, s3, hS0, hP, PI.start, s4⟩, ?_⟩
  rintro m i j Hx ⟨p, q, ws, rfl, rfl, hp1, hq1, hq2, hq3, rfl, hDx, hS, hPa, hI, hm⟩
  have hw := hS.len
  refine ⟨fun i Hy => Hx = Hy ∧ ∃ r : Nat, i = r ∧ p ≤ r ∧ r ≤ q + 1 ∧ PI (fun x => !decide (P < x)) a b r q ws ∧ (r = q + 1 ∨ decide (P < at_ ws r) = true), ?_, ?_⟩
  · refine ⟨fun m i Hy => Hx = Hy ∧ ∃ r : Nat, i = r ∧ p ≤ r ∧ r ≤ q + 1 ∧ m = q + 1 - r ∧ PI (fun x => !decide (P < x)) a b r q ws, ⟨_, rfl, p, rfl, by omega, by omega, rfl, hI⟩, ?_⟩
    rintro m i Hy ⟨rfl, r, rfl, hr1, hr2, rfl, hR⟩
    refine cond_dec (fun hle => ?_) (fun hgt => ⟨rfl, r, rfl, hr1, hr2, hR, .inl (by omega)⟩)
    refine grd_intro rfl ⟨by omega, by omega, _, hDx.cell (by omega), grd_intro rfl ⟨by omega, by omega, _, hDx.cell (by omega), less_ok.mono ?_⟩⟩
    rintro _ _ ⟨rfl, rfl⟩
    rw [hPa]
    refine ⟨_, rfl, cond_intro (fun hl => ?_) (fun hnl => ⟨rfl, r, rfl, hr1, hr2, hR, .inr (by simpa using hnl)⟩)⟩
    intro t et
    obtain rfl : t = ((r + 1 : Nat) : Int) := et.trans (wnat (by omega) (by omega))
    exact ⟨q + 1 - (r + 1), by omega, rfl, r + 1, rfl, by omega, by omega, rfl, hR.left hl⟩
  rintro i Hy ⟨rfl, r, rfl, hr1, hr2, hR, hre⟩
  refine ⟨fun j Hy => Hx = Hy ∧ ∃ s : Nat, j = s ∧ a ≤ s ∧ s ≤ q ∧ r ≤ s + 1 ∧ PI (fun x => !decide (P < x)) a b r s ws ∧ (r = s + 1 ∨ decide (P < at_ ws s) = false), ?_, ?_⟩
  · refine ⟨fun m j Hy => Hx = Hy ∧ ∃ s : Nat, j = s ∧ a ≤ s ∧ s ≤ q ∧ r ≤ s + 1 ∧ s = m ∧ PI (fun x => !decide (P < x)) a b r s ws, ⟨_, rfl, q, rfl, by omega, by omega, by omega, rfl, hR⟩, ?_⟩
    rintro m j Hy ⟨rfl, s, rfl, hs1, hs2, hs3, rfl, hJ⟩
    refine cond_dec (fun hle => ?_) (fun hgt => ⟨rfl, s, rfl, hs1, hs2, hs3, hJ, .inl (by omega)⟩)
    refine grd_intro rfl ⟨by omega, by omega, _, hDx.cell (by omega), grd_intro rfl ⟨by omega, by omega, _, hDx.cell (by omega), less_ok.mono ?_⟩⟩
    rintro _ _ ⟨rfl, rfl⟩
    rw [hPa]
    refine ⟨_, rfl, cond_intro (fun hl => ?_) (fun hnl => ⟨rfl, s, rfl, hs1, hs2, hs3, hJ, .inr hnl⟩)⟩
    intro t et
    obtain rfl : t = ((s - 1 : Nat) : Int) := et.trans (wnat (by omega) (by omega))
    exact ⟨s - 1, by omega, rfl, s - 1, rfl, by omega, by omega, by omega, rfl, hJ.right (by rw [hl]; rfl)⟩
  rintro j Hy ⟨rfl, s, rfl, hs1, hs2, hs3, hJ, hse⟩
  refine cond_dec (fun hgt => ?_) (fun hle => ?_)
  · refine ⟨r, ws, rfl, by omega, by omega, hDx, hS, fun k h1 h2 => ?_, fun k h1 h2 => ?_, hm⟩
    · by_cases e : k = a
      · rw [e, hPa]; exact Int.le_refl _
      · have := hJ.1 k (by omega) h2
        have : ¬ P < at_ ws k := by simpa using this
        omega
    · have := hJ.2 k (by omega) h2
      simpa using this
  have hpf : (fun x => !decide (P < x)) (at_ ws r) = false := by
    rcases hre with h | h
    · omega
    · simp only [h]; rfl
  have hqt : (fun x => !decide (P < x)) (at_ ws s) = true := by
    rcases hse with h | h
    · omega
    · simp only [h]; rfl
  have hpq : r < s := by
    rcases Nat.lt_or_ge r s with h | h
    · exact h
    · have : r = s := by omega
      rw [this, hqt] at hpf; cases hpf
  obtain ⟨H11, H12, k1, k2, k3, k4⟩ := hDx.swap hm.ok (i := r) (j := s) (by omega) (by omega)
  obtain ⟨l1, l2⟩ := hJ.swap hpf hqt hpq (by omega) (by omega) (by omega)
  refine grd_intro rfl ⟨by omega, by omega, _, hDx.cell (by omega), grd_intro rfl ⟨by omega, by omega, _, hDx.cell (by omega), grd_intro rfl ⟨by omega, by omega, H11, k1, grd_intro rfl ⟨by omega, by omega, H12, k2, ?_⟩⟩⟩⟩
  intro t96 e96
  obtain rfl : t96 = ((r + 1 : Nat) : Int) := e96.trans (wnat (by omega) (by omega))
  intro t98 e98
  obtain rfl : t98 = ((s - 1 : Nat) : Int) := e98.trans (wnat (by omega) (by omega))
  exact ⟨s - 1, by omega, r + 1, s - 1, _, rfl, rfl, by omega, by omega, by omega, by omega, rfl, k3, hS.trans (.sw (by omega) (by omega) (by omega) (by omega) (by omega) (by omega)), l2.trans hPa, l1, hm.trans k4⟩
end
end Go.Proofs.Cx
