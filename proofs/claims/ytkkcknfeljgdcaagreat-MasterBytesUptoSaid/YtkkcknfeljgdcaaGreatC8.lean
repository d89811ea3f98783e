/- MasterBytes: jobs that are taken, and all that was agreed on. MasterBytes: the law. Printed in part by mkr5.py. MasterBytes: what comes in, and how much it is. -/
import Derived.Test.YtkkcknfeljgdcaaGreatC7
import Derived.Test.YtkkcknfeljgdcaaGreatVc3
import Derived.Test.YtkkcknfeljgdcaaGreatC6
namespace Go.Proofs.Cx
open Go Go.Ev
section
variable {H : AH} {b : Nat} {s : List UInt8} {q : RSt}
set_option maxHeartbeats 4000000 in
theorem xtjob_ok (ok : Ok H) (hr : Rd H b s q.1 q.2) (hp : AtOk s q) (hs : s.length ≤ 4611686018427387904) :
    FW Ee F_master_takeJob [.pointer (some ⟨b, 0, none⟩)] H fun r H' => ∃ jb x q', r = .pointer (some ⟨jb, 0, none⟩) ∧ H'.cell jb 0 = some (.int .i64 x) ∧ Cn x ∧ Rd H' b s q'.1 q'.2 ∧ AtOk s q' ∧ Mod (· = b) H H' := by
  have hbl := ok.lt hr
  refine fw_master_takeJob ?_
  refine (xcnt_ok 2147483647 (by omega) ok hr hp hs).mono ?_
  rintro _ H1 ⟨rfl, r1, m1⟩
  have a1 := rCnt_ok (m := 2147483647) hp
  refine ⟨_, rfl, (xjob_ok m1.ok r1 a1.1 hs).mono ?_⟩
  rintro _ H2 ⟨a, l, c, pa, pl, pc, rfl, _, _, r2, m2⟩
  have a2 := (rJob_ok a1.1).1
  refine ⟨_, _, _, _, _, _, _, _, _, _, rfl, (xcnt_ok 4 (by omega) m2.ok r2 a2 hs).mono ?_⟩
  rintro _ H3 ⟨rfl, r3, m3⟩
  have a3 := rCnt_ok (m := 4) a2
  have m03 := (m1.trans m2).trans m3
  have n3 := m03.next
  obtain ⟨x, hx⟩ : ∃ x : Int, x = ((rCnt s 2147483647 q).1 : Int) := ⟨_, rfl⟩
  have cx : Cn x := by unfold Cn; omega
  rw [← hx]
  refine ⟨_, rfl, ?_⟩
  intro H4 e4
  obtain ⟨g4, j4, n4⟩ := new_job m3.ok e4
  have m04 : Mod (· = b) H H4 := m03.add g4
  have r4 := r3.mod g4 not_false
  refine (xtxt_ok g4.ok r4 a3.1 hs).mono ?_
  rintro _ H5 ⟨rfl, r5, m5⟩
  have a5 := rTxt_ok a3.1
  have n5 := m5.next
  have j5 := m5.get _ _ (show ¬ H3.next = b by omega) j4
  refine ⟨_, rfl, (xout_ok m5.ok (by omega)).mono ?_⟩
  rintro _ H6 ⟨k0, er, st0, oa, ol, oc, e, rfl, g6⟩
  have n6 := g6.next
  refine ⟨_, _, _, _, _, _, _, rfl, ?_⟩
  intro H7 e7
  obtain ⟨H8, s8, o8, g8, n8⟩ := fresh_store (vs := [.int .i64 k0, .int .i64 er, .int .i64 st0, .slice oa ol oc]) e7 rfl rfl g6.ok
  have r8 := (r5.mod g6 not_false).mod g8 not_false
  have j8 := g8.get _ _ not_false (g6.get _ _ not_false j5)
  have m08 : Mod (· = b) H H8 := ((m04.trans m5).add g6).add g8
  obtain ⟨jb, hjb⟩ : ∃ jb, jb = H3.next := ⟨_, rfl⟩
  obtain ⟨lo, hlo⟩ : ∃ lo, lo = H6.next + 1 := ⟨_, rfl⟩
  rw [← hjb] at j8
  have hne : jb ≠ b := by omega
  have JC8 : ∃ cs, H8.get jb = some (.cells cs 0) ∧ JC cs x ((rCnt s 4 (rJob s (rCnt s 2147483647 q).2).2).1 : Int) none ∧ cs[15]? = some (.slice none 0 0) := ⟨_, j8, ⟨rfl, rfl, rfl, rfl⟩, rfl⟩
  obtain ⟨cs8, j8', C8, as8⟩ := JC8
  obtain ⟨st, hst⟩ : ∃ st : Int, st = ((rCnt s 4 (rJob s (rCnt s 2147483647 q).2).2).1 : Int) := ⟨_, rfl⟩
  rw [← hst] at C8
  rw [← hjb]
  refine ⟨H8, s8, (rerr_ok r8).mono ?_⟩
  rintro _ _ ⟨rfl, rfl⟩
  refine ⟨_, rfl, fun Hb => ∃ q', Hb.get jb = some (.cells cs8 0) ∧ Hb.get H6.next = some (.cells [.int .i64 k0, .int .i64 er, .int .i64 st0, .slice oa ol oc] 0) ∧ Rd Hb b s q'.1 q'.2 ∧ AtOk s q' ∧ Mod (· = b) H Hb ∧ lo ≤ Hb.next, ?_, ?_⟩
  · refine cond_intro (fun _ => ?_) (fun _ => ⟨_, j8', o8, r8, a5.1, m08, by omega⟩)
    refine (rfail_ok g8.ok r8 e).mono ?_
    rintro _ H10 ⟨rfl, r10, m10⟩
    have n10 := m10.next
    exact ⟨rfl, ((rTxt s (rCnt s 4 (rJob s (rCnt s 2147483647 q).2).2).2).2.1, if (rTxt s (rCnt s 4 (rJob s (rCnt s 2147483647 q).2).2).2).2.2 = 0 then e else (rTxt s (rCnt s 4 (rJob s (rCnt s 2147483647 q).2).2).2).2.2), m10.get _ _ hne j8', m10.get _ _ (by omega) o8, r10, a5.1, m08.trans m10, by omega⟩
  rintro H11 ⟨q11, j11, o11, r11, a11, m11, n11⟩
  have hl8 := C8.len
  obtain ⟨H12, s12, c12, m12, n12⟩ := st_cell (o := 8) (w := [.int .i64 k0, .int .i64 er, .int .i64 st0, .slice oa ol oc]) (cs' := lset cs8 8 [.int .i64 k0, .int .i64 er, .int .i64 st0, .slice oa ol oc]) m11.ok j11 (by simp; omega) rfl rfl
  have C12 := C8.set (o := 8) (w := [.int .i64 k0, .int .i64 er, .int .i64 st0, .slice oa ol oc]) (by omega) (by simp) (by simp)
  have as12 : (lset cs8 8 [.int .i64 k0, .int .i64 er, .int .i64 st0, .slice oa ol oc])[15]? = some (.slice none 0 0) := by
    rw [lset_out (by simp; omega) (by simp)]; exact as8
  refine ⟨_, _, _, _, _, _, cell_of o11 rfl, cell_of o11 rfl, cell_of o11 rfl, cell_of o11 rfl, H12, s12, ?_⟩
  have mm12 := m11.ext m12 ok fun x hx => .inr (by omega)
  have r12 : Rd H12 b s q11.1 q11.2 := r11.mod m12 (by omega)
  intro H13 e13
  obtain ⟨g13, p13, n13⟩ := new_job m12.ok e13
  refine ⟨fun m t Hb => ∃ (i : Nat) (cs : List Value) (q' : RSt), t = i ∧ i ≤ 6 ∧ m = 6 - i ∧ Hb.get jb = some (.cells cs 0) ∧ JC cs x st none ∧ cs[15]? = some (.slice none 0 0) ∧ Hb.get H12.next = some (.cells [.pointer (some ⟨jb, 12, none⟩), .pointer (some ⟨jb, 13, none⟩), .pointer (some ⟨jb, 14, none⟩), .pointer (some ⟨jb, 27, none⟩), .pointer (some ⟨jb, 38, none⟩), .pointer (some ⟨jb, 39, none⟩)] 0) ∧ Rd Hb b s q'.1 q'.2 ∧ AtOk s q' ∧ Mod (· = b) H Hb ∧ H13.next ≤ Hb.next,
    ⟨_, 0, _, q11, rfl, by omega, rfl, g13.get _ _ not_false c12, C12, as12, p13, r12.mod g13 not_false, a11, mm12.add g13, Nat.le_refl _⟩, ?_⟩
  rintro m t H14 ⟨i, cs, q', rfl, hi, rfl, j14, C14, as14, p14, r14, a14, m14, n14⟩
  have hl14 := C14.len
  refine cond_dec (fun hlt => ?_) (fun hge => ?_)
  · have hi6 : i < 6 := by omega
    obtain ⟨o1, o2, o3⟩ := off6_ok hi6
    refine ⟨by omega, by omega, _, cell_of p14 (ptr6 hi6), (xcnt_ok 2147483647 (by omega) m14.ok r14 a14 hs).mono ?_⟩
    rintro _ H15 ⟨rfl, r15, m15⟩
    have a15 := rCnt_ok (m := 2147483647) a14
    have n15 := m15.next
    obtain ⟨H16, s16, c16, m16, n16⟩ := st_cell (o := off6 i) (w := [.int .i64 ((rCnt s 2147483647 q').1 : Int)]) (cs' := lset cs (off6 i) [.int .i64 ((rCnt s 2147483647 q').1 : Int)]) m15.ok (m15.get _ _ hne j14) (by simp; omega) rfl rfl
    refine ⟨_, rfl, grd_intro rfl (grd_intro rfl ⟨H16, s16, ?_⟩)⟩
    intro t64 e64
    rw [wrap_i64 (by omega) (by omega)] at e64
    subst e64
    refine ⟨6 - (i + 1), by omega, i + 1, _, _, by simp, by omega, rfl, c16, C14.set o1 (by simp; omega) (by simp; omega), ?_, m16.get _ _ (by omega) (m15.get _ _ (by omega) p14), r15.mod m16 (by omega), a15.1, (m14.trans m15).ext m16 ok fun x hx => .inr (by omega), by omega⟩
    rw [lset_out (by simp; omega) (by simp; omega)]; exact as14
  refine (xcnt_ok 16 (by omega) m14.ok r14 a14 hs).mono ?_
  rintro _ H17 ⟨rfl, r17, m17⟩
  have a17 := rCnt_ok (m := 16) a14
  have n17 := m17.next
  obtain ⟨n, hn⟩ : ∃ n, n = (rCnt s 16 q').1 := ⟨_, rfl⟩
  rw [← hn] at a17 ⊢
  have j17 := m17.get _ _ hne j14
  have m017 := m14.trans m17
  refine ⟨_, rfl, fun _ Hb => Jst H s b jb H17.next x Hb none, ?_, ?_⟩
  · refine ⟨fun m n6 Hb => ∃ (k : Nat) (cs : List Value) (a : Option Addr) (l c : Nat) (zs : List Value) (q' : RSt), n6 = k ∧ m = k ∧ l + k ≤ 16 ∧ Hb.get jb = some (.cells cs 0) ∧ JC cs x st none ∧ cs[15]? = some (.slice a l c) ∧ Own Hb 1 a l c zs ∧ (∀ y, a = some y → H17.next ≤ y.block) ∧ Rd Hb b s q'.1 q'.2 ∧ AtOk s q' ∧ Mod (· = b) H Hb ∧ H17.next ≤ Hb.next,
      ⟨_, n, cs, none, 0, 0, [], _, rfl, rfl, by omega, j17, C14, as14, Own.nil _ _, fun y e => (by cases e), r17, a17.1, m017, Nat.le_refl _⟩, ?_⟩
    rintro m n6 H18 ⟨k, cs, a, l, c, zs, q18, rfl, hmk, hk, j18, C18, as18, hO, hfar, r18, a18, m18, n18⟩
    have hl18 := C18.len
    refine cond_dec (fun hpos => (rerr_ok r18).mono ?_) (fun hz => ⟨cs, st, q18, j18, C18, r18, a18, m18, n18⟩)
    rintro _ _ ⟨rfl, rfl⟩
    refine ⟨_, rfl, cond_intro (fun he => ?_) (fun he => ⟨cs, st, q18, j18, C18, r18, a18, m18, n18⟩)⟩
    refine ⟨_, _, _, cell_of j18 as18, (xcnt_ok 2147483647 (by omega) m18.ok r18 a18 hs).mono ?_⟩
    rintro _ H20 ⟨rfl, r20, m20⟩
    have a20 := rCnt_ok (m := 2147483647) a18
    have n20 := m20.next
    refine ⟨_, rfl, ?_⟩
    intro H21 e21
    have g21 : Grow H20 H21 := e21 ▸ Grow.new m20.ok _
    have n21 : H21.next = H20.next + 1 := by rw [e21]; rfl
    obtain ⟨H22, k1, k2, k3, k4⟩ := ((hO.mod m20 fun x hx y ey e => by have := hfar y ey; omega).mod g21 fun _ h => h.elim).append (n := 1) (bytes := 8) (new := [.int .i64 ((rCnt s 2147483647 q18).1 : Int)]) (x := .slice (some ⟨H20.next, 0, none⟩) 1 2) g21.ok rfl (takev_new e21 rfl) (by omega) rfl rfl (by omega) (by omega)
    have lowS : ∀ {x : Nat}, x < H17.next → ¬ (¬ Off a x) := fun hx h => h fun z ez e => by have := hfar z ez; omega
    have j21 := g21.get _ _ not_false (m20.get _ _ hne j18)
    obtain ⟨H23, s23, c23, m23, n23⟩ := st_cell (o := 15) (w := [.slice (some ⟨H21.next, 0, none⟩) (l + 1) (2 * (l + 1) + 1)]) (cs' := lset cs 15 [.slice (some ⟨H21.next, 0, none⟩) (l + 1) (2 * (l + 1) + 1)]) k4.ok (k4.get _ _ (lowS (by omega)) j21) (by simp; omega) rfl rfl
    refine ⟨_, _, _, H22, k1, H23, s23, cell_of j21 as18, ?_⟩
    intro t75 e75
    rw [wrap_i64 (by omega) (by omega)] at e75
    subst e75
    refine ⟨k - 1, by omega, k - 1, _, some ⟨H21.next, 0, none⟩, l + 1, 2 * (l + 1) + 1, _, _, by omega, rfl, by omega, c23, C18.set (by omega) (by simp) (by simp), lset_in (by omega), k2.mod m23 fun x hx y ey => by cases ey; simp only; omega, fun y e => by cases e; simp only; omega, (show Rd H22 b s (rCnt s 2147483647 q18).2.1 (rCnt s 2147483647 q18).2.2 from k4.get _ _ (lowS (by omega)) (g21.get _ _ not_false r20)).mod m23 (by omega), a20.1, ?_, by omega⟩
    refine (((m18.trans m20).add g21).ext k4 ok fun x hx => .inr ?_).ext m23 ok fun x hx => .inr (by omega)
    obtain ⟨z, ez, rfl⟩ := off_not hx
    have := hfar z ez
    omega
  rintro _ H24 ⟨cs24, st24, q24, j24, C24, r24, a24, m24, n24⟩
  intro H25 e25
  obtain ⟨g25, p25, n25⟩ := new_job m24.ok e25
  refine ⟨fun m t Hb => ∃ (i : Nat) (cs : List Value) (q' : RSt), t = i ∧ i ≤ 3 ∧ m = 3 - i ∧ Hb.get jb = some (.cells cs 0) ∧ JC cs x st24 none ∧ Hb.get H24.next = some (.cells [.pointer (some ⟨jb, 17, none⟩), .pointer (some ⟨jb, 28, none⟩), .pointer (some ⟨jb, 40, none⟩)] 0) ∧ Rd Hb b s q'.1 q'.2 ∧ AtOk s q' ∧ Mod (· = b) H Hb ∧ H25.next ≤ Hb.next,
    ⟨_, 0, cs24, q24, rfl, by omega, rfl, g25.get _ _ not_false j24, C24, p25, r24.mod g25 not_false, a24, m24.add g25, Nat.le_refl _⟩, ?_⟩
  rintro m t H26 ⟨i, cs, q26, rfl, hi, rfl, j26, C26, p26, r26, a26, m26, n26⟩
  have hl26 := C26.len
  refine cond_dec (fun hlt => ?_) (fun hge => ?_)
  · have hi3 : i < 3 := by omega
    obtain ⟨o1, o2⟩ := off3_ok hi3
    refine ⟨by omega, by omega, _, cell_of p26 (ptr3 hi3), (xagg_ok m26.ok r26 a26 hs).mono ?_⟩
    rintro _ H27 ⟨h, v, q27, rfl, _, _, r27, t27, m27⟩
    have n27 := m27.next
    obtain ⟨H28, s28, c28, m28, n28⟩ := st_cell (o := off3 i) (w := aC h v) (cs' := lset cs (off3 i) (aC h v)) m27.ok (m27.get _ _ hne j26) (by simp [aC]; omega) rfl rfl
    refine ⟨_, _, _, _, _, _, _, _, _, _, rfl, grd_intro rfl (grd_intro rfl ⟨H28, s28, ?_⟩)⟩
    intro t106 e106
    rw [wrap_i64 (by omega) (by omega)] at e106
    subst e106
    exact ⟨3 - (i + 1), by omega, i + 1, _, _, by simp, by omega, rfl, c28, C26.set (by omega) (by simp [aC]; omega) (by omega), m28.get _ _ (by omega) (m27.get _ _ (by omega) p26), r27.mod m28 (by omega), t27.1, (m26.trans m27).ext m28 ok fun x hx => .inr (by omega), by omega⟩
  refine ⟨_, cell_of j26 C26.c7, fun Hb => ∃ mr, Jst H s b jb H26.next x Hb mr ∧ ∀ r, mr = some r → Hb.get r = some (.map [] 0) ∧ H26.next ≤ r, ?_, ?_⟩
  · refine cond_intro (fun _ => ?_) (fun _ => ⟨none, ⟨cs, st24, q26, j26, C26, r26, a26, m26, Nat.le_refl _⟩, fun r e => by cases e⟩)
    intro H29 e29
    have g29 : Grow H26 H29 := e29 ▸ Grow.new m26.ok _
    have n29 : H29.next = H26.next + 1 := by rw [e29]; rfl
    have p29 : H29.get H26.next = some (.map [] 0) := e29 ▸ get_new_self _ _
    obtain ⟨H30, s30, c30, m30, n30⟩ := st_cell (o := 16) (w := [.map (some H26.next)]) (cs' := lset cs 16 [.map (some H26.next)]) g29.ok (g29.get _ _ not_false j26) (by simp; omega) rfl rfl
    exact ⟨H30, s30, some H26.next, ⟨_, st24, q26, c30, C26.setm, (r26.mod g29 not_false).mod m30 (by omega), a26, (m26.add g29).ext m30 ok fun x hx => .inr (by omega), by omega⟩, fun r e => by cases e; exact ⟨m30.get _ _ (by omega) p29, Nat.le_refl _⟩⟩
  rintro H31 ⟨mr, ⟨cs31, st31, q31, j31, C31, r31, a31, m31, n31⟩, hmr⟩
  refine (xcnt_ok 64 (by omega) m31.ok r31 a31 hs).mono ?_
  rintro _ H32 ⟨rfl, r32, m32⟩
  have a32 := rCnt_ok (m := 64) a31
  have n32 := m32.next
  obtain ⟨nr, hnr⟩ : ∃ n, n = (rCnt s 64 q31).1 := ⟨_, rfl⟩
  rw [← hnr] at a32 ⊢
  have fin : ∀ {Hx : AH}, Jst H s b jb H26.next x Hx mr → ∃ jb' x' q', Value.pointer (some ⟨jb, 0, none⟩) = .pointer (some ⟨jb', 0, none⟩) ∧ Hx.cell jb' 0 = some (.int .i64 x') ∧ Cn x' ∧ Rd Hx b s q'.1 q'.2 ∧ AtOk s q' ∧ Mod (· = b) H Hx := by
    rintro Hx ⟨cs, st, q', k1, k2, k3, k4, k5, _⟩
    exact ⟨jb, x, q', rfl, cell_of k1 k2.c0, cx, k3, k4, k5⟩
  refine ⟨_, rfl, fun _ Hb => Jst H s b jb H26.next x Hb mr, ?_, fun _ Hx h => fin h⟩
  refine ⟨fun m n6 Hb => ∃ (k : Nat), n6 = k ∧ m = k ∧ k ≤ 64 ∧ Jst H s b jb H26.next x Hb mr ∧ ∀ r, mr = some r → H26.next ≤ r ∧ ∃ zs val, MapV Hb r zs val ∧ zs.length + k ≤ 64,
    ⟨_, nr, rfl, rfl, by omega, ⟨cs31, st31, _, m32.get _ _ hne j31, C31, r32, a32.1, m31.trans m32, by omega⟩, fun r e => ?_⟩, ?_⟩
  · obtain ⟨h1, h2⟩ := hmr r e
    exact ⟨h2, [], fun _ => .bool true, MapV.empty (m32.get _ _ (by omega) h1), by simp; omega⟩
  rintro m n6 H33 ⟨k, rfl, hmk, hk, hJ, hM⟩
  have hJ' := hJ
  obtain ⟨cs33, st33, q33, j33, C33, r33, a33, m33, n33⟩ := hJ'
  refine cond_dec (fun hpos => (rerr_ok r33).mono ?_) (fun hz => hJ)
  rintro _ _ ⟨rfl, rfl⟩
  refine ⟨_, rfl, cond_intro (fun he => ?_) (fun he => hJ)⟩
  refine (xrep_ok m33.ok r33 a33 hs).mono ?_
  rintro _ H35 ⟨f, h, v, ra, rl, rc, vs, q35, rfl, hf, hv, _, _, _, _, r35, t35, m35⟩
  have n35 := m35.next
  refine ⟨_, _, _, _, _, _, _, _, _, _, _, _, _, _, _, _, _, _, _, _, _, _, rfl, ?_⟩
  intro H36 e36
  obtain ⟨H37, s37, c37, g37, n37⟩ := fresh_store (vs := repC f h v ra rl rc) e36 rfl rfl m35.ok
  have j37 := g37.get _ _ not_false (m35.get _ _ hne j33)
  have r37 := r35.mod g37 not_false
  have m37 : Mod (· = b) H33 H37 := m35.add g37
  refine ⟨H37, s37, mr, cell_of j37 C33.c16, fun Hb => Jst H s b jb H26.next x Hb mr ∧ ∀ r, mr = some r → H26.next ≤ r ∧ ∃ zs val, MapV Hb r zs val ∧ zs.length + (k - 1) ≤ 64, ?_, ?_⟩
  · refine cond_intro (fun hsm => ?_) (fun hsm => ⟨⟨cs33, st33, q35, j37, C33, r37, t35.1, m33.trans m37, by omega⟩, fun r e => ?_⟩)
    · cases mr with
      | none => simp at hsm
      | some r =>
        obtain ⟨h1, zs, val, h2, h3⟩ := hM r rfl
        have hf4 := hf 4
        obtain ⟨zs', H38, u1, u2, u3, u4, d38, n38⟩ := (h2.mod m37 (by omega)).put (kt := T_int) (fun _ _ => eqv_I) g37.ok (c := f 4) (by unfold I64; omega) (by omega) (.agg ⟨repC f h v ra rl rc⟩)
        refine ⟨_, cell_of j37 C33.c16, _, cell_of c37 rfl, _, _, _, _, _, _, _, _, _, _, _, _, _, _, _, _, _, _, _, _, _, _, cell_of c37 rfl, cell_of c37 rfl, cell_of c37 rfl, cell_of c37 rfl, cell_of c37 rfl, cell_of c37 rfl, cell_of c37 rfl, cell_of c37 rfl, cell_of c37 rfl, cell_of c37 rfl, cell_of c37 rfl, cell_of c37 rfl, cell_of c37 rfl, cell_of c37 rfl, cell_of c37 rfl, cell_of c37 rfl, cell_of c37 rfl, cell_of c37 rfl, cell_of c37 rfl, cell_of c37 rfl, H38, by rw [upd_ir]; exact u1, ⟨cs33, st33, q35, d38.get _ _ (by omega) j37, C33, r37.mod d38 (by omega), t35.1, (m33.trans m37).ext d38 ok fun x hx => .inr (by omega), by omega⟩, fun r' e => ?_⟩
        cases e
        refine ⟨h1, zs', _, u2, ?_⟩
        rcases u4 with e | e
        · rw [e]; omega
        · rw [e, List.length_append]; simp; omega
    · subst e
      simp at hsm
  rintro H39 ⟨hJ39, hM39⟩
  intro t126 e126
  rw [wrap_i64 (by omega) (by omega)] at e126
  subst e126
  exact ⟨k - 1, by omega, k - 1, by omega, rfl, by omega, hJ39, hM39⟩
/-- any bytes as all that was agreed on -/
theorem decode_ok (ok : Ok H) (hs : s.length ≤ 4611686018427387904) :
    FW Ee F_master_Decode [.string ⟨⟨s⟩⟩] H fun r H' => ∃ p e, r = .tuple ⟨[.pointer p, .int .i64 e]⟩ ∧ (e = 0 ↔ p.isSome = true) ∧ Grow H H' := by
  refine fw_master_Decode ?_
  refine (newreader_ok ok).mono ?_
  rintro _ H1 ⟨rfl, r1, g1⟩
  have n1 := g1.ok.lt r1
  refine ⟨_, rfl, (newfm_ok g1.ok).mono ?_⟩
  rintro _ H2 ⟨rfl, f2, n2, g2⟩
  have q0 : AtOk s (0, 0) := Nat.zero_le _
  refine ⟨_, rfl, (xsess_ok (q := (0, 0)) g2.ok (r1.mod g2 not_false) q0 hs).mono ?_⟩
  rintro _ H3 ⟨p3, q3, rfl, r3, a3, m3⟩
  have n3 := m3.next
  have mm3 := m3.get _ _ (show ¬ H1.next + 4 = H.next by omega) f2.m
  have jj3 := m3.get _ _ (show ¬ H1.next + 2 = H.next by omega) f2.j
  have ww3 := m3.get _ _ (show ¬ H1.next + 3 = H.next by omega) f2.w
  have g3 : Grow H H3 := (g1.trans g2).ext m3 ok fun x hx => .inr (by omega)
  obtain ⟨H4, s4, c4, m4, n4⟩ := st_cell (o := 0) (w := [.pointer p3]) (cs' := [.pointer p3, .map (some (H1.next + 2)), .map (some (H1.next + 3)), .int .i64 0, .int .i64 0]) m3.ok mm3 (by simp) rfl rfl
  refine ⟨_, rfl, grd_intro rfl (grd_intro rfl ⟨H4, s4, (xcnt_ok 2147483647 (by omega) m4.ok (r3.mod m4 (by omega)) a3 hs).mono ?_⟩)⟩
  rintro _ H5 ⟨rfl, r5, m5⟩
  have a5 := rCnt_ok (m := 2147483647) a3
  refine ⟨_, rfl, (xcnt_ok 2147483647 (by omega) m5.ok r5 a5.1 hs).mono ?_⟩
  rintro _ H6 ⟨rfl, r6, m6⟩
  have a6 := rCnt_ok (m := 2147483647) a5.1
  have m46 := m5.trans m6
  have n6 := m46.next
  have c6 := m46.get _ _ (show ¬ H1.next + 4 = H.next by omega) c4
  obtain ⟨x5, h5⟩ : ∃ x : Int, x = ((rCnt s 2147483647 q3).1 : Int) := ⟨_, rfl⟩
  obtain ⟨x6, h6⟩ : ∃ x : Int, x = ((rCnt s 2147483647 (rCnt s 2147483647 q3).2).1 : Int) := ⟨_, rfl⟩
  rw [← h5, ← h6]
  obtain ⟨H7, s7, c7, m7, n7⟩ := st_cell (o := 3) (w := [.int .i64 x5]) (cs' := [.pointer p3, .map (some (H1.next + 2)), .map (some (H1.next + 3)), .int .i64 x5, .int .i64 0]) m6.ok c6 (by simp) rfl rfl
  obtain ⟨H8, s8, c8, m8, n8⟩ := st_cell (o := 4) (w := [.int .i64 x6]) (cs' := [.pointer p3, .map (some (H1.next + 2)), .map (some (H1.next + 3)), .int .i64 x5, .int .i64 x6]) m7.ok c7 (by simp) rfl rfl
  refine ⟨_, rfl, grd_intro rfl (grd_intro rfl ⟨H7, s7, grd_intro rfl (grd_intro rfl ⟨H8, s8, (xcnt_ok 64 (by omega) m8.ok ((r6.mod m7 (by omega)).mod m8 (by omega)) a6.1 hs).mono ?_⟩)⟩)⟩
  rintro _ H9 ⟨rfl, r9, m9⟩
  have a9 := rCnt_ok (m := 64) a6.1
  have n9 := m9.next
  have c9 := m9.get _ _ (show ¬ H1.next + 4 = H.next by omega) c8
  have j9 := m9.get _ _ (show ¬ H1.next + 2 = H.next by omega) (m8.get _ _ (by omega) (m7.get _ _ (by omega) (m46.get _ _ (by omega) (m4.get _ _ (by omega) jj3))))
  have w9 := m9.get _ _ (show ¬ H1.next + 3 = H.next by omega) (m8.get _ _ (by omega) (m7.get _ _ (by omega) (m46.get _ _ (by omega) (m4.get _ _ (by omega) ww3))))
  have g9 : Grow H H9 := ((((g3.ext m4 ok fun x hx => .inr (by omega)).ext m46 ok fun x hx => .inr (by omega)).ext m7 ok fun x hx => .inr (by omega)).ext m8 ok fun x hx => .inr (by omega)).ext m9 ok fun x hx => .inr (by omega)
  obtain ⟨nw, hnw⟩ : ∃ n, n = (rCnt s 64 (rCnt s 2147483647 (rCnt s 2147483647 q3).2).2).1 := ⟨_, rfl⟩
  rw [← hnw] at a9 ⊢
  have fin : ∀ {Hx Hy : AH}, Grow H Hx → Mod (· = H.next) Hx Hy → ∀ (e : Int), cond (e != 0) (∃ p e', Value.tuple ⟨[.pointer none, .int .i64 e]⟩ = .tuple ⟨[.pointer p, .int .i64 e']⟩ ∧ (e' = 0 ↔ p.isSome = true) ∧ Grow H Hy) (∃ p e', Value.tuple ⟨[.pointer (some ⟨H1.next + 4, 0, none⟩), .int .i64 0]⟩ = .tuple ⟨[.pointer p, .int .i64 e']⟩ ∧ (e' = 0 ↔ p.isSome = true) ∧ Grow H Hy) := by
    intro Hx Hy gx mx e
    have gy : Grow H Hy := gx.ext mx ok fun x hx => .inr (by omega)
    exact cond_intro (fun he => ⟨_, _, rfl, ⟨fun h0 => ((show e ≠ 0 from by simpa using he) h0).elim, fun h0 => by cases h0⟩, gy⟩) (fun _ => ⟨_, _, rfl, by simp, gy⟩)
  refine ⟨_, rfl, fun _ Hb => ∃ q', Hb.get (H1.next + 4) = some (.cells [.pointer p3, .map (some (H1.next + 2)), .map (some (H1.next + 3)), .int .i64 x5, .int .i64 x6] 0) ∧ Hb.get (H1.next + 2) = some (.map [] 0) ∧ Rd Hb H.next s q'.1 q'.2 ∧ AtOk s q' ∧ Grow H Hb ∧ H9.next ≤ Hb.next, ?_, ?_⟩
  · refine ⟨fun m n6 Hb => ∃ (k : Nat) (zs : List Int) (val : Int → Value) (q' : RSt), n6 = k ∧ m = k ∧ zs.length + k ≤ 64 ∧ MapV Hb (H1.next + 3) zs val ∧ Hb.get (H1.next + 4) = some (.cells [.pointer p3, .map (some (H1.next + 2)), .map (some (H1.next + 3)), .int .i64 x5, .int .i64 x6] 0) ∧ Hb.get (H1.next + 2) = some (.map [] 0) ∧ Rd Hb H.next s q'.1 q'.2 ∧ AtOk s q' ∧ Grow H Hb ∧ H9.next ≤ Hb.next,
      ⟨_, nw, [], fun _ => .bool true, _, rfl, rfl, by simp; omega, MapV.empty w9, c9, j9, r9, a9.1, g9, Nat.le_refl _⟩, ?_⟩
    rintro m n6 H10 ⟨k, zs, val, q10, rfl, hmk, hk, M10, c10, j10, r10, a10, g10, n10⟩
    refine cond_dec (fun hpos => (rerr_ok r10).mono ?_) (fun hz => ⟨q10, c10, j10, r10, a10, g10, n10⟩)
    rintro _ _ ⟨rfl, rfl⟩
    refine ⟨_, rfl, cond_intro (fun he => ?_) (fun he => ⟨q10, c10, j10, r10, a10, g10, n10⟩)⟩
    refine (xcnt_ok 2147483647 (by omega) g10.ok r10 a10 hs).mono ?_
    rintro _ H12 ⟨rfl, r12, m12⟩
    have a12 := rCnt_ok (m := 2147483647) a10
    have c12 := m12.get _ _ (show ¬ H1.next + 4 = H.next by omega) c10
    refine ⟨_, rfl, grd_intro rfl (grd_intro rfl ⟨_, cell_of c12 rfl, (xcnt_ok 2147483647 (by omega) m12.ok r12 a12.1 hs).mono ?_⟩)⟩
    rintro _ H13 ⟨rfl, r13, m13⟩
    have a13 := rCnt_ok (m := 2147483647) a12.1
    have m1013 := m12.trans m13
    have n13 := m1013.next
    have c13 := m13.get _ _ (show ¬ H1.next + 4 = H.next by omega) c12
    obtain ⟨zs', H14, u1, u2, u3, u4, d14, n14⟩ := (M10.mod m1013 (by omega)).put (kt := T_int) (fun _ _ => eqv_I) m13.ok (c := ((rCnt s 2147483647 q10).1 : Int)) (by unfold I64; omega) (by omega) (.int .i64 ((rCnt s 2147483647 (rCnt s 2147483647 q10).2).1 : Int))
    refine ⟨_, rfl, H14, by rw [upd_ii]; exact u1, cell_of c13 rfl, ?_⟩
    intro t39 e39
    rw [wrap_i64 (by omega) (by omega)] at e39
    subst e39
    refine ⟨k - 1, by omega, k - 1, zs', _, _, by omega, rfl, ?_, u2, d14.get _ _ (by omega) c13, d14.get _ _ (by omega) (m1013.get _ _ (by omega) j10), r13.mod d14 (by omega), a13.1, (g10.ext m1013 ok fun x hx => .inr (by omega)).ext d14 ok fun x hx => .inr (by omega), by omega⟩
    rcases u4 with e | e
    · rw [e]; omega
    · rw [e, List.length_append]; simp; omega
  rintro _ H15 ⟨q15, c15, j15, r15, a15, g15, n15⟩
  refine (xcnt_ok 64 (by omega) g15.ok r15 a15 hs).mono ?_
  rintro _ H16 ⟨rfl, r16, m16⟩
  have a16 := rCnt_ok (m := 64) a15
  have n16 := m16.next
  obtain ⟨nj, hnj⟩ : ∃ n, n = (rCnt s 64 q15).1 := ⟨_, rfl⟩
  rw [← hnj] at a16 ⊢
  refine ⟨_, rfl, fun _ Hb => ∃ q', Rd Hb H.next s q'.1 q'.2 ∧ AtOk s q' ∧ Grow H Hb, ?_, ?_⟩
  · refine ⟨fun m n6 Hb => ∃ (k : Nat) (zs : List Int) (val : Int → Value) (q' : RSt), n6 = k ∧ m = k ∧ zs.length + k ≤ 64 ∧ MapV Hb (H1.next + 2) zs val ∧ Hb.get (H1.next + 4) = some (.cells [.pointer p3, .map (some (H1.next + 2)), .map (some (H1.next + 3)), .int .i64 x5, .int .i64 x6] 0) ∧ Rd Hb H.next s q'.1 q'.2 ∧ AtOk s q' ∧ Grow H Hb ∧ H9.next ≤ Hb.next,
      ⟨_, nj, [], fun _ => .bool true, _, rfl, rfl, by simp; omega, MapV.empty (m16.get _ _ (by omega) j15), m16.get _ _ (by omega) c15, r16, a16.1, g15.ext m16 ok fun x hx => .inr (by omega), by omega⟩, ?_⟩
    rintro m n6 H17 ⟨k, zs, val, q17, rfl, hmk, hk, M17, c17, r17, a17, g17, n17⟩
    refine cond_dec (fun hpos => (rerr_ok r17).mono ?_) (fun hz => ⟨q17, r17, a17, g17⟩)
    rintro _ _ ⟨rfl, rfl⟩
    refine ⟨_, rfl, cond_intro (fun he => ?_) (fun he => ⟨q17, r17, a17, g17⟩)⟩
    refine (xtjob_ok g17.ok r17 a17 hs).mono ?_
    rintro _ H18 ⟨jb, x, q18, rfl, j18, cx, r18, a18, m18⟩
    have n18 := m18.next
    have c18 := m18.get _ _ (show ¬ H1.next + 4 = H.next by omega) c17
    unfold Cn at cx
    obtain ⟨zs', H19, u1, u2, u3, u4, d19, n19⟩ := (M17.mod m18 (by omega)).put (kt := T_int) (fun _ _ => eqv_I) m18.ok (c := x) (by unfold I64; omega) (by omega) (.pointer (some ⟨jb, 0, none⟩))
    refine ⟨_, rfl, grd_intro rfl (grd_intro rfl ⟨_, cell_of c18 rfl, grd_intro rfl (grd_intro rfl ⟨_, j18, H19, by rw [upd_ij]; exact u1, ?_⟩)⟩)⟩
    intro t59 e59
    rw [wrap_i64 (by omega) (by omega)] at e59
    subst e59
    refine ⟨k - 1, by omega, k - 1, zs', _, _, by omega, rfl, ?_, u2, d19.get _ _ (by omega) c18, r18.mod d19 (by omega), a18, (g17.ext m18 ok fun x hx => .inr (by omega)).ext d19 ok fun x hx => .inr (by omega), by omega⟩
    rcases u4 with e | e
    · rw [e]; omega
    · rw [e, List.length_append]; simp; omega
  rintro _ H20 ⟨q20, r20, a20, g20⟩
  refine (rend_ok g20.ok r20 a20 hs).mono ?_
  rintro _ H21 ⟨e, rfl, _, m21, _⟩
  exact ⟨_, rfl, fin g20 m21 e⟩
end
end Go.Proofs.Cx

namespace Go.Proofs.Cx
open Go Go.Ev
section
variable {H : AH} {s : List UInt8}
theorem cn_i64 {x : Int} (h : Cn x) : I64 x := by unfold Cn at h; unfold I64; omega
theorem tail_ok {Q : Value → AH → Prop} {t4 : Bool} {Hx : AH} (ok : Ok Hx) (hs : s.length ≤ 140737488351232) (hQ : ∀ H', Grow Hx H' → Q (.bool true) H') : TailMB s t4 Hx Q := by
  unfold TailMB
  refine (deccmd_ok ok (by omega)).mono ?_
  rintro _ H8 ⟨kd, se, sq, t, jd, wk, li, f, h, v, a, l, c, vs, e, rfl, h0, h1, _, g8⟩
  refine ⟨_, _, _, _, _, _, _, _, _, _, _, _, _, _, _, _, _, _, _, _, _, _, _, _, _, _, _, _, _, _, rfl, ?_⟩
  intro H9 e9
  obtain ⟨H10, s10, c10, g10, n10⟩ := fresh_store (vs := cmdV kd se sq t jd wk li f h v a l c) e9 rfl rfl g8.ok
  refine ⟨H10, s10, fun _ Hb => Grow Hx Hb, ?_, ?_⟩
  · refine cond_intro (fun he => ?_) (fun he => ?_)
    · have he : e = 0 := by simpa using he
      obtain ⟨hC, hcan⟩ := h0 he
      have hk := hC.kind
      have n10' := g10.next
      refine ⟨_, _, _, _, _, _, _, _, _, _, _, _, _, _, _, _, _, _, _, _, _, _, _, _, _, _, _, _, _, cell_of c10 rfl, cell_of c10 rfl, cell_of c10 rfl, cell_of c10 rfl, cell_of c10 rfl, cell_of c10 rfl, cell_of c10 rfl, cell_of c10 rfl, cell_of c10 rfl, cell_of c10 rfl, cell_of c10 rfl, cell_of c10 rfl, cell_of c10 rfl, cell_of c10 rfl, cell_of c10 rfl, cell_of c10 rfl, cell_of c10 rfl, cell_of c10 rfl, cell_of c10 rfl, cell_of c10 rfl, cell_of c10 rfl, cell_of c10 rfl, cell_of c10 rfl, cell_of c10 rfl, cell_of c10 rfl, cell_of c10 rfl, cell_of c10 rfl, (enccmd_ok (F := fun x => Hx.next ≤ x ∧ x < H8.next) (f := f) (h := h) (v := v) (a := a) (l := l) (c := c) g10.ok (by unfold I64; omega) hC.sess (cn_i64 hC.cnts.1) (by have := hC.text; omega) (cn_i64 hC.cnts.2.1) (cn_i64 hC.cnts.2.2.1) (cn_i64 hC.cnts.2.2.2.1) (fun i => cn_i64 (hC.cnts.2.2.2.2 i)) hC.vals (hC.sl.grow loc_edge g10) (fun x hx => by omega) hC.pairs (by have := hC.few; omega)).mono ?_⟩
      rintro _ H11 ⟨rfl, g11⟩
      rw [if_pos hk, if_pos hk, ← hcan]
      exact ⟨_, _, rfl, cond_neg rfl (cond_neg (by simp) ((g8.trans g10).trans g11))⟩
    · have he : e ≠ 0 := by simpa using he
      have hz := h1 he
      subst hz
      exact ⟨_, cell_of c10 rfl, cond_neg rfl (g8.trans g10)⟩
  · intro t4' H12 g12
    refine (decode_ok g12.ok (by omega)).mono ?_
    rintro _ H13 ⟨p, e, rfl, hpe, g13⟩
    refine ⟨_, _, rfl, cond_intro (fun he => ?_) (fun he => ?_)⟩
    · have he : e ≠ 0 := by simpa using he
      have hp : p.isNone = true := by
        cases p with
        | none => rfl
        | some x => exact (he (hpe.2 rfl)).elim
      rw [hp]; exact hQ _ (g12.trans g13)
    · have he : e = 0 := by simpa using he
      have hp := hpe.1 he
      have hp : (!p.isNone) = true := by
        cases p with
        | none => cases hp
        | some x => rfl
      rw [hp]; exact hQ _ (g12.trans g13)
theorem cmdB_short {kd se sq : Int} {t : List UInt8} {jd wk li : Int} {f : Nat → Int} {h : Nat → Bool} {v : Nat → Int} {vs : List (Int × Int)} (h1 : 1 ≤ kd) (h5 : kd < 5) (hse : I64 se) (hsq : I64 sq) (hjd : I64 jd) (hwk : I64 wk) (hli : I64 li) (ht : t.length ≤ 140737488351232) :
    (cmdB kd se sq t jd wk li f h v vs).length ≤ 4611686018427387904 := by
  have e0 := enc_len64 (show kd.toNat < 18446744073709551616 by omega)
  have e1 := enc_len64 (fold_lt hse)
  have e2 := enc_len64 (show sq.toNat < 18446744073709551616 by unfold I64 at hsq; omega)
  have e3 := enc_len64 (show jd.toNat < 18446744073709551616 by unfold I64 at hjd; omega)
  have e4 := enc_len64 (show wk.toNat < 18446744073709551616 by unfold I64 at hwk; omega)
  have e5 := enc_len64 (show li.toNat < 18446744073709551616 by unfold I64 at hli; omega)
  have e6 := enc_len64 (show t.length < 18446744073709551616 by omega)
  unfold cmdB txtB sgB
  rw [List.length_append]
  split
  · simp only [List.length_append]; omega
  split
  · simp only [List.length_append]; omega
  split
  · simp only [List.length_append]; omega
  · omega
set_option maxHeartbeats 4000000 in
theorem law_bytes {F : Nat → Prop} {kd se sq jd wk li : Int} {x : List UInt8} {f : Nat → Int} {h : Nat → Bool} {v : Nat → Int} {a : Option Addr} {l c : Nat} {vs : List (Int × Int)} (ok : Ok H) (hkd : I64 kd) (hse : I64 se) (hsq : I64 sq) (hx : x.length ≤ 140737488351232) (hjd : I64 jd) (hwk : I64 wk) (hli : I64 li)
    (hf : ∀ i, I64 (f i)) (hv : ∀ i, I64 (v i)) (hV : SlE F H a l vs) (hF : ∀ x, F x → x < H.next) (hI : ∀ e ∈ vs, PairI e) (hl : vs.length ≤ 4000000) (hs : s.length ≤ 140737488351232) :
    FW Ee F_cohortlaw17_MasterBytes [.agg ⟨cmdV kd se sq x jd wk li f h v a l c⟩, .string ⟨⟨s⟩⟩] H fun r H' => r = .bool true ∧ Grow H H' := by
  refine fw_cohortlaw17_MasterBytes ?_
  intro H1 e1
  obtain ⟨g1, c1, n1⟩ := new_job ok e1
  refine ⟨_, _, _, _, _, _, _, _, _, _, _, _, _, _, _, _, _, _, _, _, _, _, _, _, _, _, _, _, _, cell_of c1 rfl, cell_of c1 rfl, cell_of c1 rfl, cell_of c1 rfl, cell_of c1 rfl, cell_of c1 rfl, cell_of c1 rfl, cell_of c1 rfl, cell_of c1 rfl, cell_of c1 rfl, cell_of c1 rfl, cell_of c1 rfl, cell_of c1 rfl, cell_of c1 rfl, cell_of c1 rfl, cell_of c1 rfl, cell_of c1 rfl, cell_of c1 rfl, cell_of c1 rfl, cell_of c1 rfl, cell_of c1 rfl, cell_of c1 rfl, cell_of c1 rfl, cell_of c1 rfl, cell_of c1 rfl, cell_of c1 rfl, cell_of c1 rfl, (enccmd_ok (F := F) (f := f) (h := h) (v := v) (a := a) (l := l) (c := c) g1.ok hkd hse hsq hx hjd hwk hli hf hv (hV.grow loc_edge g1) (fun x hx => by have := hF x hx; omega) hI hl).mono ?_⟩
  rintro _ H2 ⟨rfl, g2⟩
  have c2 : H2.get H.next = some (.cells (cmdV kd se sq x jd wk li f h v a l c) 0) := g2.get _ _ not_false c1
  have g02 := g1.trans g2
  have n2 := g2.next
  have tl : ∀ t4 Hx, Grow H Hx → TailMB s t4 Hx fun r H' => r = .bool true ∧ Grow H H' := fun t4 Hx g => tail_ok g.ok hs fun H' g' => ⟨rfl, g.trans g'⟩
  have skip : ∃ (J : Bool → AH → Prop), J false H2 ∧ ∀ t4 Hx, J t4 Hx → TailMB s t4 Hx fun r H' => r = .bool true ∧ Grow H H' := ⟨fun _ Hx => Grow H Hx, g02, fun t4 Hx g => tl t4 Hx g⟩
  refine ⟨_, _, rfl, awake17_ok.mono ?_⟩
  rintro _ _ ⟨rfl, rfl⟩
  refine ⟨_, rfl, cond_neg rfl ?_⟩
  by_cases hk : 1 ≤ kd ∧ kd ≤ 5
  · simp only [if_pos hk]
    refine ⟨_, cell_of c2 rfl, cond_pos (by simpa using hk.1) ⟨_, cell_of c2 rfl, cond_neg (by simp [hk.2]) (cond_neg rfl (cond_pos rfl ⟨_, cell_of c2 rfl, cond_dec (fun h5 => ?_) (fun _ => skip)⟩))⟩⟩
    refine ⟨_, cell_of c2 rfl, cond_dec (fun a1 => ⟨_, cell_of c2 rfl, cond_dec (fun a2 => ⟨_, cell_of c2 rfl, cond_dec (fun a3 => ⟨_, cell_of c2 rfl, cond_dec (fun a4 => ⟨_, cell_of c2 rfl, cond_dec (fun a5 => ⟨_, cell_of c2 rfl, cond_dec (fun a6 => ⟨_, cell_of c2 rfl, cond_dec (fun a7 => ?_) (fun _ => skip)⟩) (fun _ => skip)⟩) (fun _ => skip)⟩) (fun _ => skip)⟩) (fun _ => skip)⟩) (fun _ => skip)⟩) (fun _ => skip)⟩
    refine ⟨_, cell_of c2 rfl, fun _ Hx => Grow H Hx, cond_dec (fun a8 => ?_) (fun _ => g02), fun t4 Hx g => tl t4 Hx g⟩
    refine (deccmd_ok g02.ok (cmdB_short hk.1 h5 hse hsq hjd hwk hli hx)).mono ?_
    rintro _ H4 ⟨kd', se', sq', t', jd', wk', li', f', h', v', a', l', c', vs', e, rfl, _, _, hFw, g4⟩
    obtain ⟨z, k1, k2, k3, k4, k5⟩ := hFw kd se sq x jd wk li f h v vs hk.1 h5 hse (by unfold Cn; omega) (by unfold Cn; omega) (by unfold Cn; omega) (by unfold Cn; omega) (by omega) rfl
    subst z
    subst k1
    refine ⟨_, _, _, _, _, _, _, _, _, _, _, _, _, _, _, _, _, _, _, _, _, _, _, _, _, _, _, _, _, _, rfl, ?_⟩
    intro H5 e5
    obtain ⟨H6, s6, c6, g6, n6⟩ := fresh_store (vs := cmdV kd' se' sq' t' jd' wk' li' f' h' v' a' l' c') e5 rfl rfl g4.ok
    have c2' := (g4.trans g6).get _ _ not_false c2
    have g06 : Grow H H6 := g02.trans (g4.trans g6)
    refine ⟨H6, s6, cond_neg rfl ⟨_, cell_of c6 rfl, _, cell_of c2' rfl, cond_neg (by simp) ⟨_, cell_of c2' rfl, cond_dec (fun hle => ?_) (fun hgt => ?_)⟩⟩⟩
    · obtain ⟨k21, k22⟩ := k2 hle
      refine ⟨_, cell_of c6 rfl, _, cell_of c2' rfl, cond_pos (by simp [k21]) ⟨_, cell_of c6 rfl, _, cell_of c2' rfl, cond_pos (by simp [k22]) ?_⟩⟩
      exact ⟨_, cell_of c2' rfl, cond_intro (fun q1 => ⟨_, cell_of c6 rfl, _, cell_of c2' rfl, cond_neg (by rw [k4 (by simpa using q1)]; simp) ⟨_, cell_of c2' rfl, cond_intro (fun q2 => ⟨_, cell_of c6 rfl, _, cell_of c2' rfl, cond_neg (by rw [k5 (by simpa using q2)]; simp) g06⟩) (fun _ => g06)⟩⟩) (fun _ => ⟨_, cell_of c2' rfl, cond_intro (fun q2 => ⟨_, cell_of c6 rfl, _, cell_of c2' rfl, cond_neg (by rw [k5 (by simpa using q2)]; simp) g06⟩) (fun _ => g06)⟩)⟩
    · obtain ⟨k31, k32⟩ := k3 (by omega)
      refine ⟨_, cell_of c2' rfl, cond_pos (by simp; omega) ⟨_, cell_of c6 rfl, _, cell_of c2' rfl, cond_pos (by simp [k31]) ⟨_, cell_of c6 rfl, _, cell_of c2' rfl, cond_neg (by simp [k32]) ?_⟩⟩⟩
      exact ⟨_, cell_of c2' rfl, cond_intro (fun q1 => ⟨_, cell_of c6 rfl, _, cell_of c2' rfl, cond_neg (by rw [k4 (by simpa using q1)]; simp) ⟨_, cell_of c2' rfl, cond_intro (fun q2 => ⟨_, cell_of c6 rfl, _, cell_of c2' rfl, cond_neg (by rw [k5 (by simpa using q2)]; simp) g06⟩) (fun _ => g06)⟩⟩) (fun _ => ⟨_, cell_of c2' rfl, cond_intro (fun q2 => ⟨_, cell_of c6 rfl, _, cell_of c2' rfl, cond_neg (by rw [k5 (by simpa using q2)]; simp) g06⟩) (fun _ => g06)⟩)⟩
  · simp only [if_neg hk]
    refine ⟨_, cell_of c2 rfl, cond_dec (fun h1 => ⟨_, cell_of c2 rfl, cond_neg (by simp; omega) (cond_pos rfl (cond_neg rfl (cond_neg rfl (cond_neg rfl skip))))⟩) (fun h1 => cond_neg rfl (cond_pos rfl (cond_neg rfl (cond_neg rfl (cond_neg rfl skip)))))⟩
end
end Go.Proofs.Cx

namespace Go.Ev
open Go Go.RowKit
/-- a law on laid arguments that are those of the machine -/
theorem calls_rowV [Sy] {E : Env} {P : Program} (hE : EnvOk E P) (hX : ExtOk E P) (hN : ExtNext E) (hS : SumOk E P) (hg : E.g = 0) {Hh : Type} {enc : TypeId × Value → Hh} {W : World} {ts : List TypeId} {α : Type} {R : AH → List Value → α → Prop}
    (hL : LayAs enc P W ts R) {f : FuncId} {vs : List Value} {ds : List (DataW Hh)} {p : List MemPlace} {base : Nat} (hA : DataW.TrodAll enc P W 0 (fun _ => true) true ts vs ds p)
    (hv : ∀ (j : Nat) t v, ts[j]? = some t → vs[j]? = some v → Value.okWide P W .any base t v) (hw : (DataW.weightsEach P ts ds).all (· ≤ reachBytes) = true)
    (law : ∀ H vs' x, Ok H → R H vs' x → (∃ ρ, VRs ρ vs' vs) → FW E f vs' H fun r _ => r = .bool true) : Calls P f ⟨vs⟩ W fun e W' => e = .returned (.bool true) ∧ Below W.heap.size W W' := by
  obtain ⟨ρ, H, vs', x, hs, _, _, hvr, hR⟩ := hL base vs ds p hA hv hw nowhere AH0 (St.empty W)
  exact calls_laid hE hX hN hS hg hs hvr (law H vs' x hs.rel.fresh hR ⟨ρ, hvr⟩)
theorem VRs.at [Sy] {ρ : Ren} : ∀ {l l' : List Value}, VRs ρ l l' → ∀ {i : Nat} {v : Value}, l[i]? = some v → ∃ v', l'[i]? = some v' ∧ VR ρ v v'
  | _, _, .nil, i, v, h => by simp at h
  | _, _, .cons h1 t, 0, v, h => by simp at h; subst h; exact ⟨_, rfl, h1⟩
  | _, _, .cons _ t, i + 1, v, h => by
    simp only [List.getElem?_cons_succ] at h ⊢
    exact VRs.at t h
/-- how long the list at this place of the first argument is -/
def lenAt (k : Nat) (vs : List Value) : Nat := match vs with
  | .agg cs :: _ => match cs.toList[k]? with
    | some (.slice _ l _) => l
    | _ => 0
  | _ => 0
theorem lenAt_le [Sy] {ρ : Ren} {k : Nat} {cs : List Value} {a : Option Addr} {l c : Nat} {r vs : List Value} (h : VRs ρ (.agg ⟨cs⟩ :: r) vs) (hk : cs[k]? = some (.slice a l c)) : lenAt k vs = l := by
  cases h with
  | cons h1 h2 =>
    cases h1 with
    | agg h3 =>
      obtain ⟨v', e, hv⟩ := h3.at hk
      unfold lenAt
      simp only [e]
      cases hv <;> rfl
section
variable {Hh : Type} {P : Program} {W : World} {enc : TypeId × Value → Hh} {t : TypeId}
theorem trod_fields {ds : List (TypeId × Nat)} (hf : fieldsB P t ds = true) {fuel : Nat} {cs : List Value} {d : DataW Hh} {ps : List MemPlace} (ht : DataW.trod enc P W 0 (fun _ => true) true fuel t cs = some (d, ps)) :
    ∃ fuel' xs, d = .agg (xs.map (·.1)) ∧ ds.mapM (fun f => DataW.trod enc P W 0 (fun _ => true) true fuel' f.1 ((cs.drop f.2).take (P.cellsOf f.1))) = some xs := by
  unfold fieldsB at hf
  split at hf
  case h_2 => cases hf
  rename_i fs hu
  have hf := eq_of_beq hf
  cases fuel with
  | zero => simp [DataW.trod] at ht
  | succ fuel =>
    unfold DataW.trod at ht
    split at ht
    case h_9 =>
      rename_i fs' heq
      rw [hu] at heq
      cases heq
      split at ht
      · rename_i cs _ _ hc
        rw [mapM_fields (fun t o => DataW.trod enc P W 0 (fun _ => true) true fuel t ((cs.drop o).take (P.cellsOf t)))] at ht
        obtain ⟨fs⟩ := fs
        simp only at hf
        rw [hf] at ht
        cases e : ds.mapM (fun f => DataW.trod enc P W 0 (fun _ => true) true fuel f.1 ((cs.drop f.2).take (P.cellsOf f.1))) with
        | none => rw [e] at ht; simp at ht
        | some xs =>
          rw [e] at ht
          simp only [Option.map_some, Option.some.injEq, Prod.mk.injEq] at ht
          obtain ⟨rfl, _⟩ := ht
          exact ⟨fuel, xs, rfl, e⟩
      · cases ht
    all_goals first
      | (cases ht; done)
      | (rename_i heq; rw [hu] at heq; cases heq; done)
theorem trod_slice {e : TypeId} (hu : P.underlying t = some (.slice e)) {fuel : Nat} {a : Option Addr} {l c : Nat} {d : DataW Hh} {ps : List MemPlace} {cs : List Value} (hcs : cs = [.slice a l c]) (h : DataW.trod enc P W 0 (fun _ => true) true fuel t cs = some (d, ps)) :
    l = 0 ∨ ∃ elems spare, d = .slice elems spare ∧ elems.length = l := by
  cases fuel with
  | zero => simp [DataW.trod] at h
  | succ fuel =>
    unfold DataW.trod at h
    split at h
    case h_7 => cases hcs; exact .inl rfl
    case h_8 =>
      rename_i e' a' len cap heq
      rw [hu] at heq
      cases heq
      split at h
      · dsimp only at h
        cases h1 : (List.range len).mapM (fun i => (W.cells? 0 (a'.add (i * P.cellsOf e)) (P.cellsOf e)).bind (DataW.trod enc P W 0 (fun _ => true) true fuel e)) with
        | none => rw [h1] at h; simp at h
        | some elems =>
          rw [h1] at h
          simp only [Option.bind_some, if_true] at h
          cases h2 : (List.range (cap - len)).mapM (fun j => (W.cells? 0 (a'.add ((len + j) * P.cellsOf e)) (P.cellsOf e)).bind (DataW.trod enc P W 0 (fun _ => true) true fuel e)) with
          | none => rw [h2] at h; simp at h
          | some rest =>
            rw [h2] at h
            simp only [Option.map_some, Option.some.injEq, Prod.mk.injEq] at h
            obtain ⟨rfl, _⟩ := h
            obtain ⟨g1, g2⟩ := mapM_range_some h1
            refine .inr ⟨_, _, rfl, ?_⟩
            cases hcs
            rw [List.length_map, g1]
      · cases h
    all_goals first
      | (cases h; done)
      | (rename_i heq; rw [hu] at heq; cases heq; done)
      | (cases hcs; done)
theorem mapM_at {α β : Type} {f : α → Option β} : ∀ {l : List α} {xs : List β}, l.mapM f = some xs → ∀ {i : Nat} (hi : i < l.length), ∃ x, xs[i]? = some x ∧ f l[i] = some x
  | [], _, _, i, hi => by simp at hi
  | a :: l, xs, h, i, hi => by
    rw [List.mapM_cons] at h
    cases e1 : f a with
    | none => rw [e1] at h; simp at h
    | some y =>
      rw [e1] at h
      simp only [Option.bind_eq_bind, Option.bind_some] at h
      cases e2 : l.mapM f with
      | none => rw [e2] at h; simp at h
      | some ys =>
        rw [e2] at h
        simp at h
        subst h
        cases i with
        | zero => exact ⟨y, rfl, e1⟩
        | succ i =>
          obtain ⟨x, h1, h2⟩ := mapM_at e2 (i := i) (by simpa using hi)
          exact ⟨x, by simpa using h1, by simpa using h2⟩
end
end Go.Ev
namespace Go.Proofs.Cx
open Go Go.Ev Go.RowKit
theorem cut26 {cs : List Value} {x : Value} (h : cs[26]? = some x) : (((cs.drop 7).take 20).drop 19).take 1 = [x] := by
  obtain ⟨hi, hx⟩ := List.getElem?_eq_some_iff.1 h
  rw [List.drop_take, List.drop_drop, List.take_take, show min 1 (20 - 19) = 1 from rfl, show 7 + 19 = 26 from rfl, List.drop_eq_getElem_cons hi, List.take_succ_cons, hx]
  rfl
section
variable {Hh : Type} {W : World} {enc : TypeId × Value → Hh}
set_option maxRecDepth 100000 in
/-- how many values a command's report has -/
theorem cmd_len {B : Nat} {vs : List Value} {ds : List (DataW Hh)} {p : List MemPlace} {ts : List TypeId} (hA : DataW.TrodAll enc Tryz.prog W 0 (fun _ => true) true (T_api_Command :: ts) vs ds p)
    (hb : ∀ parts parts7 elems spare r, ds = .agg parts :: r → .agg parts7 ∈ parts → .slice elems spare ∈ parts7 → elems.length ≤ B) : lenAt 26 vs ≤ B := by
  match vs, ds, hA with
  | [], _, h => simp [DataW.TrodAll] at h
  | _ :: _, [], h => simp [DataW.TrodAll] at h
  | v :: vs, d :: ds, h =>
    obtain ⟨p1, p2, ⟨fuel, e1⟩, e2, _⟩ := h
    unfold lenAt
    split
    · rename_i cs r heq
      cases heq
      split
      · rename_i a l c hk
        obtain ⟨cs⟩ := cs
        obtain ⟨f1, xs, rfl, hm⟩ := trod_fields (ds := [(T_int, 0), (T_int64, 1), (T_int, 2), (T_string, 3), (T_int, 4), (T_int, 5), (T_int, 6), (T_api_Report, 7)]) (by kernel_rfl) e1
        obtain ⟨x7, h7, k7⟩ := mapM_at hm (i := 7) (by simp)
        obtain ⟨f2, ys, k8, hm2⟩ := trod_fields (ds := [(T_int, 0), (T_int, 1), (T_int, 2), (T_int, 3), (T_int, 4), (T_api_Errno, 5), (T_int, 6), (T_int, 7), (T_int, 8), (T_api_Aggregate, 9), (T_L_api_Value, 19)]) (by kernel_rfl) k7
        obtain ⟨y, h10, k10⟩ := mapM_at hm2 (i := 10) (by simp)
        have c1 : Tryz.prog.cellsOf T_api_Report = 20 := by kernel_rfl
        have c2 : Tryz.prog.cellsOf T_L_api_Value = 1 := by kernel_rfl
        have e : (((cs.drop 7).take (Tryz.prog.cellsOf T_api_Report)).drop 19).take (Tryz.prog.cellsOf T_L_api_Value) = [.slice a l c] := by
          rw [c1, c2]; exact cut26 hk
        have k10 : DataW.trod enc Tryz.prog W 0 (fun _ => true) true f2 T_L_api_Value ((((cs.drop 7).take (Tryz.prog.cellsOf T_api_Report)).drop 19).take (Tryz.prog.cellsOf T_L_api_Value)) = some (y.1, y.2) := k10
        rcases trod_slice (e := T_api_Value) (by kernel_rfl) e k10 with hz | ⟨elems, spare, hd, hl⟩
        · omega
        · rw [← hl]
          refine hb _ (ys.map (·.1)) elems spare ds rfl ?_ ?_
          · rw [← k8]
            exact List.mem_map_of_mem (List.mem_of_getElem? h7)
          · rw [← hd]
            exact List.mem_map_of_mem (List.mem_of_getElem? h10)
      · exact Nat.zero_le _
    · exact Nat.zero_le _
end
theorem law_bytes_in [Sy] {H : AH} {vs ws : List Value} {c1 c2 : List Value} {x y} (ok : Ok H) (hv : vs = [.agg ⟨c1⟩] ++ c2) (h1 : RCm H c1 x) (h2 : RStr H c2 y) (hr : ∃ ρ, VRs ρ vs ws) (hl : lenAt 26 ws ≤ 4000000) :
    FW Ee F_cohortlaw17_MasterBytes vs H fun r H' => r = .bool true ∧ Grow H H' := by
  subst hv
  obtain ⟨kd, se, sq, s, jd, wk, li, f, hh, v, a, l, c, us, rfl, w1, w2, w3, w4, w5, w6, w7, k1, k2, k3, _, k5, _⟩ := cmd_in ok h1
  obtain ⟨rfl, hs⟩ := h2
  obtain ⟨ρ, hr⟩ := hr
  have e := lenAt_le (k := 26) (cs := cmdV kd se sq s jd wk li f hh v a l c) (r := [.string ⟨⟨y⟩⟩]) hr rfl
  have := k2.len
  exact law_bytes (F := fun b => b < H.next) ok w1 w2 w3 w4 w5 w6 w7 k5 k1 k2 (fun _ h => h) k3 (by omega) hs
end Go.Proofs.Cx
