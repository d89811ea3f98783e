/- Tasks of any bytes: what is taken stands there in its one form (ServeSays). What is said, as bytes: counts, entries of a log, what clients ask. What is said, as bytes: messages and requests. What is said, as bytes: requests are taken; messages between masters. What is said, as bytes: messages between masters, what clients ask and are told, taken of any bytes. -/
import Derived.Test.YtphgkdcifemmmaaGreatC7
import Derived.Test.YtphgkdcifemmmaaGreatC5
import Derived.Test.YtphgkdcifemmmaaGreatC2
import Derived.Test.YtphgkdcifemmmaaGreatVc2
namespace Go.Ev
open Go
theorem tk_many {α : Type} {s : List UInt8} {one : RSt → α × RSt} {B : α → List UInt8} (h1 : ∀ q, AtOk s q → Tk s q (one q).2 (B (one q).1)) : ∀ {n : Nat} {q : RSt}, AtOk s q → Tk s q (rMany one n q).2 ((rMany one n q).1.flatMap B) ∧ ((rMany one n q).2.2 = 0 → (rMany one n q).1.length = n)
  | 0, q, h => ⟨Tk.refl h, fun _ => rfl⟩
  | n + 1, q, h => by
    unfold rMany
    by_cases hq : q.2 ≠ 0
    · rw [if_pos hq]
      exact ⟨Tk.refl h, fun e => absurd e hq⟩
    · rw [if_neg hq]
      have k := h1 q h
      obtain ⟨i1, i2⟩ := tk_many h1 (n := n) k.1
      refine ⟨?_, fun e => ?_⟩
      · rw [List.flatMap_cons]; exact k.trans i1
      · rw [List.length_cons, i2 e]
theorem tk_pair {s : List UInt8} {q : RSt} (h : AtOk s q) : Tk s q (rPair s q).2 (pairB (rPair s q).1) := (tk_sigq h).trans (tk_sigq (tk_sigq h).1)
theorem tk_vtx {s : List UInt8} {q : RSt} (h : AtOk s q) : Tk s q (rVtx s q).2 (vtxB (rVtx s q).1) := by
  have a := tk_sigq h
  have b := tk_sigq a.1
  have n := tk_cntq (m := 2048) b.1
  obtain ⟨e1, e2⟩ := tk_many (one := rPair s) (B := pairB) (fun q hq => tk_pair hq) (n := (rCnt s 2048 (rSig s (rSig s q).2).2).1) n.1
  have T := a.trans (b.trans (n.trans e1))
  refine ⟨T.1, fun e => ?_⟩
  have hl := e2 e
  have := T.2 e
  have E : vtxB (rVtx s q).1 = sgB (rSig s q).1 ++ (sgB (rSig s (rSig s q).2).1 ++ (enc (rCnt s 2048 (rSig s (rSig s q).2).2).1 ++ (rMany (rPair s) (rCnt s 2048 (rSig s (rSig s q).2).2).1 (rCnt s 2048 (rSig s (rSig s q).2).2).2).1.flatMap pairB)) := by
    unfold vtxB rVtx
    simp only [List.append_assoc]
    rw [hl]
  rw [E]
  exact this
theorem tk_graph {s : List UInt8} {q : RSt} (h : AtOk s q) : Tk s q (rGraph s q).2 (graphB (rGraph s q).1) ∧ ((rGraph s q).2.2 = 0 → chk (rGraph s q).1 = 0) := by
  have n := tk_cntq (m := 256) h
  obtain ⟨e1, e2⟩ := tk_many (one := rVtx s) (B := vtxB) (fun q hq => tk_vtx hq) (n := (rCnt s 256 q).1) n.1
  have T := n.trans e1
  unfold rGraph
  simp only
  by_cases hz : (rMany (rVtx s) (rCnt s 256 q).1 (rCnt s 256 q).2).2.2 = 0
  · rw [if_pos hz]
    refine ⟨⟨T.1, fun e => ?_⟩, fun e => e⟩
    have := T.2 hz
    unfold graphB
    rw [e2 hz]
    exact this
  · rw [if_neg hz]
    exact ⟨T.vac hz, fun e => absurd e hz⟩
theorem tk_jobq {s : List UInt8} {q : RSt} (h : AtOk s q) : Tk s q (rJob s q).2 (jobB (rJob s q).1) ∧ ((rJob s q).2.2 = 0 → jchk (rJob s q).1 = 0) := by
  have t := tk_txtq h
  obtain ⟨g, _⟩ := tk_graph t.1
  have n := tk_cntq (m := 4) g.1
  obtain ⟨e1, e2⟩ := tk_many (one := rSig s) (B := sgB) (fun q hq => tk_sigq hq) (n := (rCnt s 4 (rGraph s (rTxt s q).2).2).1) n.1
  have a := tk_cntq (m := 1000) e1.1
  have b := tk_cntq (m := 65536) a.1
  have c := tk_cntq (m := 16) b.1
  have T := t.trans (g.trans (n.trans (e1.trans (a.trans (b.trans c)))))
  unfold rJob
  simp only
  split
  · rename_i hz
    refine ⟨⟨T.1, fun e => ?_⟩, fun e => e⟩
    have := T.2 hz
    have hps := e2 (a.2 ((b.2 ((c.2 hz).1)).1)).1
    have E : ∀ (t : List UInt8) (G : List Vtx) (ps : List Int) (n a b c : Nat), ps.length = n → jobB ⟨t, G, ps, a, b, c⟩ = txtB t ++ (graphB G ++ (enc n ++ (ps.flatMap sgB ++ (enc a ++ (enc b ++ enc c))))) := by
      intro t G ps n a b c h
      unfold jobB
      simp only [List.append_assoc, Int.toNat_natCast, h]
    rw [E _ _ _ _ _ _ _ hps]
    exact this
  · rename_i hz
    exact ⟨T.vac hz, fun e => absurd e hz⟩
end Go.Ev
namespace Go.Proofs.Cx
open Go Go.Ev
section
variable {H : AH} {b : Nat} {s : List UInt8} {q : RSt}
theorem natsU_congr {L L' : Nat → List Int} : ∀ {i : Nat}, (∀ k, k < i → L k = L' k) → natsU L i = natsU L' i
  | 0, _ => rfl
  | i + 1, h => by rw [natsU_succ, natsU_succ, natsU_congr fun k hk => h k (by omega), h i (by omega)]
theorem tR_upd {f : Nat → Int} {i : Nat} {x : Int} {s2 : Nat → Sl3} : tR (upd f i x) i s2 = tR f i s2 := by
  unfold tR
  rw [upTo_upd]
set_option maxHeartbeats 2000000 in
theorem xtask_ok (ok : Ok H) (hr : Rd H b s q.1 q.2) (hp : AtOk s q) (hs : s.length ≤ 4611686018427387904) :
    FW Ee F_master_TakeTask [.pointer (some ⟨b, 0, none⟩)] H fun r H' => ∃ (x : TaskW) (s2 : Nat → Sl3) (a : Option Addr) (l c : Nat) (pa : Option Addr) (pl pc : Nat) (q' : RSt), r = .agg ⟨tskC x.f s2 x.j a l c pa pl pc x.h x.v x.k⟩ ∧ (∀ i, NatI (x.f i)) ∧ (∀ i, I64 (x.v i)) ∧ (∀ i, i < 2 → (x.L i).length ≤ 16 ∧ ∀ e ∈ x.L i, NatI e) ∧ (∀ i, i < 2 → SlI (fun y => H.next ≤ y ∧ y < H'.next) H' (s2 i).1 (s2 i).2.1 (x.L i)) ∧
      SlV (fun y => H.next ≤ y ∧ y < H'.next) H' a l x.j.graph ∧ SlI (fun y => H.next ≤ y ∧ y < H'.next) H' pa pl x.j.params ∧ JobI x.j ∧ x.j.prog.length ≤ s.length ∧ (q'.2 = 0 → jchk x.j = 0) ∧ Rd H' b s q'.1 q'.2 ∧ Tk s q q' (taskB x) ∧ Mod (· = b) H H' := by
  have hbl := ok.lt hr
  refine fw_master_TakeTask ?_
  intro H1 e1 H2 e2 H3 e3
  obtain ⟨g1, z1, n1⟩ := new_job ok e1
  obtain ⟨g2, x2, n2⟩ := new_job g1.ok e2
  obtain ⟨g3, q3, n3⟩ := new_job g2.ok e3
  have g03 := (g1.trans g2).trans g3
  have z3 := g3.get _ _ not_false (g2.get _ _ not_false z1)
  have x3 : H3.get H1.next = some (.cells (tR (fun _ => 0) 0 fun _ => nil3) 0) := by
    have e : (tR (fun _ => 0) 0 fun _ => nil3) = [.int .i64 0, .int .i64 0, .int .i64 0, .int .i64 0, .slice none 0 0, .slice none 0 0, .string ⟨⟨[]⟩⟩, .slice none 0 0, .slice none 0 0, .int .i64 0, .int .i64 0, .int .i64 0, .bool false, .bool false, .bool false, .bool false, .bool false, .int .i64 0, .int .i64 0, .int .i64 0, .int .i64 0, .int .i64 0, .int .i64 0, .int .i64 0, .int .i64 0, .bool false] := by simp [tR, tskC, upTo, sv, nil3, zjw]
    rw [e]
    exact g3.get _ _ not_false x2
  obtain ⟨zc, hzc⟩ : ∃ zc : List Value, zc = [.int .i64 0, .int .i64 0, .int .i64 0, .int .i64 0, .slice none 0 0, .slice none 0 0, .string ⟨⟨[]⟩⟩, .slice none 0 0, .slice none 0 0, .int .i64 0, .int .i64 0, .int .i64 0, .bool false, .bool false, .bool false, .bool false, .bool false, .int .i64 0, .int .i64 0, .int .i64 0, .int .i64 0, .int .i64 0, .int .i64 0, .int .i64 0, .int .i64 0, .bool false] := ⟨_, rfl⟩
  have hzl : zc.length = 26 := by rw [hzc]; rfl
  rw [← hzc] at z3
  clear hzc
  refine ⟨fun m t18 Hb => ∃ (i : Nat) (f : Nat → Int) (q' : RSt), t18 = i ∧ i ≤ 7 ∧ m = 7 - i ∧ (∀ k, NatI (f k)) ∧ Rd Hb b s q'.1 q'.2 ∧ Tk s q q' (cntL (fun k => (f k).toNat) i 0) ∧ Hb.get H1.next = some (.cells (tR f i fun _ => nil3) 0) ∧
      Hb.get H2.next = some (.cells [.pointer (some ⟨H1.next, 0, none⟩), .pointer (some ⟨H1.next, 1, none⟩), .pointer (some ⟨H1.next, 2, none⟩), .pointer (some ⟨H1.next, 3, none⟩), .pointer (some ⟨H1.next, 22, none⟩), .pointer (some ⟨H1.next, 23, none⟩), .pointer (some ⟨H1.next, 24, none⟩)] 0) ∧ Hb.get H.next = some (.cells zc 0) ∧ Mod (· = b) H Hb ∧ H3.next ≤ Hb.next,
    ⟨_, 0, fun _ => 0, q, rfl, by omega, rfl, fun _ => ⟨Int.le_refl _, show (0 : Int) ≤ 2147483647 by decide⟩, hr.mod g03 not_false, .refl hp, x3, q3, z3, g03.le (fun _ h _ => h.elim) ok, Nat.le_refl _⟩, ?_⟩
  rintro m t18 H4 ⟨i, f, q', rfl, hi, rfl, hf, r4, t4, x4, q4, z4, m4, n4⟩
  refine cond_dec (fun hlt => ?_) (fun hge => ?_)
  · have hi7 : i < 7 := by omega
    refine ⟨by omega, by omega, _, tptr_cell hi7 q4, (xcnt_ok (q := q') 2147483647 (by omega) m4.ok r4 t4.1 hs).mono ?_⟩
    rintro _ H5 ⟨rfl, r5, m5⟩
    have hk := (rCnt_ok (m := 2147483647) t4.1).2
    have t5 := tk_cntq (m := 2147483647) t4.1
    obtain ⟨x, hx⟩ : ∃ x, x = (rCnt s 2147483647 q').1 := ⟨_, rfl⟩
    rw [← hx] at hk t5 ⊢
    have n5 := m5.next
    have x5 := m5.get _ _ (show ¬ H1.next = b by omega) x4
    have q5 := m5.get _ _ (show ¬ H2.next = b by omega) q4
    have z5 := m5.get _ _ (show ¬ H.next = b by omega) z4
    rw [← tR_upd (x := (x : Int))] at x5
    obtain ⟨k0, H6, k1, k2, k4, k5⟩ := task_store m5.ok hi7 x5
    rw [upd_same] at k1
    refine ⟨_, rfl, grd_intro k0 (grd_intro k0 ⟨H6, k1, ?_⟩)⟩
    intro t26 e26
    rw [wrap_i64 (by omega) (by omega)] at e26
    subst e26
    refine ⟨7 - (i + 1), by omega, i + 1, upd f i (x : Int), (rCnt s 2147483647 q').2, by simp, by omega, rfl, fun k => ?_, r5.mod k4 (by omega), ?_, k2, k4.get _ _ (by omega) q5, k4.get _ _ (by omega) z5, (m4.trans m5).ext k4 ok fun x hx => .inr (by omega), by omega⟩
    · by_cases e : k = i
      · subst e; rw [upd_same]; unfold NatI; omega
      · rw [upd_ne e]; exact hf k
    · rw [cntL_snoc, Nat.zero_add, upd_same, Int.toNat_natCast, cntL_congr (g := fun k => (f k).toNat) fun k _ hk => by rw [upd_ne (by omega)]]
      exact t4.trans t5
  · have hi7 : i = 7 := by omega
    subst hi7
    intro H7 e7
    obtain ⟨g7, q7, n7⟩ := new_job m4.ok e7
    have x7 := g7.get _ _ not_false x4
    have z7 := g7.get _ _ not_false z4
    have r7 : Rd H7 b s q'.1 q'.2 := r4.mod g7 not_false
    have m7 := m4.add g7
    refine ⟨fun m t31 Hb => ∃ (i : Nat) (L : Nat → List Int) (s2 : Nat → Sl3) (q2 : RSt), t31 = i ∧ i ≤ 2 ∧ m = 2 - i ∧ (∀ k, (L k).length ≤ 16 ∧ ∀ e ∈ L k, NatI e) ∧ Rd Hb b s q2.1 q2.2 ∧ Tk s q q2 (cntL (fun k => (f k).toNat) 7 0 ++ natsU L i) ∧ Hb.get H1.next = some (.cells (tR f 7 s2) 0) ∧ (∀ k, k < 2 → SlI (fun y => H7.next ≤ y ∧ y < Hb.next) Hb (s2 k).1 (s2 k).2.1 (L k)) ∧ (∀ k, i ≤ k → s2 k = nil3 ∧ L k = []) ∧
        Hb.get H4.next = some (.cells [.pointer (some ⟨H1.next, 4, none⟩), .pointer (some ⟨H1.next, 5, none⟩)] 0) ∧ Hb.get H.next = some (.cells zc 0) ∧ Mod (· = b) H Hb ∧ H7.next ≤ Hb.next,
      ⟨_, 0, fun _ => [], fun _ => nil3, q', rfl, by omega, rfl, fun _ => ⟨by simp, fun _ h => (by cases h)⟩, r7, by simpa [natsU] using t4, x7, fun k hk => ⟨rfl, fun h => absurd h (Nat.lt_irrefl 0), fun i hi => absurd hi (Nat.not_lt_zero i)⟩, fun _ _ => ⟨rfl, rfl⟩, q7, z7, m7, Nat.le_refl _⟩, ?_⟩
    rintro m t31 H8 ⟨i, L, s2, q8', rfl, hi, rfl, hL, r8, t8, x8, S8, hnil, q8, z8, m8, n8⟩
    refine cond_dec (fun hlt => ?_) (fun hge => ?_)
    · have hi2 : i < 2 := by omega
      refine ⟨by omega, by omega, some ⟨H1.next, 4 + i, none⟩, ?_, (xcnt_ok (q := q8') 16 (by omega) m8.ok r8 t8.1 hs).mono ?_⟩
      · refine cell_of q8 ?_
        rcases two hi2 with rfl | rfl <;> rfl
      rintro _ H9 ⟨rfl, r9, m9⟩
      have hk9 := (rCnt_ok (m := 16) t8.1).2
      have t9 := tk_cntq (m := 16) t8.1
      obtain ⟨n, hn⟩ : ∃ n, n = (rCnt s 16 q8').1 := ⟨_, rfl⟩
      rw [← hn] at hk9 t9 ⊢
      have n9 := m9.next
      have x9 := m9.get _ _ (show ¬ H1.next = b by omega) x8
      have q9 := m9.get _ _ (show ¬ H4.next = b by omega) q8
      have z9 := m9.get _ _ (show ¬ H.next = b by omega) z8
      have S9 : ∀ k, k < 2 → SlI (fun y => H7.next ≤ y ∧ y < H8.next) H9 (s2 k).1 (s2 k).2.1 (L k) := fun k hk => (S8 k hk).mod loc_int m9 fun y hy e => by omega
      obtain ⟨hsi, hLi⟩ := hnil i (Nat.le_refl _)
      -- behind a list
      have nxt : ∀ {Hb : AH} {js : List Int} {q3 : RSt} {a : Option Addr} {l c : Nat}, js.length ≤ n → (q3.2 = 0 → js.length = n) → (∀ e ∈ js, NatI e) → Rd Hb b s q3.1 q3.2 → Tk s q q3 (cntL (fun k => (f k).toNat) 7 0 ++ natsU L i ++ (enc n ++ js.flatMap fun y => enc y.toNat)) → Hb.get H1.next = some (.cells (tR f 7 (upd s2 i (a, l, c))) 0) → Own Hb 1 a l c (js.flatMap intC) → (∀ y, a = some y → H8.next ≤ y.block) → (∀ k, k < 2 → SlI (fun y => H7.next ≤ y ∧ y < H8.next) Hb (s2 k).1 (s2 k).2.1 (L k)) →
          Hb.get H4.next = some (.cells [.pointer (some ⟨H1.next, 4, none⟩), .pointer (some ⟨H1.next, 5, none⟩)] 0) → Hb.get H.next = some (.cells zc 0) → Mod (· = b) H Hb → H9.next ≤ Hb.next →
          ∃ (i' : Nat) (L' : Nat → List Int) (s2' : Nat → Sl3) (q2 : RSt), (((i + 1 : Nat) : Int)) = i' ∧ i' ≤ 2 ∧ 2 - (i + 1) = 2 - i' ∧ (∀ k, (L' k).length ≤ 16 ∧ ∀ e ∈ L' k, NatI e) ∧ Rd Hb b s q2.1 q2.2 ∧ Tk s q q2 (cntL (fun k => (f k).toNat) 7 0 ++ natsU L' i') ∧ Hb.get H1.next = some (.cells (tR f 7 s2') 0) ∧ (∀ k, k < 2 → SlI (fun y => H7.next ≤ y ∧ y < Hb.next) Hb (s2' k).1 (s2' k).2.1 (L' k)) ∧ (∀ k, i' ≤ k → s2' k = nil3 ∧ L' k = []) ∧
          Hb.get H4.next = some (.cells [.pointer (some ⟨H1.next, 4, none⟩), .pointer (some ⟨H1.next, 5, none⟩)] 0) ∧ Hb.get H.next = some (.cells zc 0) ∧ Mod (· = b) H Hb ∧ H7.next ≤ Hb.next := by
        intro Hb js q3 a l c hjn hjq hjs hrb htk hxb hO hfar hSb hqb hzb hmb hnb
        refine ⟨i + 1, upd L i js, upd s2 i (a, l, c), q3, rfl, by omega, rfl, fun k => ?_, hrb, ?_, hxb, fun k hk => ?_, fun k hk => ?_, hqb, hzb, hmb, by omega⟩
        · by_cases e : k = i
          · subst e; rw [upd_same]; exact ⟨by omega, hjs⟩
          · rw [upd_ne e]; exact hL k
        · refine ⟨htk.1, fun e0 => ?_⟩
          have := htk.2 e0
          have hU : natsU (upd L i js) i = natsU L i := natsU_congr fun k hk => upd_ne (by omega)
          rw [natsU_succ, hU, upd_same, natsB, hjq e0, ← List.append_assoc]
          exact this
        · by_cases e : k = i
          · subst e
            rw [upd_same, upd_same]
            exact own_sli hO fun y ey => ⟨by have := hfar y ey; omega, own_lt hO hmb.ok ey⟩
          · rw [upd_ne e, upd_ne e]
            exact (hSb k hk).weak (fun y hy _ => ⟨hy.1, by omega⟩) (int_lt hmb.ok)
        · rw [upd_ne (by omega), upd_ne (by omega)]; exact hnil k (by omega)
      refine ⟨_, rfl, ?_⟩
      refine ⟨fun m n8 Hb => ∃ (js : List Int) (q3 : RSt) (a : Option Addr) (l c : Nat), n8 = ((n - js.length : Nat) : Int) ∧ js.length ≤ n ∧ m = n - js.length ∧ (∀ e ∈ js, NatI e) ∧ Rd Hb b s q3.1 q3.2 ∧ Tk s q q3 (cntL (fun k => (f k).toNat) 7 0 ++ natsU L i ++ (enc n ++ js.flatMap fun y => enc y.toNat)) ∧
          Hb.get H1.next = some (.cells (tR f 7 (upd s2 i (a, l, c))) 0) ∧ Own Hb 1 a l c (js.flatMap intC) ∧ (∀ y, a = some y → H8.next ≤ y.block) ∧ (∀ k, k < 2 → SlI (fun y => H7.next ≤ y ∧ y < H8.next) Hb (s2 k).1 (s2 k).2.1 (L k)) ∧
          Hb.get H4.next = some (.cells [.pointer (some ⟨H1.next, 4, none⟩), .pointer (some ⟨H1.next, 5, none⟩)] 0) ∧ Hb.get H.next = some (.cells zc 0) ∧ Mod (· = b) H Hb ∧ H9.next ≤ Hb.next,
        ⟨_, [], (rCnt s 16 q8').2, none, 0, 0, by simp, by simp, rfl, fun _ h => (by cases h), r9, by simpa using t8.trans t9, ?_, Own.nil _ _, fun y e => (by cases e), S9, q9, z9, m8.trans m9, Nat.le_refl _⟩, ?_⟩
      · have : upd s2 i (none, 0, 0) = s2 := upd_self hsi
        rw [this]; exact x9
      rintro m n8' H10 ⟨js, q3, a, l, c, rfl, hj, rfl, hjs, r10, t10, x10, hO, hfar, S10, q10, z10, m10, n10⟩
      have hll : l = js.length := own_sli_len hO
      refine cond_dec (fun hpos => ?_) (fun hz => ?_)
      · have hjl : js.length < n := by omega
        refine (rerr_ok r10).mono ?_
        rintro _ _ ⟨rfl, rfl⟩
        refine ⟨_, rfl, cond_intro (fun he => ?_) (fun he => ?_)⟩
        · refine grd_intro rfl (grd_intro rfl ?_)
          have hcell : (tR f 7 (upd s2 i (a, l, c)))[4 + i]? = some (.slice a l c) := by rw [tR_get hi2, upd_same]; rfl
          refine ⟨a, l, c, cell_of x10 hcell, (xcnt_ok (q := q3) 2147483647 (by omega) m10.ok r10 t10.1 hs).mono ?_⟩
          rintro _ H12 ⟨rfl, r12, m12⟩
          have hk12 := (rCnt_ok (m := 2147483647) t10.1).2
          have t12 := tk_cntq (m := 2147483647) t10.1
          have n12 := m12.next
          obtain ⟨y0, hy0⟩ : ∃ y, y = (rCnt s 2147483647 q3).1 := ⟨_, rfl⟩
          rw [← hy0] at hk12 t12 ⊢
          refine ⟨_, rfl, ?_⟩
          intro H13 e13
          have g13 : Grow H12 H13 := e13 ▸ Grow.new m12.ok _
          have n13 : H13.next = H12.next + 1 := by rw [e13]; rfl
          obtain ⟨H14, k1, k2, k3, k4⟩ := ((hO.mod m12 fun x hx y ey e => by have := hfar y ey; omega).mod g13 fun _ h => h.elim).append (n := 1) (bytes := 8) (new := [.int .i64 (y0 : Int)]) (x := .slice (some ⟨H12.next, 0, none⟩) 1 2) g13.ok rfl (takev_new e13 rfl) (by omega) rfl rfl (by omega) (by omega)
          have lowS : ∀ {y : Nat}, y < H8.next → ¬ (¬ Off a y) := fun hx h => h fun z ez e => by have := hfar z ez; omega
          have x13 := g13.get _ _ not_false (m12.get _ _ (show ¬ H1.next = b by omega) x10)
          have x14 := k4.get _ _ (lowS (by omega)) x13
          have st := store_of (o := 4 + i) (vs := [sv (some ⟨H13.next, 0, none⟩, l + 1, 2 * (l + 1) + 1)]) x14 (by rw [tR_len]; simp; omega) rfl
          rw [tR_set hi2, upd_upd] at st
          have mS := Mod.set k4.ok x14 (.cells (tR f 7 (upd s2 i (some ⟨H13.next, 0, none⟩, l + 1, 2 * (l + 1) + 1))) 0)
          refine ⟨_, _, _, H14, k1, grd_intro rfl (grd_intro rfl ⟨_, st, grd_intro rfl ⟨cell_of x13 hcell, ?_⟩⟩)⟩
          have m1213 := m12.add g13
          have q14 := k4.get _ _ (lowS (by omega)) (m1213.get _ _ (show ¬ H4.next = b by omega) q10)
          have z14 := k4.get _ _ (lowS (by omega)) (m1213.get _ _ (show ¬ H.next = b by omega) z10)
          have r14 := k4.get _ _ (lowS (show b < H8.next by omega)) (g13.get _ _ not_false r12)
          intro t45 e45
          rw [wrap_i64 (by omega) (by omega)] at e45
          subst e45
          refine ⟨n - (js.length + 1), by omega, js ++ [(y0 : Int)], (rCnt s 2147483647 q3).2, _, _, _, by simp; omega, by simp; omega, by simp, fun e he => ?_, mS.get _ _ (by omega) r14, ?_, get_set_self _ _ _, ?_, ?_, ?_, mS.get _ _ (by omega) q14, mS.get _ _ (by omega) z14, ?_, ?_⟩
          · rcases List.mem_append.1 he with h | h
            · exact hjs e h
            · simp only [List.mem_singleton] at h
              subst h
              unfold NatI; omega
          · have := t10.trans t12
            rw [List.flatMap_append]
            simpa [List.append_assoc] using this
          · rw [List.flatMap_append]
            refine Own.mod (S := (· = H1.next)) ?_ mS fun y hy z ez e => ?_
            · simpa [intC] using k2
            · cases ez; simp only at e; omega
          · intro y ey
            cases ey; simp only; omega
          · intro k hk
            exact (((S10 k hk).mod loc_int m1213 fun y hy e => by omega).mod loc_int k4 fun y hy h => lowS (by omega) h).mod loc_int mS fun y hy e => by omega
          · refine ((m10.trans m1213).ext k4 ok fun y hy => .inr ?_).ext mS ok fun y hy => .inr (by omega)
            obtain ⟨z, ez, rfl⟩ := off_not hy
            have := hfar z ez
            omega
          · show H9.next ≤ H14.next
            omega
        · have he : q3.2 ≠ 0 := by simpa using he
          intro t55 e55
          rw [wrap_i64 (by omega) (by omega)] at e55
          subst e55
          refine ⟨2 - (i + 1), by omega, ?_⟩
          have := nxt hj (fun e => absurd e he) hjs r10 t10 x10 hO hfar S10 q10 z10 m10 n10
          simpa using this
      · have hjl : js.length = n := by omega
        intro t55 e55
        rw [wrap_i64 (by omega) (by omega)] at e55
        subst e55
        refine ⟨2 - (i + 1), by omega, ?_⟩
        have := nxt hj (fun _ => hjl) hjs r10 t10 x10 hO hfar S10 q10 z10 m10 n10
        simpa using this
    · have hi2 : i = 2 := by omega
      subst hi2
      refine (xbool_ok (q := q8') m8.ok r8 t8.1 hs).mono ?_
      rintro _ H16 ⟨xk, q16, rfl, r16, t16, m16⟩
      have n16 := m16.next
      refine ⟨_, rfl, (xagg_ok (q := q16) m16.ok r16 t16.1 hs).mono ?_⟩
      rintro _ H17 ⟨xh, xv, q17, rfl, hv, _, r17, t17, m17⟩
      have n17 := m17.next
      have m817 := m16.trans m17
      have x17 := m817.get _ _ (show ¬ H1.next = b by omega) x8
      have z17 := m817.get _ _ (show ¬ H.next = b by omega) z8
      -- what was read is put
      have st18 := store_of (o := 25) (vs := [.bool xk]) x17 (by rw [tR_len]; simp) rfl
      have ms18 := Mod.set m17.ok x17 (.cells (lset (tR f 7 s2) 25 [.bool xk]) 0)
      obtain ⟨H18, h18⟩ : ∃ y, y = H17.set H1.next (.cells (lset (tR f 7 s2) 25 [.bool xk]) 0) := ⟨_, rfl⟩
      have x18 : H18.get H1.next = some (.cells (tskC f s2 zjw none 0 0 none 0 0 (fun _ => false) (fun _ => 0) xk) 0) := by
        rw [h18, get_set_self]; rfl
      have n18 : H18.next = H17.next := by rw [h18]; rfl
      rw [← h18] at st18 ms18
      clear h18
      have st19 := store_of (o := 12) (vs := aC xh xv) x18 (by simp [tskC, aC]) rfl
      have ms19 := Mod.set ms18.ok x18 (.cells (lset (tskC f s2 zjw none 0 0 none 0 0 (fun _ => false) (fun _ => 0) xk) 12 (aC xh xv)) 0)
      obtain ⟨H19, h19⟩ : ∃ y, y = H18.set H1.next (.cells (lset (tskC f s2 zjw none 0 0 none 0 0 (fun _ => false) (fun _ => 0) xk) 12 (aC xh xv)) 0) := ⟨_, rfl⟩
      have x19 : H19.get H1.next = some (.cells (tskC f s2 zjw none 0 0 none 0 0 xh xv xk) 0) := by
        rw [h19, get_set_self]; rfl
      have n19 : H19.next = H18.next := by rw [h19]; rfl
      rw [← h19] at st19 ms19
      clear h19
      have m1719 := ms18.trans ms19
      have r19 : Rd H19 b s q17.1 q17.2 := r17.mod m1719 (by omega)
      have z19 := m1719.get _ _ (show ¬ H.next = H1.next by omega) z17
      obtain ⟨tj, hj⟩ := tk_jobq t17.1
      have pj := rJob_ok t17.1
      refine ⟨_, _, _, _, _, _, _, _, _, _, rfl, H18, st18, H19, st19, (xjob_ok (q := q17) ms19.ok r19 t17.1 hs).mono ?_⟩
      rintro _ H20 ⟨a, l, c, pa, pl, pc, rfl, G20, P20, r20, m20⟩
      obtain ⟨J, hJ⟩ : ∃ J, J = (rJob s q17).1 := ⟨_, rfl⟩
      obtain ⟨qj, hqj⟩ : ∃ qj, qj = (rJob s q17).2 := ⟨_, rfl⟩
      rw [← hJ, ← hqj] at tj hj pj
      rw [← hJ] at G20 P20 ⊢
      rw [← hqj] at r20
      have n20 := m20.next
      have x20 := m20.get _ _ (show ¬ H1.next = b by omega) x19
      have z20 := m20.get _ _ (show ¬ H.next = b by omega) z19
      have st21 := store_of (o := 6) (vs := jC J a l c pa pl pc) x20 (by simp [tskC, jC]) rfl
      have ms21 := Mod.set m20.ok x20 (.cells (lset (tskC f s2 zjw none 0 0 none 0 0 xh xv xk) 6 (jC J a l c pa pl pc)) 0)
      obtain ⟨H21, h21⟩ : ∃ y, y = H20.set H1.next (.cells (lset (tskC f s2 zjw none 0 0 none 0 0 xh xv xk) 6 (jC J a l c pa pl pc)) 0) := ⟨_, rfl⟩
      have x21 : H21.get H1.next = some (.cells (tskC f s2 J a l c pa pl pc xh xv xk) 0) := by
        rw [h21, get_set_self]; rfl
      have n21 : H21.next = H20.next := by rw [h21]; rfl
      rw [← h21] at st21 ms21
      clear h21
      have z21 := ms21.get _ _ (show ¬ H.next = H1.next by omega) z20
      refine ⟨_, _, _, _, _, _, _, _, _, _, rfl, H21, st21, ?_⟩
      refine ret_task (Q := fun r H' => ∃ (x : TaskW) (s2 : Nat → Sl3) (a : Option Addr) (l c : Nat) (pa : Option Addr) (pl pc : Nat) (q' : RSt), r = .agg ⟨tskC x.f s2 x.j a l c pa pl pc x.h x.v x.k⟩ ∧ (∀ i, NatI (x.f i)) ∧ (∀ i, I64 (x.v i)) ∧ (∀ i, i < 2 → (x.L i).length ≤ 16 ∧ ∀ e ∈ x.L i, NatI e) ∧ (∀ i, i < 2 → SlI (fun y => H.next ≤ y ∧ y < H'.next) H' (s2 i).1 (s2 i).2.1 (x.L i)) ∧
        SlV (fun y => H.next ≤ y ∧ y < H'.next) H' a l x.j.graph ∧ SlI (fun y => H.next ≤ y ∧ y < H'.next) H' pa pl x.j.params ∧ JobI x.j ∧ x.j.prog.length ≤ s.length ∧ (q'.2 = 0 → jchk x.j = 0) ∧ Rd H' b s q'.1 q'.2 ∧ Tk s q q' (taskB x) ∧ Mod (· = b) H H') ms21.ok x21 z21 hzl fun Hx mx => ⟨⟨f, L, xh, xv, J, xk⟩, s2, a, l, c, pa, pl, pc, qj, rfl, hf, hv, fun i _ => hL i, ?_, ?_, ?_, pj.2.1, pj.2.2, hj, ?_, ?_, ?_⟩
      · intro i hi
        have nx := mx.next
        have := S8 i hi
        exact (((((this.mod loc_int m817 fun y hy e => by omega).mod loc_int m1719 fun y hy e => by omega).mod loc_int m20 fun y hy e => by omega).mod loc_int ms21 fun y hy e => by omega).mod loc_int mx fun y hy e => by omega).weak (fun y hy _ => ⟨by omega, by omega⟩) (int_lt mx.ok)
      · have nx := mx.next
        exact slv_weak mx.ok ((G20.mod loc_vtx ms21 fun y hy e => by omega).mod loc_vtx mx fun y hy e => by omega) fun y hy _ => ⟨by omega, by omega⟩
      · have nx := mx.next
        exact ((P20.mod loc_int ms21 fun y hy e => by omega).mod loc_int mx fun y hy e => by omega).weak (fun y hy _ => ⟨by omega, by omega⟩) (int_lt mx.ok)
      · exact Rd.mod (Rd.mod r20 ms21 (by omega)) mx (by omega)
      · have T := t8.trans (t16.trans (t17.trans tj))
        have hU : natsU L 2 = natsB (L 0) ++ natsB (L 1) := by
          rw [natsU_succ, natsU_succ]; simp [natsU]
        rw [hU] at T
        unfold taskB
        simpa only [List.append_assoc] using T
      · exact ((((m8.trans m817).ext m1719 ok fun y hy => .inr (by omega)).trans m20).ext ms21 ok fun y hy => .inr (by omega)).ext mx ok fun y hy => .inr (by omega)
end
end Go.Proofs.Cx
namespace Go.Ev
open Go
def cntsB (xs : List Int) : List UInt8 := xs.flatMap fun x => enc x.toNat
theorem tflat {α : Type} (B : α → List UInt8) {xs : List α} {i : Nat} (h : i < xs.length) : (xs.take (i + 1)).flatMap B = (xs.take i).flatMap B ++ B xs[i] := by
  rw [List.take_succ_eq_append_getElem h, List.flatMap_append]; simp
theorem encI_len {x : Int} (h : I64 x) : (enc x.toNat).length ≤ 10 := enc_len64 (by unfold I64 at h; omega)
theorem Cn.i64 {x : Int} (h : Cn x) : I64 x := by unfold Cn at h; unfold I64; omega
theorem flat_len {α : Type} {B : α → List UInt8} {m : Nat} : ∀ {xs : List α}, (∀ x ∈ xs, (B x).length ≤ m) → (xs.flatMap B).length ≤ xs.length * m
  | [], _ => by simp
  | x :: xs, h => by
    have h1 := flat_len (B := B) (xs := xs) fun y hy => h y (List.mem_cons_of_mem _ hy)
    have h2 := h x List.mem_cons_self
    rw [List.flatMap_cons, List.length_append, List.length_cons, Nat.succ_mul]; omega
theorem cntsB_len {xs : List Int} (h : ∀ x ∈ xs, I64 x) : (cntsB xs).length ≤ xs.length * 10 := flat_len fun x hx => encI_len (h x hx)
def entB (e : Int × List UInt8) : List UInt8 := enc e.1.toNat ++ txtB e.2
def askB (kd se sq : Int) (s : List UInt8) (id : Int) : List UInt8 := enc kd.toNat ++ sgB se ++ cntsB [sq, id] ++ txtB s
theorem txtB_len' {s : List UInt8} (h : s.length ≤ 140737488355328) : (txtB s).length ≤ s.length + 10 := by
  have := enc_len64 (show s.length < 18446744073709551616 by omega)
  unfold txtB; rw [List.length_append]; omega
end Go.Ev
namespace Go.Proofs.Cx
open Go Go.Ev
theorem fill_ok {H : AH} {b : Nat} {zs vs : List Value} (p : H.get b = some (.cells zs 0)) (hl : vs.length = zs.length) (hv : vs.all oneCell = true) (ok : Ok H) :
    ∃ H2, storeCellsv H b 0 vs = some H2 ∧ H2.get b = some (.cells vs 0) ∧ Mod (· = b) H H2 ∧ H2.next = H.next := by
  refine ⟨_, store_of p (by omega) hv, ?_, Mod.set ok p _, rfl⟩
  rw [get_set_self]; simp [lset, hl]
section
variable {H : AH} {b : Nat} {bs s : List UInt8} {q : RSt}
theorem putcounts_ok {F : Nat → Prop} {n0 : Nat} {a : Option Addr} {l c : Nat} {xs : List Int} (ok : Ok H) (hw : Wr H n0 b bs) (hV : SlI F H a l xs) (hF : ∀ x, F x → x < H.next ∧ ¬ WrS H b x) (hI : ∀ x ∈ xs, I64 x) (hl : xs.length ≤ 1000) (hs : bs.length ≤ 140737400000000) :
    FW Ee F_serve_putCounts [.pointer (some ⟨b, 0, none⟩), .slice a l c] H fun r H' => r = .tuple ⟨[]⟩ ∧ Wr H' n0 b (bs ++ cntsB xs) ∧ WrX H b H' := by
  have hlen := hV.len
  subst hlen
  refine fw_serve_putCounts ?_
  refine ⟨fun m t Hb => ∃ i : Nat, t = i ∧ i ≤ xs.length ∧ m = xs.length - i ∧ Wr Hb n0 b (bs ++ cntsB (xs.take i)) ∧ WrX H b Hb, ⟨_, 0, rfl, by omega, rfl, by simpa [cntsB] using hw, WrX.grow ok hw (.refl ok)⟩, ?_⟩
  rintro m t H1 ⟨i, rfl, hi, rfl, w1, x1⟩
  have hlt := cntsB_len (xs := xs.take i) fun x hx => hI x (List.mem_of_mem_take hx)
  rw [List.length_take] at hlt
  refine cond_dec (fun hlt' => ?_) (fun hge => ?_)
  · have hi' : i < xs.length := by omega
    obtain ⟨q1, q2⟩ := (hV.mod loc_int x1.mod fun x hx => (hF x hx).2).nth hi'
    refine grd_intro q1 ⟨by omega, by omega, xs[i], by rw [show ((i : Nat) : Int).toNat = i from by omega]; exact q2, (yw_cnt (hI _ (List.getElem_mem hi')) x1.mod.ok w1 (by rw [List.length_append]; omega)).mono ?_⟩
    rintro _ H2 ⟨rfl, w2, x2⟩
    refine ⟨rfl, ?_⟩
    intro t15 e15
    rw [wrap_i64 (by omega) (by omega)] at e15
    subst e15
    refine ⟨xs.length - (i + 1), by omega, i + 1, by simp, by omega, rfl, ?_, x1.trans ok x2⟩
    unfold cntsB
    rw [tflat _ hi', ← List.append_assoc]; exact w2
  · have : i = xs.length := by omega
    subst this
    rw [List.take_length] at w1
    exact ⟨rfl, w1, x1⟩
theorem takecounts_ok {T : Nat → Prop} {S : List Int → AH → Prop} {pb cap : Nat} {ps : List (Nat × Nat)} (ok : Ok H) (hr : Rd H b s q.1 q.2) (hp : AtOk s q) (hs : s.length ≤ 4611686018427387904) (hS : S [] H)
    (hl : H.get pb = some (.cells (ps.map fun p => .pointer (some ⟨p.1, p.2, none⟩)) 0)) (hpl : ps.length ≤ 1000) (hpb : pb ≠ b) (hT : ¬ T pb) (hTb : ¬ T b)
    (step : ∀ xs H1, S xs H1 → Ok H1 → ∀ (hx : xs.length < ps.length) (x : Int), ∃ H2, storeCellsv H1 (ps[xs.length]).1 (ps[xs.length]).2 [.int .i64 x] = some H2 ∧ S (xs ++ [x]) H2 ∧ Mod T H1 H2)
    (keep : ∀ xs H1 H2, S xs H1 → Mod (· = b) H1 H2 → S xs H2) :
    FW Ee F_serve_takeCounts [.pointer (some ⟨b, 0, none⟩), .slice (some ⟨pb, 0, none⟩) ps.length cap] H fun r H' => r = .tuple ⟨[]⟩ ∧ ∃ xs q', xs.length = ps.length ∧ (∀ x ∈ xs, Cn x) ∧ S xs H' ∧ Rd H' b s q'.1 q'.2 ∧ Tk s q q' (cntsB xs) ∧ Mod (fun x => x = b ∨ T x) H H' := by
  refine fw_serve_takeCounts ?_
  refine ⟨fun m t H1 => ∃ (xs : List Int) (q' : RSt), t = (xs.length : Nat) ∧ xs.length ≤ ps.length ∧ m = ps.length - xs.length ∧ (∀ x ∈ xs, Cn x) ∧ S xs H1 ∧ Rd H1 b s q'.1 q'.2 ∧ Tk s q q' (cntsB xs) ∧ Mod (fun x => x = b ∨ T x) H H1, ⟨_, [], q, rfl, by simp, rfl, by simp, hS, hr, .refl hp, .refl ok⟩, ?_⟩
  rintro m t H1 ⟨xs, q1, rfl, hle, rfl, hc, s1, r1, k1, m1⟩
  refine cond_dec (fun hlt => ?_) (fun hge => ?_)
  · have hx : xs.length < ps.length := by omega
    have l1 := m1.get _ _ (by rintro (h | h); exact hpb h; exact hT h) hl
    have hcell : (ps.map fun p => (.pointer (some ⟨p.1, p.2, none⟩) : Value))[0 + ((xs.length : Nat) : Int).toNat * 1]? = some (.pointer (some ⟨(ps[xs.length]).1, (ps[xs.length]).2, none⟩)) := by
      rw [show 0 + ((xs.length : Nat) : Int).toNat * 1 = xs.length from by omega, List.getElem?_map, List.getElem?_eq_getElem hx]; rfl
    refine grd_intro rfl ⟨by omega, by omega, _, cell_of l1 hcell, (xcnt_ok 2147483647 (by omega) m1.ok r1 k1.1 hs).mono ?_⟩
    rintro _ H2 ⟨rfl, r2, m2⟩
    have hcn := (rCnt_ok (m := 2147483647) k1.1).2
    obtain ⟨H3, e3, s3, m3⟩ := step xs H2 (keep xs H1 H2 s1 m2) m2.ok hx (((rCnt s 2147483647 q1).1 : Nat) : Int)
    refine ⟨_, rfl, grd_intro rfl (grd_intro rfl ⟨H3, e3, ?_⟩)⟩
    intro t16 e16
    rw [wrap_i64 (by omega) (by omega)] at e16
    subst e16
    have mT : Mod (fun x => x = b ∨ T x) H2 H3 := m3.le (fun x hx _ => .inr hx) m2.ok
    have mb : Mod (fun x => x = b ∨ T x) H1 H2 := m2.le (fun x hx _ => .inl hx) m1.ok
    refine ⟨ps.length - (xs.length + 1), by omega, xs ++ [(((rCnt s 2147483647 q1).1 : Nat) : Int)], (rCnt s 2147483647 q1).2, by simp, by simp; omega, by simp, ?_, s3, ?_, ?_, (m1.trans mb).trans mT⟩
    · intro x hx
      rcases List.mem_append.1 hx with h | h
      · exact hc x h
      · rw [List.mem_singleton.1 h]; unfold Cn; omega
    · exact m3.get _ _ hTb r2
    · have e : cntsB (xs ++ [(((rCnt s 2147483647 q1).1 : Nat) : Int)]) = cntsB xs ++ enc (rCnt s 2147483647 q1).1 := by simp [cntsB]
      rw [e]
      exact k1.trans (tk_cntq k1.1)
  · exact ⟨rfl, xs, q1, by omega, hc, s1, r1, k1, m1⟩
theorem putentry_ok {n0 : Nat} {e : Int × List UInt8} (ok : Ok H) (hw : Wr H n0 b bs) (h1 : I64 e.1) (hs : bs.length + e.2.length ≤ 140737488350000) :
    FW Ee F_view_PutEntry [.pointer (some ⟨b, 0, none⟩), .agg ⟨[.int .i64 e.1, .string ⟨⟨e.2⟩⟩]⟩] H fun r H' => r = .tuple ⟨[]⟩ ∧ Wr H' n0 b (bs ++ entB e) ∧ WrX H b H' := by
  have l1 := encI_len h1
  refine fw_view_PutEntry ?_
  intro H1 e1
  obtain ⟨g1, b1, n1⟩ := new_job ok e1
  have x1 := WrX.grow ok hw g1
  have w1 := hw.grow g1
  have o1 : ¬ WrS H1 b H.next := hw.new ok g1 (Nat.le_refl _)
  refine ⟨_, cell_of b1 rfl, (yw_cnt h1 g1.ok w1 (by omega)).mono ?_⟩
  rintro _ H2 ⟨rfl, w2, x2⟩
  refine ⟨rfl, _, cell_of (x2.mod.get _ _ o1 b1) rfl, (yw_text x2.mod.ok w2 (by rw [List.length_append]; omega)).mono ?_⟩
  rintro _ H3 ⟨rfl, w3, x3⟩
  refine ⟨rfl, rfl, ?_, x1.trans ok (x2.trans g1.ok x3)⟩
  unfold entB
  rw [← List.append_assoc]; exact w3
theorem takeentry_ok (ok : Ok H) (hr : Rd H b s q.1 q.2) (hp : AtOk s q) (hs : s.length ≤ 4611686018427387904) :
    FW Ee F_view_TakeEntry [.pointer (some ⟨b, 0, none⟩)] H fun r H' => ∃ e q', r = .agg ⟨[.int .i64 e.1, .string ⟨⟨e.2⟩⟩]⟩ ∧ Cn e.1 ∧ e.2.length ≤ s.length ∧ Rd H' b s q'.1 q'.2 ∧ Tk s q q' (entB e) ∧ Mod (· = b) H H' := by
  have hbl := ok.lt hr
  refine fw_view_TakeEntry ?_
  intro H1 e1
  obtain ⟨g1, b1, n1⟩ := new_job ok e1
  refine (xcnt_ok 2147483647 (by omega) g1.ok (g1.get _ _ not_false hr) hp hs).mono ?_
  rintro _ H2 ⟨rfl, r2, m2⟩
  have k2 := tk_cntq (m := 2147483647) hp
  have hcn := (rCnt_ok (m := 2147483647) hp).2
  refine ⟨_, rfl, (xtxt_ok m2.ok r2 k2.1 hs).mono ?_⟩
  rintro _ H3 ⟨rfl, r3, m3⟩
  have k3 := k2.trans (tk_txtq k2.1)
  have hl := (rTxt_ok k2.1).2
  have m13 := m2.trans m3
  obtain ⟨H4, e4, b4, d4, n4⟩ := fill_ok (vs := [.int .i64 ((rCnt s 2147483647 q).1 : Int), .string ⟨⟨(rTxt s (rCnt s 2147483647 q).2).1⟩⟩]) (m13.get _ _ (by omega) b1) rfl rfl m13.ok
  refine ⟨_, rfl, H4, e4, _, _, cell_of b4 rfl, cell_of b4 rfl, (((rCnt s 2147483647 q).1 : Int), (rTxt s (rCnt s 2147483647 q).2).1), (rTxt s (rCnt s 2147483647 q).2).2, rfl, by unfold Cn; simp only; omega, hl, d4.get _ _ (by omega) r3, ?_, ?_⟩
  · have e : entB (((rCnt s 2147483647 q).1 : Int), (rTxt s (rCnt s 2147483647 q).2).1) = enc (rCnt s 2147483647 q).1 ++ txtB (rTxt s (rCnt s 2147483647 q).2).1 := by simp [entB]
    rw [e]; exact k3
  · exact ((g1.le (fun _ hf _ => hf.elim) ok : Mod (· = b) H H1).trans m13).ext d4 ok fun x hx => .inr (by omega)
theorem putask_ok {n0 : Nat} {kd se sq id : Int} {t : List UInt8} (ok : Ok H) (hw : Wr H n0 b bs) (h1 : I64 kd) (h2 : I64 se) (h3 : I64 sq) (h4 : I64 id) (hs : bs.length + t.length ≤ 140737300000000) :
    FW Ee F_serve_putAsk [.pointer (some ⟨b, 0, none⟩), .agg ⟨[.int .i64 kd, .int .i64 se, .int .i64 sq, .string ⟨⟨t⟩⟩, .int .i64 id]⟩] H fun r H' => r = .tuple ⟨[]⟩ ∧ Wr H' n0 b (bs ++ askB kd se sq t id) ∧ WrX H b H' := by
  have l1 := encI_len h1
  have l2 := sgB_len h2
  have l3 := cntsB_len (xs := [sq, id]) (by simp [h3, h4])
  simp only [List.length_cons, List.length_nil] at l3
  refine fw_serve_putAsk ?_
  intro H1 e1
  obtain ⟨g1, b1, n1⟩ := new_job ok e1
  have x1 := WrX.grow ok hw g1
  have w1 := hw.grow g1
  have o1 : ¬ WrS H1 b H.next := hw.new ok g1 (Nat.le_refl _)
  refine ⟨_, cell_of b1 rfl, (yw_cnt h1 g1.ok w1 (by omega)).mono ?_⟩
  rintro _ H2 ⟨rfl, w2, x2⟩
  refine ⟨rfl, _, cell_of (x2.mod.get _ _ o1 b1) rfl, (yw_signed x2.mod.ok w2 h2 (by rw [List.length_append]; omega)).mono ?_⟩
  rintro _ H3 ⟨rfl, w3, x3⟩
  have x13 := x2.trans g1.ok x3
  have b3 := x13.mod.get _ _ o1 b1
  refine ⟨rfl, _, cell_of b3 rfl, _, cell_of b3 rfl, ?_⟩
  intro H4 e4
  obtain ⟨g4, c4, n4⟩ := new_job x3.mod.ok e4
  have x4 := x13.trans g1.ok (WrX.grow x3.mod.ok w3 g4)
  have w4 := w3.grow g4
  have S4 : SlI (fun y => y = H3.next) H4 (some ⟨H3.next, 0, none⟩) 2 [sq, id] := by
    refine ⟨rfl, fun _ => ⟨rfl, rfl⟩, fun i hi => ?_⟩
    rcases (show i = 0 ∨ i = 1 by simp at hi; omega) with rfl | rfl
    · exact cell_of c4 rfl
    · exact cell_of c4 rfl
  refine (putcounts_ok (xs := [sq, id]) g4.ok w4 S4 (by rintro x rfl; exact ⟨by omega, w3.new x3.mod.ok g4 (Nat.le_refl _)⟩) (by simp [h3, h4]) (by simp) (by simp only [List.length_append]; omega)).mono ?_
  rintro _ H5 ⟨rfl, w5, x5⟩
  have x15 := x4.trans g1.ok x5
  refine ⟨rfl, _, cell_of (x15.mod.get _ _ o1 b1) rfl, (yw_text x5.mod.ok w5 (by simp only [List.length_append]; omega)).mono ?_⟩
  rintro _ H6 ⟨rfl, w6, x6⟩
  refine ⟨rfl, rfl, ?_, x1.trans ok (x15.trans g1.ok x6)⟩
  unfold askB
  simpa only [List.append_assoc] using w6
end
end Go.Proofs.Cx
namespace Go.Ev
open Go
abbrev Four := Int × Int × Int × Int
def f4 (x : Four) : List Value := [.int .i64 x.1, .int .i64 x.2.1, .int .i64 x.2.2.1, .int .i64 x.2.2.2]
def P4 (H : AH) (b o : Nat) (x : Four) : Prop := H.cell b o = some (.int .i64 x.1) ∧ H.cell b (o + 1) = some (.int .i64 x.2.1) ∧ H.cell b (o + 2) = some (.int .i64 x.2.2.1) ∧ H.cell b (o + 3) = some (.int .i64 x.2.2.2)
theorem loc_four {F : Nat → Prop} : Ev.Loc F P4 := fun _ _ hk _ _ _ hb h => ⟨loc_cell hk hb h.1, loc_cell hk hb h.2.1, loc_cell hk hb h.2.2.1, loc_cell hk hb h.2.2.2⟩
def FourI (x : Four) : Prop := I64 x.1 ∧ I64 x.2.1 ∧ I64 x.2.2.1 ∧ I64 x.2.2.2
abbrev SlF (F : Nat → Prop) (H : AH) (a : Option Addr) (l : Nat) (xs : List Four) : Prop := Sl F H 4 P4 a l xs
theorem own_four {F : Nat → Prop} {H : AH} {a : Option Addr} {l c : Nat} {xs : List Four} (h : Own H 4 a l c (xs.flatMap f4)) (hF : ∀ x, a = some x → F x.block) : SlF F H a l xs :=
  h.sl (fun _ => rfl) (by decide) hF fun _ _ _ _ k => ⟨k 0 _ rfl, k 1 _ rfl, k 2 _ rfl, k 3 _ rfl⟩
theorem slf_nil {F : Nat → Prop} {H : AH} : SlF F H none 0 [] := ⟨rfl, fun h => absurd h (by omega), fun i hi => absurd hi (by simp)⟩
def msgB (x : Four) : List UInt8 := sgB x.1 ++ (sgB x.2.1 ++ (enc x.2.2.1.toNat ++ sgB x.2.2.2))
def mutB (x : Four) : List UInt8 := enc x.1.toNat ++ (sgB x.2.1 ++ (sgB x.2.2.1 ++ sgB x.2.2.2))
def msgsB (xs : List Four) : List UInt8 := enc xs.length ++ xs.flatMap msgB
def mutsB (xs : List Four) : List UInt8 := enc xs.length ++ xs.flatMap mutB
theorem msgB_len {x : Four} (h : FourI x) : (msgB x).length ≤ 40 := by
  have h1 := sgB_len h.1
  have h2 := sgB_len h.2.1
  have h3 := encI_len h.2.2.1
  have h4 := sgB_len h.2.2.2
  unfold msgB; simp only [List.length_append]; omega
theorem mutB_len {x : Four} (h : FourI x) : (mutB x).length ≤ 40 := by
  have h1 := encI_len h.1
  have h2 := sgB_len h.2.1
  have h3 := sgB_len h.2.2.1
  have h4 := sgB_len h.2.2.2
  unfold mutB; simp only [List.length_append]; omega
theorem push4 {H H6 : AH} {a : Option Addr} {l c : Nat} {xs : List Four} {x : Four} (ok : Ok H) (hO : Own H 4 a l c (xs.flatMap f4)) (e6 : H6 = H.new (.cells (f4 x) 0)) (hl : xs.length ≤ 1000000) :
    ∃ a' l' c' H7, apnd H6 4 32 a l c (.slice (some ⟨H.next, 0, none⟩) 1 2) = some (.slice a' l' c', H7) ∧ Own H7 4 a' l' c' ((xs ++ [x]).flatMap f4) ∧ (∀ z, a' = some z → H.next ≤ z.block) ∧ Mod (fun y => ¬ Off a y) H H7 := by
  have g6 : Grow H H6 := e6 ▸ Grow.new ok _
  have n6 : H6.next = H.next + 1 := by rw [e6]; rfl
  have hll : l = xs.length := by
    have := hO.len
    rw [flatMap_len (sz := 4) (fun _ => rfl)] at this
    omega
  obtain ⟨H7, k1, k2, k3, k4⟩ := (hO.mod g6 fun _ h => h.elim).append (n := 1) (bytes := 32) (new := f4 x) (x := .slice (some ⟨H.next, 0, none⟩) 1 2) g6.ok rfl (takev_new e6 rfl) (by omega) rfl rfl (by omega) (by omega)
  refine ⟨_, _, _, H7, k1, ?_, fun z ez => ?_, (g6.le (fun _ hf _ => hf.elim) ok).trans k4⟩
  · rw [List.flatMap_append]
    simpa using k2
  · cases ez
    simp only; omega
end Go.Ev
namespace Go.Proofs.Cx
open Go Go.Ev
section
variable {H : AH} {b : Nat} {bs s : List UInt8} {q : RSt}
theorem putmsgs_ok {F : Nat → Prop} {n0 : Nat} {a : Option Addr} {l c : Nat} {xs : List Four} (ok : Ok H) (hw : Wr H n0 b bs) (hV : SlF F H a l xs) (hF : ∀ x, F x → x < H.next ∧ ¬ WrS H b x) (hI : ∀ x ∈ xs, FourI x) (hl : xs.length ≤ 4000000) (hs : bs.length ≤ 140737300000000) :
    FW Ee F_comb_PutMessages [.pointer (some ⟨b, 0, none⟩), .slice a l c] H fun r H' => r = .tuple ⟨[]⟩ ∧ Wr H' n0 b (bs ++ msgsB xs) ∧ WrX H b H' := by
  have hlen := hV.len
  subst hlen
  have l0 := enc_len64 (show xs.length < 18446744073709551616 by omega)
  refine fw_comb_PutMessages ?_
  refine (yw_count ok hw (by omega) (by omega)).mono ?_
  rintro _ H1 ⟨rfl, w1, x1⟩
  refine ⟨rfl, fun m t Hb => ∃ i : Nat, t = i ∧ i ≤ xs.length ∧ m = xs.length - i ∧ Wr Hb n0 b (bs ++ enc xs.length ++ (xs.take i).flatMap msgB) ∧ WrX H b Hb, ⟨_, 0, rfl, by omega, rfl, by simpa using w1, x1⟩, ?_⟩
  rintro m t H2 ⟨i, rfl, hi, rfl, w2, x2⟩
  have hlt := flat_len (B := msgB) (m := 40) (xs := xs.take i) fun x hx => msgB_len (hI x (List.mem_of_mem_take hx))
  rw [List.length_take] at hlt
  refine cond_dec (fun hlt' => ?_) (fun hge => ?_)
  · have hi' : i < xs.length := by omega
    have hx := hI _ (List.getElem_mem hi')
    have m1 := sgB_len hx.1
    have m2 := sgB_len hx.2.1
    have m3 := encI_len hx.2.2.1
    have m4 := sgB_len hx.2.2.2
    obtain ⟨q1, c1, c2, c3, c4⟩ := (hV.mod loc_four x2.mod fun x hx => (hF x hx).2).nth hi'
    refine grd_intro q1 ⟨by omega, by omega, _, _, _, _, by rw [show ((i : Nat) : Int).toNat = i from by omega]; exact c1, by rw [show ((i : Nat) : Int).toNat = i from by omega]; exact c2, by rw [show ((i : Nat) : Int).toNat = i from by omega]; exact c3, by rw [show ((i : Nat) : Int).toNat = i from by omega]; exact c4, ?_⟩
    intro H3 e3
    obtain ⟨H4, e4, b4, g4, n4⟩ := fresh_store (vs := f4 xs[i]) e3 rfl rfl x2.mod.ok
    have w4 := w2.grow g4
    have x4 := x2.trans ok (WrX.grow x2.mod.ok w2 g4)
    have o4 : ¬ WrS H4 b H2.next := w2.new x2.mod.ok g4 (Nat.le_refl _)
    refine ⟨H4, e4, _, cell_of b4 rfl, (yw_signed g4.ok w4 hx.1 (by simp only [List.length_append]; omega)).mono ?_⟩
    rintro _ H5 ⟨rfl, w5, x5⟩
    refine ⟨rfl, _, cell_of (x5.mod.get _ _ o4 b4) rfl, (yw_signed x5.mod.ok w5 hx.2.1 (by simp only [List.length_append]; omega)).mono ?_⟩
    rintro _ H6 ⟨rfl, w6, x6⟩
    have x46 := x5.trans g4.ok x6
    refine ⟨rfl, _, cell_of (x46.mod.get _ _ o4 b4) rfl, (yw_cnt hx.2.2.1 x6.mod.ok w6 (by simp only [List.length_append]; omega)).mono ?_⟩
    rintro _ H7 ⟨rfl, w7, x7⟩
    have x47 := x46.trans g4.ok x7
    refine ⟨rfl, _, cell_of (x47.mod.get _ _ o4 b4) rfl, (yw_signed x7.mod.ok w7 hx.2.2.2 (by simp only [List.length_append]; omega)).mono ?_⟩
    rintro _ H8 ⟨rfl, w8, x8⟩
    refine ⟨rfl, ?_⟩
    intro t32 e32
    rw [wrap_i64 (by omega) (by omega)] at e32
    subst e32
    refine ⟨xs.length - (i + 1), by omega, i + 1, by simp, by omega, rfl, ?_, x4.trans ok (x47.trans g4.ok x8)⟩
    rw [tflat _ hi']
    simpa only [msgB, List.append_assoc] using w8
  · have : i = xs.length := by omega
    subst this
    rw [List.take_length] at w2
    refine ⟨rfl, ?_, x2⟩
    unfold msgsB
    rw [← List.append_assoc]; exact w2
theorem putmuts_ok {F : Nat → Prop} {n0 : Nat} {a : Option Addr} {l c : Nat} {xs : List Four} (ok : Ok H) (hw : Wr H n0 b bs) (hV : SlF F H a l xs) (hF : ∀ x, F x → x < H.next ∧ ¬ WrS H b x) (hI : ∀ x ∈ xs, FourI x) (hl : xs.length ≤ 4000000) (hs : bs.length ≤ 140737300000000) :
    FW Ee F_mut_Put [.pointer (some ⟨b, 0, none⟩), .slice a l c] H fun r H' => r = .tuple ⟨[]⟩ ∧ Wr H' n0 b (bs ++ mutsB xs) ∧ WrX H b H' := by
  have hlen := hV.len
  subst hlen
  have l0 := enc_len64 (show xs.length < 18446744073709551616 by omega)
  refine fw_mut_Put ?_
  refine (yw_count ok hw (by omega) (by omega)).mono ?_
  rintro _ H1 ⟨rfl, w1, x1⟩
  refine ⟨rfl, fun m t Hb => ∃ i : Nat, t = i ∧ i ≤ xs.length ∧ m = xs.length - i ∧ Wr Hb n0 b (bs ++ enc xs.length ++ (xs.take i).flatMap mutB) ∧ WrX H b Hb, ⟨_, 0, rfl, by omega, rfl, by simpa using w1, x1⟩, ?_⟩
  rintro m t H2 ⟨i, rfl, hi, rfl, w2, x2⟩
  have hlt := flat_len (B := mutB) (m := 40) (xs := xs.take i) fun x hx => mutB_len (hI x (List.mem_of_mem_take hx))
  rw [List.length_take] at hlt
  refine cond_dec (fun hlt' => ?_) (fun hge => ?_)
  · have hi' : i < xs.length := by omega
    have hx := hI _ (List.getElem_mem hi')
    have m1 := encI_len hx.1
    have m2 := sgB_len hx.2.1
    have m3 := sgB_len hx.2.2.1
    have m4 := sgB_len hx.2.2.2
    obtain ⟨q1, c1, c2, c3, c4⟩ := (hV.mod loc_four x2.mod fun x hx => (hF x hx).2).nth hi'
    refine grd_intro q1 ⟨by omega, by omega, _, _, _, _, by rw [show ((i : Nat) : Int).toNat = i from by omega]; exact c1, by rw [show ((i : Nat) : Int).toNat = i from by omega]; exact c2, by rw [show ((i : Nat) : Int).toNat = i from by omega]; exact c3, by rw [show ((i : Nat) : Int).toNat = i from by omega]; exact c4, ?_⟩
    intro H3 e3
    obtain ⟨H4, e4, b4, g4, n4⟩ := fresh_store (vs := f4 xs[i]) e3 rfl rfl x2.mod.ok
    have w4 := w2.grow g4
    have x4 := x2.trans ok (WrX.grow x2.mod.ok w2 g4)
    have o4 : ¬ WrS H4 b H2.next := w2.new x2.mod.ok g4 (Nat.le_refl _)
    refine ⟨H4, e4, _, cell_of b4 rfl, (yw_cnt hx.1 g4.ok w4 (by simp only [List.length_append]; omega)).mono ?_⟩
    rintro _ H5 ⟨rfl, w5, x5⟩
    refine ⟨rfl, _, cell_of (x5.mod.get _ _ o4 b4) rfl, (yw_signed x5.mod.ok w5 hx.2.1 (by simp only [List.length_append]; omega)).mono ?_⟩
    rintro _ H6 ⟨rfl, w6, x6⟩
    have x46 := x5.trans g4.ok x6
    refine ⟨rfl, _, cell_of (x46.mod.get _ _ o4 b4) rfl, (yw_signed x6.mod.ok w6 hx.2.2.1 (by simp only [List.length_append]; omega)).mono ?_⟩
    rintro _ H7 ⟨rfl, w7, x7⟩
    have x47 := x46.trans g4.ok x7
    refine ⟨rfl, _, cell_of (x47.mod.get _ _ o4 b4) rfl, (yw_signed x7.mod.ok w7 hx.2.2.2 (by simp only [List.length_append]; omega)).mono ?_⟩
    rintro _ H8 ⟨rfl, w8, x8⟩
    refine ⟨rfl, ?_⟩
    intro t32 e32
    rw [wrap_i64 (by omega) (by omega)] at e32
    subst e32
    refine ⟨xs.length - (i + 1), by omega, i + 1, by simp, by omega, rfl, ?_, x4.trans ok (x47.trans g4.ok x8)⟩
    rw [tflat _ hi']
    simpa only [mutB, List.append_assoc] using w8
  · have : i = xs.length := by omega
    subst this
    rw [List.take_length] at w2
    refine ⟨rfl, ?_, x2⟩
    unfold mutsB
    rw [← List.append_assoc]; exact w2
theorem xmsgs_ok (ok : Ok H) (hr : Rd H b s q.1 q.2) (hp : AtOk s q) (hs : s.length ≤ 4611686018427387904) :
    FW Ee F_comb_TakeMessages [.pointer (some ⟨b, 0, none⟩)] H fun r H' => ∃ a l c xs q', r = .slice a l c ∧ SlF (fun x => H.next ≤ x ∧ x < H'.next) H' a l xs ∧ xs.length ≤ 65536 ∧ (∀ x ∈ xs, FourI x) ∧ Rd H' b s q'.1 q'.2 ∧ Tk s q q' (msgsB xs) ∧ Mod (· = b) H H' := by
  have hbl := ok.lt hr
  have hc := (rCnt_ok (m := 65536) hp).2
  have tc := tk_cntq (m := 65536) hp
  refine fw_comb_TakeMessages ?_
  refine (xcnt_ok 65536 (by omega) ok hr hp hs).mono ?_
  rintro _ H1 ⟨rfl, r1, m1⟩
  obtain ⟨n, hn⟩ : ∃ n, n = (rCnt s 65536 q).1 := ⟨_, rfl⟩
  rw [← hn] at hc tc ⊢
  have n1 := m1.next
  refine ⟨_, rfl, ?_⟩
  refine ⟨fun m a l c n4 Hb => ∃ (vs : List Four) (q' : RSt), n4 = ((n - vs.length : Nat) : Int) ∧ vs.length ≤ n ∧ m = n - vs.length ∧ (∀ e ∈ vs, FourI e) ∧ Rd Hb b s q'.1 q'.2 ∧ Tk s q q' (enc n ++ vs.flatMap msgB) ∧ Own Hb 4 a l c (vs.flatMap f4) ∧ (∀ x, a = some x → H1.next ≤ x.block) ∧ Mod (· = b) H Hb ∧ H1.next ≤ Hb.next,
    ⟨_, [], (rCnt s 65536 q).2, by simp, by simp, rfl, fun _ h => (by cases h), r1, by simpa using tc, Own.nil _ _, fun x e => (by cases e), m1, Nat.le_refl _⟩, ?_⟩
  rintro m a l c n4 Hb ⟨vs, q', rfl, hj, rfl, hI, hr, ht, hO, hfar, hm, hnx⟩
  refine cond_dec (fun hpos => ?_) (fun hz => ?_)
  · have hjl : vs.length < n := by omega
    refine (rerr_ok hr).mono ?_
    rintro _ _ ⟨rfl, rfl⟩
    refine ⟨_, rfl, cond_intro (fun he => ?_) (fun he => ?_)⟩
    · have he : q'.2 = 0 := by simpa using he
      refine (xsig_ok (q := q') hm.ok hr ht.1 hs).mono ?_
      rintro _ H4 ⟨rfl, r4, m4⟩
      have t4 := tk_sigq ht.1
      refine ⟨_, rfl, (xsig_ok (q := (rSig s q').2) m4.ok r4 t4.1 hs).mono ?_⟩
      rintro _ H5 ⟨rfl, r5, m5⟩
      have t5 := tk_sigq t4.1
      refine ⟨_, rfl, (xcnt_ok 65536 (by omega) m5.ok r5 t5.1 hs).mono ?_⟩
      rintro _ H6 ⟨rfl, r6, m6⟩
      have t6 := tk_cntq (m := 65536) t5.1
      have h6 := (rCnt_ok (m := 65536) t5.1).2
      refine ⟨_, rfl, (xsig_ok m6.ok r6 t6.1 hs).mono ?_⟩
      rintro _ H7 ⟨rfl, r7, m7⟩
      have t7 := tk_sigq t6.1
      have m47 := ((m4.trans m5).trans m6).trans m7
      have n7 := m47.next
      refine ⟨_, rfl, ?_⟩
      intro H8 e8
      obtain ⟨v, hv⟩ : ∃ v : Four, v = ((rSig s q').1, (rSig s (rSig s q').2).1, (((rCnt s 65536 (rSig s (rSig s q').2).2).1 : Nat) : Int), (rSig s (rCnt s 65536 (rSig s (rSig s q').2).2).2).1) := ⟨_, rfl⟩
      have e8 : H8 = H7.new (.cells (f4 v) 0) := by rw [e8, hv]; rfl
      obtain ⟨a', l', c', H9, k1, k2, k3, k4⟩ := push4 m47.ok (hO.mod m47 fun x hx y ey e => by have := hfar y ey; omega) e8 (by omega)
      have lowS : ∀ {x : Nat}, x < H1.next → ¬ (¬ Off a x) := fun hx h => h fun z ez e => by have := hfar z ez; omega
      refine ⟨_, _, _, H9, k1, ?_⟩
      intro t15 e15
      rw [wrap_i64 (by omega) (by omega)] at e15
      refine ⟨n - (vs.length + 1), by omega, vs ++ [v], (rSig s (rCnt s 65536 (rSig s (rSig s q').2).2).2).2, by simp; omega, by simp; omega, by simp, fun e he => ?_, k4.get _ _ (lowS (by omega)) r7, ?_, k2, fun z ez => by have := k3 z ez; omega, ?_, by have := k4.next; omega⟩
      · rcases List.mem_append.1 he with h | h
        · exact hI e h
        · rw [List.mem_singleton.1 h, hv]
          exact ⟨(rSig_ok ht.1).2, (rSig_ok t4.1).2, by unfold I64; simp only; omega, (rSig_ok t6.1).2⟩
      · rw [List.flatMap_append, ← List.append_assoc]
        have := ht.trans (t4.trans (t5.trans (t6.trans t7)))
        simpa [msgB, hv] using this
      · refine (hm.trans m47).ext k4 ok fun x hx => .inr ?_
        obtain ⟨z, ez, rfl⟩ := off_not hx
        have := hfar z ez
        omega
    · have he : q'.2 ≠ 0 := by simpa using he
      exact ⟨a, l, c, vs, q', rfl, own_four hO fun x ex => ⟨by have := hfar x ex; omega, own_lt hO hm.ok ex⟩, by omega, hI, hr, ht.vac he, hm⟩
  · have hjl : vs.length = n := by omega
    refine ⟨a, l, c, vs, q', rfl, own_four hO fun x ex => ⟨by have := hfar x ex; omega, own_lt hO hm.ok ex⟩, by omega, hI, hr, ?_, hm⟩
    rw [msgsB, hjl]; exact ht
theorem mutcheck_ok (ok : Ok H) (x : Four) : FW Ee F_mut_Check [.agg ⟨f4 x⟩] H fun r H' => ∃ c : Bool, r = .bool c ∧ Grow H H' := by
  refine fw_mut_Check ?_
  intro H1 e1
  have e1 : H1 = H.new (.cells (f4 x) 0) := e1
  obtain ⟨g1, b1, n1⟩ := new_job ok e1
  refine ⟨_, cell_of b1 rfl, cond_intro (fun _ => ⟨_, cell_of b1 rfl, _, rfl, g1⟩) (fun _ => cond_intro (fun _ => ⟨_, cell_of b1 rfl, cond_intro (fun _ => ⟨_, cell_of b1 rfl, _, rfl, g1⟩) (fun _ => ⟨_, rfl, g1⟩)⟩) (fun _ => cond_intro (fun _ => ⟨_, cell_of b1 rfl, _, rfl, g1⟩) (fun _ => ⟨_, cell_of b1 rfl, _, rfl, g1⟩)))⟩
end
end Go.Proofs.Cx
namespace Go.Ev
open Go
def MutI (H H1 : AH) (b : Nat) (s : List UInt8) (q : RSt) (n : Nat) (m : Nat) (a : Option Addr) (l c : Nat) (n4 : Int) (Hb : AH) : Prop :=
  ∃ (vs : List Four) (q' : RSt), n4 = ((n - vs.length : Nat) : Int) ∧ vs.length ≤ n ∧ m = n - vs.length ∧ (∀ e ∈ vs, FourI e) ∧ Rd Hb b s q'.1 q'.2 ∧ Tk s q q' (enc n ++ vs.flatMap mutB) ∧ Own Hb 4 a l c (vs.flatMap f4) ∧ (∀ x, a = some x → H1.next ≤ x.block) ∧ Mod (· = b) H Hb ∧ H1.next ≤ Hb.next
def MutQ (H : AH) (b : Nat) (s : List UInt8) (q : RSt) (r : Value) (H' : AH) : Prop := ∃ a l c xs q', r = .slice a l c ∧ SlF (fun x => H.next ≤ x ∧ x < H'.next) H' a l xs ∧ xs.length ≤ 65536 ∧ (∀ x ∈ xs, FourI x) ∧ Rd H' b s q'.1 q'.2 ∧ Tk s q q' (mutsB xs) ∧ Mod (· = b) H H'
structure ViewW where
  f : Nat → Int
  base : List UInt8
  es : List (Int × List UInt8)
def vwC (f : Nat → Int) (s : List UInt8) (a : Option Addr) (l c : Nat) : List Value := [.int .i64 (f 0), .int .i64 (f 1), .int .i64 (f 2), .int .i64 (f 3), .int .i64 (f 4), .int .i64 (f 5), .int .i64 (f 6), .int .i64 (f 7), .int .i64 (f 8), .string ⟨⟨s⟩⟩, .slice a l c]
def vwB (f : Nat → Int) (s : List UInt8) (es : List (Int × List UInt8)) : List UInt8 := (List.range 9).flatMap (fun i => enc (f i).toNat) ++ (txtB s ++ (enc es.length ++ es.flatMap entB))
def entC (e : Int × List UInt8) : List Value := [.int .i64 e.1, .string ⟨⟨e.2⟩⟩]
def PEnt (H : AH) (b o : Nat) (e : Int × List UInt8) : Prop := H.cell b o = some (.int .i64 e.1) ∧ H.cell b (o + 1) = some (.string ⟨⟨e.2⟩⟩)
theorem loc_ent {F : Nat → Prop} : Ev.Loc F PEnt := fun _ _ hk _ _ _ hb h => ⟨loc_cell hk hb h.1, loc_cell hk hb h.2⟩
abbrev SlN (F : Nat → Prop) (H : AH) (a : Option Addr) (l : Nat) (es : List (Int × List UInt8)) : Prop := Sl F H 2 PEnt a l es
theorem own_ents {F : Nat → Prop} {H : AH} {a : Option Addr} {l c : Nat} {xs : List (Int × List UInt8)} (h : Own H 2 a l c (xs.flatMap entC)) (hF : ∀ x, a = some x → F x.block) : SlN F H a l xs :=
  h.sl (fun _ => rfl) (by decide) hF fun _ _ _ _ k => ⟨k 0 _ rfl, k 1 _ rfl⟩
theorem sln_nil {F : Nat → Prop} {H : AH} : SlN F H none 0 [] := ⟨rfl, fun h => absurd h (by omega), fun i hi => absurd hi (by simp)⟩
theorem rangeB (g : Nat → List UInt8) (i : Nat) : (List.range (i + 1)).flatMap g = (List.range i).flatMap g ++ g i := by
  rw [List.range_succ, List.flatMap_append]; simp
theorem rangeB_len {g : Nat → List UInt8} {m : Nat} (hg : ∀ i, (g i).length ≤ m) : ∀ i, ((List.range i).flatMap g).length ≤ i * m
  | 0 => by simp
  | i + 1 => by
    have h1 := rangeB_len hg i
    have h2 := hg i
    rw [rangeB, List.length_append, Nat.succ_mul]; omega
theorem rangeB_congr {g h : Nat → List UInt8} : ∀ {n : Nat}, (∀ i, i < n → g i = h i) → (List.range n).flatMap g = (List.range n).flatMap h
  | 0, _ => rfl
  | n + 1, k => by rw [rangeB, rangeB, rangeB_congr fun i hi => k i (by omega), k n (by omega)]
theorem pre_len {α : Type} (B : α → List UInt8) {xs : List α} {i : Nat} (h : i < xs.length) : ((xs.take i).flatMap B).length + (B xs[i]).length ≤ (xs.flatMap B).length := by
  have h1 := tflat B h
  have h2 : (xs.take (i + 1)).flatMap B ++ (xs.drop (i + 1)).flatMap B = xs.flatMap B := by rw [← List.flatMap_append, List.take_append_drop]
  have h3 := congrArg List.length h2
  rw [h1] at h3
  simp only [List.length_append] at h3
  omega
theorem vw_cell {f : Nat → Int} {i : Nat} (hi : i < 9) : ([.int .i64 (f 0), .int .i64 (f 1), .int .i64 (f 2), .int .i64 (f 3), .int .i64 (f 4), .int .i64 (f 5), .int .i64 (f 6), .int .i64 (f 7), .int .i64 (f 8)] : List Value)[0 + ((i : Nat) : Int).toNat * 1]? = some (.int .i64 (f i)) := by
  rcases nine hi with rfl | rfl | rfl | rfl | rfl | rfl | rfl | rfl | rfl <;> rfl
theorem vw_ptr {r i : Nat} (hi : i < 9) : ([.pointer (some ⟨r, 0, none⟩), .pointer (some ⟨r, 1, none⟩), .pointer (some ⟨r, 2, none⟩), .pointer (some ⟨r, 3, none⟩), .pointer (some ⟨r, 4, none⟩), .pointer (some ⟨r, 5, none⟩), .pointer (some ⟨r, 6, none⟩), .pointer (some ⟨r, 7, none⟩), .pointer (some ⟨r, 8, none⟩)] : List Value)[0 + ((i : Nat) : Int).toNat * 1]? = some (.pointer (some ⟨r, i, none⟩)) := by
  rcases nine hi with rfl | rfl | rfl | rfl | rfl | rfl | rfl | rfl | rfl <;> rfl
theorem vw_set {f : Nat → Int} {s : List UInt8} {a : Option Addr} {l c i : Nat} {x : Int} (hi : i < 9) : lset (vwC f s a l c) i [.int .i64 x] = vwC (upd f i x) s a l c := by
  rcases nine hi with rfl | rfl | rfl | rfl | rfl | rfl | rfl | rfl | rfl <;> rfl
end Go.Ev
namespace Go.Proofs.Cx
open Go Go.Ev
section
variable {H : AH} {b : Nat} {bs s : List UInt8} {q : RSt}
set_option maxHeartbeats 1000000 in
theorem xmuts_ok (ok : Ok H) (hr : Rd H b s q.1 q.2) (hp : AtOk s q) (hs : s.length ≤ 4611686018427387904) :
    FW Ee F_mut_Take [.pointer (some ⟨b, 0, none⟩)] H fun r H' => ∃ a l c xs q', r = .slice a l c ∧ SlF (fun x => H.next ≤ x ∧ x < H'.next) H' a l xs ∧ xs.length ≤ 65536 ∧ (∀ x ∈ xs, FourI x) ∧ Rd H' b s q'.1 q'.2 ∧ Tk s q q' (mutsB xs) ∧ Mod (· = b) H H' := by
  have hbl := ok.lt hr
  have hc := (rCnt_ok (m := 65536) hp).2
  have tc := tk_cntq (m := 65536) hp
  refine fw_mut_Take ?_
  refine (xcnt_ok 65536 (by omega) ok hr hp hs).mono ?_
  rintro _ H1 ⟨rfl, r1, m1⟩
  obtain ⟨n, hn⟩ : ∃ n, n = (rCnt s 65536 q).1 := ⟨_, rfl⟩
  rw [← hn] at hc tc ⊢
  have n1 := m1.next
  -- the end
  have fin : ∀ {a : Option Addr} {l c : Nat} {Hb : AH} {vs : List Four} {q' : RSt}, vs.length ≤ n → (vs.length = n ∨ q'.2 ≠ 0) → (∀ e ∈ vs, FourI e) → Rd Hb b s q'.1 q'.2 → Tk s q q' (enc n ++ vs.flatMap mutB) → Own Hb 4 a l c (vs.flatMap f4) → (∀ x, a = some x → H1.next ≤ x.block) → Mod (· = b) H Hb →
      ∃ r : Int, (Value.int .i64 q'.2) = .int .i64 r ∧ cond (r != 0) (MutQ H b s q (.slice none 0 0) Hb) (MutQ H b s q (.slice a l c) Hb) := by
    intro a l c Hb vs q' hl hor hI hr ht hO hfar hm
    refine ⟨_, rfl, cond_intro (fun he => ?_) (fun he => ?_)⟩
    · exact ⟨none, 0, 0, [], q', rfl, slf_nil, by simp, fun _ h => (by cases h), hr, ht.vac (by simpa using he), hm⟩
    · have he : q'.2 = 0 := by simpa using he
      have hv : vs.length = n := by rcases hor with h | h; exact h; exact absurd he h
      refine ⟨a, l, c, vs, q', rfl, own_four hO fun x ex => ⟨by have := hfar x ex; omega, own_lt hO hm.ok ex⟩, by omega, hI, hr, ?_, hm⟩
      rw [mutsB, hv]; exact ht
  refine ⟨_, rfl, MutI H H1 b s q n, ⟨_, [], (rCnt s 65536 q).2, by simp, by simp, rfl, fun _ h => (by cases h), r1, by simpa using tc, Own.nil _ _, fun x e => (by cases e), m1, Nat.le_refl _⟩, ?_⟩
  rintro m a l c n4 Hb ⟨vs, q', rfl, hj, rfl, hI, hr, ht, hO, hfar, hm, hnx⟩
  refine cond_dec (fun hpos => ?_) (fun hz => ?_)
  · have hjl : vs.length < n := by omega
    refine (rerr_ok hr).mono ?_
    rintro _ _ ⟨rfl, rfl⟩
    refine ⟨_, rfl, cond_intro (fun he => ?_) (fun he => ?_)⟩
    · have he : q'.2 = 0 := by simpa using he
      refine (xcnt_ok (q := q') 4 (by omega) hm.ok hr ht.1 hs).mono ?_
      rintro _ H4 ⟨rfl, r4, m4⟩
      have t4 := tk_cntq (m := 4) ht.1
      have h4 := (rCnt_ok (m := 4) ht.1).2
      refine ⟨_, rfl, (xsig_ok (q := (rCnt s 4 q').2) m4.ok r4 t4.1 hs).mono ?_⟩
      rintro _ H5 ⟨rfl, r5, m5⟩
      have t5 := tk_sigq t4.1
      refine ⟨_, rfl, (xsig_ok m5.ok r5 t5.1 hs).mono ?_⟩
      rintro _ H6 ⟨rfl, r6, m6⟩
      have t6 := tk_sigq t5.1
      refine ⟨_, rfl, (xsig_ok m6.ok r6 t6.1 hs).mono ?_⟩
      rintro _ H7 ⟨rfl, r7, m7⟩
      have t7 := tk_sigq t6.1
      have m47 := ((m4.trans m5).trans m6).trans m7
      have n7 := m47.next
      obtain ⟨q7, hq7⟩ : ∃ q7, q7 = (rSig s (rSig s (rSig s (rCnt s 4 q').2).2).2).2 := ⟨_, rfl⟩
      obtain ⟨v, hv⟩ : ∃ v : Four, v = ((((rCnt s 4 q').1 : Nat) : Int), (rSig s (rCnt s 4 q').2).1, (rSig s (rSig s (rCnt s 4 q').2).2).1, (rSig s (rSig s (rSig s (rCnt s 4 q').2).2).2).1) := ⟨_, rfl⟩
      have hvI : FourI v := by rw [hv]; exact ⟨by unfold I64; simp only; omega, (rSig_ok t4.1).2, (rSig_ok t5.1).2, (rSig_ok t6.1).2⟩
      have T7 : Tk s q q7 (enc n ++ (vs ++ [v]).flatMap mutB) := by
        rw [List.flatMap_append, ← List.append_assoc]
        have := ht.trans (t4.trans (t5.trans (t6.trans t7)))
        rw [hq7]
        simpa [mutB, hv] using this
      rw [← hq7] at r7
      refine ⟨_, rfl, ?_⟩
      intro H8 e8
      obtain ⟨H9, e9, b9, g9, n9⟩ := fresh_store (vs := f4 v) e8 rfl rfl m47.ok
      have b9e : H9.get H7.next = some (.cells (f4 v) 0) := b9
      have hm9 : Mod (· = b) H H9 := (hm.trans m47).add g9
      -- the list grows
      have key : ∀ (Hx : AH) (q2 : RSt), Mod (· = b) H9 Hx → Rd Hx b s q2.1 q2.2 → Tk s q q2 (enc n ++ (vs ++ [v]).flatMap mutB) → ∀ H13, H13 = Hx.new (.cells (f4 v) 0) → ∃ a' l' c' H14, apnd H13 4 32 a l c (.slice (some ⟨Hx.next, 0, none⟩) 1 2) = some (.slice a' l' c', H14) ∧
          ∀ t16, t16 = IntKind.i64.wrap (((n - vs.length : Nat) : Int) - 1) → ∃ m', m' < n - vs.length ∧ MutI H H1 b s q n m' a' l' c' t16 H14 := by
        intro Hx q2 m2 r2 T2 H13 e13
        have mx : Mod (· = b) Hb Hx := (m47.add g9).trans m2
        have nx := mx.next
        obtain ⟨a', l', c', H14, k1, k2, k3, k4⟩ := push4 mx.ok (hO.mod mx fun x hx y ey e => by have := hfar y ey; omega) e13 (by omega)
        have lowS : ∀ {x : Nat}, x < H1.next → ¬ (¬ Off a x) := fun hx h => h fun z ez e => by have := hfar z ez; omega
        refine ⟨_, _, _, H14, k1, ?_⟩
        intro t16 e16
        rw [wrap_i64 (by omega) (by omega)] at e16
        refine ⟨n - (vs.length + 1), by omega, vs ++ [v], q2, by simp; omega, by simp; omega, by simp, fun e he => ?_, k4.get _ _ (lowS (by omega)) r2, T2, k2, fun z ez => by have := k3 z ez; omega, ?_, by have := k4.next; omega⟩
        · rcases List.mem_append.1 he with h | h
          · exact hI e h
          · rw [List.mem_singleton.1 h]; exact hvI
        · refine (hm.trans mx).ext k4 ok fun x hx => .inr ?_
          obtain ⟨z, ez, rfl⟩ := off_not hx
          have := hfar z ez
          omega
      refine ⟨H9, by rw [← e9, hv]; rfl, (rerr_ok (g9.get _ _ not_false r7)).mono ?_⟩
      rintro _ _ ⟨rfl, rfl⟩
      have r9 := g9.get _ _ not_false r7
      refine ⟨_, rfl, cond_intro (fun he7 => ?_) (fun he7 => ?_)⟩
      · refine ⟨_, _, _, _, cell_of b9e rfl, cell_of b9e rfl, cell_of b9e rfl, cell_of b9e rfl, (mutcheck_ok g9.ok v).mono ?_⟩
        rintro _ H11 ⟨ck, rfl, g11⟩
        have b11 := g11.get _ _ not_false b9e
        refine ⟨_, rfl, cond_intro (fun _ => ?_) (fun _ => ?_)⟩
        · refine (rfail_ok g11.ok (g11.get _ _ not_false r9) 6).mono ?_
          rintro _ H12 ⟨rfl, r12, m12⟩
          have he0 : q7.2 = 0 := by simpa using he7
          rw [if_pos he0] at r12
          have b12 := m12.get _ _ (by omega) b11
          exact ⟨rfl, _, _, _, _, cell_of b12 rfl, cell_of b12 rfl, cell_of b12 rfl, cell_of b12 rfl, key H12 (q7.1, 6) ((g11.le (fun _ hf _ => hf.elim) g9.ok).trans m12) r12 (T7.any rfl (by simp))⟩
        · exact ⟨_, _, _, _, cell_of b11 rfl, cell_of b11 rfl, cell_of b11 rfl, cell_of b11 rfl, key H11 q7 (g11.le (fun _ hf _ => hf.elim) g9.ok) (g11.get _ _ not_false r9) T7⟩
      · exact ⟨_, _, _, _, cell_of b9e rfl, cell_of b9e rfl, cell_of b9e rfl, cell_of b9e rfl, key _ q7 (.refl g9.ok) r9 T7⟩
    · have he : q'.2 ≠ 0 := by simpa using he
      refine (rerr_ok hr).mono ?_
      rintro _ _ ⟨rfl, rfl⟩
      exact fin hj (.inr he) hI hr ht hO hfar hm
  · refine (rerr_ok hr).mono ?_
    rintro _ _ ⟨rfl, rfl⟩
    exact fin hj (.inl (by omega)) hI hr ht hO hfar hm
theorem putview_ok {F : Nat → Prop} {n0 : Nat} {f : Nat → Int} {t : List UInt8} {a : Option Addr} {l c : Nat} {es : List (Int × List UInt8)} (hf : ∀ i, I64 (f i)) (ok : Ok H) (hw : Wr H n0 b bs) (hV : SlN F H a l es) (hF : ∀ x, F x → x < H.next ∧ ¬ WrS H b x) (hI : ∀ e ∈ es, I64 e.1) (hl : es.length ≤ 4000000) (hs : bs.length + (vwB f t es).length ≤ 140737488000000) :
    FW Ee F_view_Put [.pointer (some ⟨b, 0, none⟩), .agg ⟨vwC f t a l c⟩] H fun r H' => r = .tuple ⟨[]⟩ ∧ Wr H' n0 b (bs ++ vwB f t es) ∧ WrX H b H' := by
  have hlen := hV.len
  subst hlen
  have d9 : ∀ i, ((fun i => enc (f i).toNat) i).length ≤ 10 := fun i => encI_len (hf i)
  have l0 := enc_len64 (show es.length < 18446744073709551616 by omega)
  have lt2 : t.length ≤ (txtB t).length := by unfold txtB; rw [List.length_append]; omega
  have htot := hs
  unfold vwB at htot
  simp only [List.length_append] at htot
  refine fw_view_Put ?_
  intro H1 e1
  obtain ⟨g1, b1, n1⟩ := new_job ok e1
  refine ⟨_, cell_of b1 rfl, _, cell_of b1 rfl, _, cell_of b1 rfl, _, cell_of b1 rfl, _, cell_of b1 rfl, _, cell_of b1 rfl, _, cell_of b1 rfl, _, cell_of b1 rfl, _, cell_of b1 rfl, ?_⟩
  intro H2 e2
  obtain ⟨g2, c2, n2⟩ := new_job g1.ok e2
  have g02 := g1.trans g2
  have x0 := WrX.grow ok hw g02
  have w2 := hw.grow g02
  have o1 : ¬ WrS H2 b H.next := hw.new ok g02 (Nat.le_refl _)
  have o2 : ¬ WrS H2 b H1.next := hw.new ok g02 (by omega)
  have b2 := g2.get _ _ id b1
  have F2 := x0.keep hF
  have V2 := hV.grow loc_ent g02
  refine ⟨fun m t Hb => ∃ i : Nat, t = i ∧ i ≤ 9 ∧ m = 9 - i ∧ Wr Hb n0 b (bs ++ (List.range i).flatMap (fun i => enc (f i).toNat)) ∧ WrX H2 b Hb, ⟨_, 0, rfl, by omega, rfl, by simpa using w2, WrX.grow g02.ok w2 (.refl g02.ok)⟩, ?_⟩
  rintro m t28 H3 ⟨i, rfl, hi, rfl, w3, x3⟩
  have l3 := rangeB_len d9 i
  refine cond_dec (fun hlt => ?_) (fun hge => ?_)
  · have hi9 : i < 9 := by omega
    refine ⟨by omega, by omega, f i, cell_of (x3.mod.get _ _ o2 c2) (vw_cell hi9), (yw_cnt (hf i) x3.mod.ok w3 (by rw [List.length_append]; omega)).mono ?_⟩
    rintro _ H4 ⟨rfl, w4, x4⟩
    refine ⟨rfl, ?_⟩
    intro t33 e33
    rw [wrap_i64 (by omega) (by omega)] at e33
    subst e33
    exact ⟨9 - (i + 1), by omega, i + 1, by simp, by omega, rfl, by rw [rangeB, ← List.append_assoc]; exact w4, x3.trans g02.ok x4⟩
  obtain rfl : i = 9 := by omega
  have b3 := x3.mod.get _ _ o1 b2
  refine ⟨_, cell_of b3 rfl, (yw_text x3.mod.ok w3 (by rw [List.length_append]; omega)).mono ?_⟩
  rintro _ H5 ⟨rfl, w5, x5⟩
  have x25 := x3.trans g02.ok x5
  refine ⟨rfl, _, _, _, cell_of (x25.mod.get _ _ o1 b2) rfl, (yw_count x5.mod.ok w5 (by omega) (by simp only [List.length_append]; omega)).mono ?_⟩
  rintro _ H6 ⟨rfl, w6, x6⟩
  have x26 := x25.trans g02.ok x6
  obtain ⟨B6, hB6⟩ : ∃ B6, B6 = bs ++ (List.range 9).flatMap (fun i => enc (f i).toNat) ++ txtB t ++ enc es.length := ⟨_, rfl⟩
  have lB6 : B6.length + (es.flatMap entB).length ≤ 140737488000000 := by rw [hB6]; simp only [List.length_append]; omega
  rw [← hB6] at w6
  refine ⟨rfl, _, _, _, cell_of (x26.mod.get _ _ o1 b2) rfl, fun m t Hb => ∃ i : Nat, t = i ∧ i ≤ es.length ∧ m = es.length - i ∧ Wr Hb n0 b (B6 ++ (es.take i).flatMap entB) ∧ WrX H2 b Hb, ⟨_, 0, rfl, by omega, rfl, by simpa using w6, x26⟩, ?_⟩
  rintro m t48 H7 ⟨i, rfl, hi, rfl, w7, x7⟩
  refine cond_dec (fun hlt => ?_) (fun hge => ?_)
  · have hi' : i < es.length := by omega
    have k1 := hI _ (List.getElem_mem hi')
    have l7 := pre_len entB hi'
    have l8 : es[i].2.length ≤ (entB es[i]).length := by unfold entB txtB; simp only [List.length_append]; omega
    obtain ⟨q1, c1, c2⟩ := (V2.mod loc_ent x7.mod fun x hx => (F2 x hx).2).nth hi'
    refine grd_intro q1 ⟨by omega, by omega, _, _, by rw [show ((i : Nat) : Int).toNat = i from by omega]; exact c1, by rw [show ((i : Nat) : Int).toNat = i from by omega]; exact c2, ?_⟩
    intro H8 e8
    obtain ⟨H9, e9, b9, g9, n9⟩ := fresh_store (vs := entC es[i]) e8 rfl rfl x7.mod.ok
    refine ⟨H9, e9, _, _, cell_of b9 rfl, cell_of b9 rfl, (putentry_ok (e := es[i]) g9.ok (w7.grow g9) k1 (by rw [List.length_append]; omega)).mono ?_⟩
    rintro _ H10 ⟨rfl, w10, x10⟩
    refine ⟨rfl, ?_⟩
    intro t55 e55
    rw [wrap_i64 (by omega) (by omega)] at e55
    subst e55
    refine ⟨es.length - (i + 1), by omega, i + 1, by simp, by omega, rfl, by rw [tflat _ hi', ← List.append_assoc]; exact w10, (x7.trans g02.ok (WrX.grow x7.mod.ok w7 g9)).trans g02.ok x10⟩
  · have : i = es.length := by omega
    subst this
    rw [List.take_length, hB6] at w7
    refine ⟨rfl, ?_, x0.trans ok x7⟩
    unfold vwB
    simpa only [List.append_assoc] using w7
end
end Go.Proofs.Cx
namespace Go.Ev
open Go
theorem pushE {H H6 : AH} {a : Option Addr} {l c : Nat} {xs : List (Int × List UInt8)} {x : Int × List UInt8} (ok : Ok H) (hO : Own H 2 a l c (xs.flatMap entC)) (e6 : H6 = H.new (.cells (entC x) 0)) (hl : xs.length ≤ 1000000) :
    ∃ a' l' c' H7, apnd H6 2 24 a l c (.slice (some ⟨H.next, 0, none⟩) 1 2) = some (.slice a' l' c', H7) ∧ Own H7 2 a' l' c' ((xs ++ [x]).flatMap entC) ∧ (∀ z, a' = some z → H.next ≤ z.block) ∧ Mod (fun y => ¬ Off a y) H H7 := by
  have g6 : Grow H H6 := e6 ▸ Grow.new ok _
  have n6 : H6.next = H.next + 1 := by rw [e6]; rfl
  have hll : l = xs.length := by
    have := hO.len
    rw [flatMap_len (sz := 2) (fun _ => rfl)] at this
    omega
  obtain ⟨H7, k1, k2, k3, k4⟩ := (hO.mod g6 fun _ h => h.elim).append (n := 1) (bytes := 24) (new := entC x) (x := .slice (some ⟨H.next, 0, none⟩) 1 2) g6.ok rfl (takev_new e6 rfl) (by omega) rfl rfl (by omega) (by omega)
  refine ⟨_, _, _, H7, k1, ?_, fun z ez => ?_, (g6.le (fun _ hf _ => hf.elim) ok).trans k4⟩
  · rw [List.flatMap_append]
    simpa using k2
  · cases ez
    simp only; omega
theorem part_ok {H : AH} {b o : Nat} {cs vs cs' : List Value} (h : H.get b = some (.cells cs 0)) (e : lset cs o vs = cs') (hl : o + vs.length ≤ cs.length) (hv : vs.all oneCell = true) (ok : Ok H) :
    ∃ H', storeCellsv H b o vs = some H' ∧ H'.get b = some (.cells cs' 0) ∧ Mod (· = b) H H' ∧ H'.next = H.next := ⟨_, store_of h hl hv, by rw [get_set_self, e], Mod.set ok h _, rfl⟩
theorem getD_app {xs : List Int} {x : Int} {i : Nat} : (xs ++ [x]).getD i 0 = upd (fun i => xs.getD i 0) xs.length x i := by
  unfold upd
  by_cases h : i = xs.length
  · subst h; simp
  · rw [if_neg h]
    simp only [List.getD_eq_getElem?_getD]
    rcases Nat.lt_or_ge i xs.length with h1 | h1
    · rw [List.getElem?_append_left h1]
    · rw [show (xs ++ [x])[i]? = none from List.getElem?_eq_none (by simp; omega), show xs[i]? = none from List.getElem?_eq_none (by omega)]
def askC (kd se : Int) (f : Nat → Int) (t : List UInt8) : List Value := [.int .i64 kd, .int .i64 se, .int .i64 (f 0), .string ⟨⟨t⟩⟩, .int .i64 (f 1)]
def tldC (kd se : Int) (f : Nat → Int) (e k er st : Int) (a : Option Addr) (l c : Nat) : List Value := [.int .i64 kd, .int .i64 se, .int .i64 (f 0), .int .i64 e, .int .i64 (f 2), .int .i64 (f 3), .int .i64 (f 4), .int .i64 (f 5), .int .i64 (f 6), .int .i64 k, .int .i64 er, .int .i64 st, .slice a l c]
def outA (k er st : Int) (vs : List (Int × Int)) : List UInt8 := enc k.toNat ++ enc er.toNat ++ enc st.toNat ++ enc vs.length ++ vs.flatMap valB
def cntF (f : Nat → Int) (n : Nat) : List UInt8 := (List.range n).flatMap fun i => enc (f i).toNat
theorem cnts_f : ∀ {xs : List Int}, cntsB xs = cntF (fun i => xs.getD i 0) xs.length := by
  intro xs
  have h : ∀ k, k ≤ xs.length → cntsB (xs.take k) = cntF (fun i => xs.getD i 0) k := by
    intro k
    induction k with
    | zero => intro _; rfl
    | succ k ih =>
      intro hk
      have hk' : k < xs.length := by omega
      unfold cntF
      rw [rangeB]
      have := ih (by omega)
      unfold cntF at this
      rw [← this]
      unfold cntsB
      rw [tflat _ hk']
      congr 2
      simp [List.getElem?_eq_getElem hk']
  have := h xs.length (Nat.le_refl _)
  rwa [List.take_length] at this
def toldB (kd se : Int) (f : Nat → Int) (k er st : Int) (vs : List (Int × Int)) : List UInt8 := enc kd.toNat ++ (sgB se ++ (cntF f 7 ++ txtB (outA k er st vs)))
theorem askB_f {kd se : Int} {f : Nat → Int} {t : List UInt8} : askB kd se (f 0) t (f 1) = enc kd.toNat ++ (sgB se ++ (cntF f 2 ++ txtB t)) := by
  simp [askB, cntsB, cntF, List.range_succ]
end Go.Ev
namespace Go.Proofs.Cx
open Go Go.Ev
section
variable {H : AH} {b : Nat} {bs s : List UInt8} {q : RSt}
theorem xask_ok (ok : Ok H) (hr : Rd H b s q.1 q.2) (hp : AtOk s q) (hs : s.length ≤ 4611686018427387904) :
    FW Ee F_serve_takeAsk [.pointer (some ⟨b, 0, none⟩)] H fun r H' => ∃ kd se f t q', r = .agg ⟨askC kd se f t⟩ ∧ Cn kd ∧ I64 se ∧ (∀ i, Cn (f i)) ∧ t.length ≤ s.length ∧ Rd H' b s q'.1 q'.2 ∧ Tk s q q' (askB kd se (f 0) t (f 1)) ∧ Mod (· = b) H H' := by
  have hbl := ok.lt hr
  refine fw_serve_takeAsk ?_
  intro H1 e1
  obtain ⟨g1, b1, n1⟩ := new_job ok e1
  refine (xcnt_ok 3 (by omega) g1.ok (g1.get _ _ not_false hr) hp hs).mono ?_
  rintro _ H2 ⟨rfl, r2, m2⟩
  have t2 := tk_cntq (m := 3) hp
  have h2 := (rCnt_ok (m := 3) hp).2
  refine ⟨_, rfl, (xsig_ok m2.ok r2 t2.1 hs).mono ?_⟩
  rintro _ H3 ⟨rfl, r3, m3⟩
  have t3 := tk_sigq t2.1
  obtain ⟨kd, hkd⟩ : ∃ kd : Int, kd = (((rCnt s 3 q).1 : Nat) : Int) := ⟨_, rfl⟩
  obtain ⟨se, hse⟩ : ∃ se, se = (rSig s (rCnt s 3 q).2).1 := ⟨_, rfl⟩
  have hI := (rSig_ok t2.1).2
  rw [← hse] at hI t3 ⊢
  rw [← hkd]
  have m23 := m2.trans m3
  have b3 := m23.get _ _ (by omega) b1
  have n3 := m23.next
  refine ⟨_, rfl, ?_⟩
  intro H4 e4
  obtain ⟨H5, e5, b5, g5, n5⟩ := fresh_store (vs := askC kd se (fun _ => 0) []) e4 rfl rfl m3.ok
  refine ⟨H5, e5, ?_⟩
  intro H6 e6
  obtain ⟨g6, b6, n6⟩ := new_job g5.ok e6
  have g46 := g5.trans g6
  refine (takecounts_ok (T := (· = H3.next)) (S := fun xs Hx => Hx.get H3.next = some (.cells (askC kd se (fun i => xs.getD i 0) []) 0)) (ps := [(H3.next, 2), (H3.next, 4)]) g6.ok (g46.get _ _ not_false r3) t3.1 hs (g6.get _ _ not_false b5) b6 (by simp) (by omega) (show ¬ H5.next = H3.next by omega) (show ¬ b = H3.next by omega) ?_ ?_).mono ?_
  · intro xs Hx hS okx hx x
    simp only [List.length_cons, List.length_nil] at hx
    have hu : (fun i => (xs ++ [x]).getD i 0) = upd (fun i => xs.getD i 0) xs.length x := by funext i; exact getD_app
    rw [hu]
    rcases (show xs.length = 0 ∨ xs.length = 1 by omega) with h | h
    · obtain ⟨Hy, sy, py, my, _⟩ := part_ok (o := 2) (vs := [.int .i64 x]) (cs' := askC kd se (upd (fun i => xs.getD i 0) 0 x) []) hS rfl (by simp [askC]) rfl okx
      refine ⟨Hy, ?_, by rw [h]; exact py, my⟩
      simp only [h]; exact sy
    · obtain ⟨Hy, sy, py, my, _⟩ := part_ok (o := 4) (vs := [.int .i64 x]) (cs' := askC kd se (upd (fun i => xs.getD i 0) 1 x) []) hS rfl (by simp [askC]) rfl okx
      refine ⟨Hy, ?_, by rw [h]; exact py, my⟩
      simp only [h]; exact sy
  · intro xs Hx Hy hS hm
    exact hm.get _ _ (by omega) hS
  rintro _ H7 ⟨rfl, xs, q7, hx, hc, b7, r7, t7, m7⟩
  refine ⟨rfl, (xtxt_ok m7.ok r7 t7.1 hs).mono ?_⟩
  rintro _ H8 ⟨rfl, r8, m8⟩
  have t8 := tk_txtq t7.1
  have hl := (rTxt_ok t7.1).2
  obtain ⟨H9, s9, b9, m9, n9⟩ := part_ok (o := 3) (vs := [.string ⟨⟨(rTxt s q7).1⟩⟩]) (cs' := askC kd se (fun i => xs.getD i 0) (rTxt s q7).1) (m8.get _ _ (by omega) b7) rfl (by simp [askC]) rfl m8.ok
  have n7 := m7.next
  have n8 := m8.next
  have z9 := m9.get _ _ (show ¬ H.next = H3.next by omega) (m8.get _ _ (by omega) (m7.get _ _ (by omega) (g46.get _ _ not_false b3)))
  obtain ⟨H10, s10, b10, m10, n10⟩ := fill_ok (vs := askC kd se (fun i => xs.getD i 0) (rTxt s q7).1) z9 rfl rfl m9.ok
  refine ⟨_, rfl, H9, s9, _, _, _, _, _, cell_of b9 rfl, cell_of b9 rfl, cell_of b9 rfl, cell_of b9 rfl, cell_of b9 rfl, H10, s10, _, _, _, _, _, cell_of b10 rfl, cell_of b10 rfl, cell_of b10 rfl, cell_of b10 rfl, cell_of b10 rfl, kd, se, fun i => xs.getD i 0, (rTxt s q7).1, (rTxt s q7).2, rfl, ?_, hI, ?_, hl, m10.get _ _ (by omega) (m9.get _ _ (by omega) r8), ?_, ?_⟩
  · unfold Cn; omega
  · intro i
    show Cn (xs.getD i 0)
    rcases Nat.lt_or_ge i xs.length with h | h
    · have : xs.getD i 0 = xs[i] := by simp [h]
      rw [this]; exact hc _ (List.getElem_mem h)
    · have : xs.getD i 0 = 0 := by simp [List.getElem?_eq_none h]
      rw [this]; unfold Cn; omega
  · rw [askB_f (f := fun i => xs.getD i 0)]
    have hx2 : xs.length = 2 := hx
    rw [cnts_f, hx2] at t7
    have := t2.trans (t3.trans (t7.trans t8))
    rw [hkd]; simpa using this
  · have a1 : Mod (· = b) H H6 := ((g1.le (fun _ hf _ => hf.elim) ok).trans m23).add g46
    have a2 : Mod (· = b) H H8 := (a1.ext m7 ok fun x hx => by rcases hx with rfl | rfl; exact .inl rfl; exact .inr (by omega)).trans m8
    exact (a2.ext m9 ok fun x hx => .inr (by omega)).ext m10 ok fun x hx => .inr (by omega)
set_option maxHeartbeats 1000000 in
theorem xtold_ok (ok : Ok H) (hr : Rd H b s q.1 q.2) (hp : AtOk s q) (hs : s.length ≤ 4611686018427387904) :
    FW Ee F_serve_takeTold [.pointer (some ⟨b, 0, none⟩)] H fun r H' => ∃ kd se f k er st a l c vs q', r = .agg ⟨tldC kd se f (f 1) k er st a l c⟩ ∧ Cn kd ∧ I64 se ∧ (∀ i, Cn (f i)) ∧ Cn k ∧ Cn er ∧ Cn st ∧ SlP (fun x => H.next ≤ x ∧ x < H'.next) H' a l vs ∧ vs.length ≤ 256 ∧ (∀ x ∈ vs, I64 x.1 ∧ I64 x.2) ∧ Rd H' b s q'.1 q'.2 ∧ Tk s q q' (toldB kd se f k er st vs) ∧ Mod (· = b) H H' := by
  have hbl := ok.lt hr
  refine fw_serve_takeTold ?_
  intro H1 e1
  obtain ⟨g1, b1, n1⟩ := new_job ok e1
  refine (xcnt_ok 3 (by omega) g1.ok (g1.get _ _ not_false hr) hp hs).mono ?_
  rintro _ H2 ⟨rfl, r2, m2⟩
  have t2 := tk_cntq (m := 3) hp
  have h2 := (rCnt_ok (m := 3) hp).2
  refine ⟨_, rfl, (xsig_ok m2.ok r2 t2.1 hs).mono ?_⟩
  rintro _ H3 ⟨rfl, r3, m3⟩
  have t3 := tk_sigq t2.1
  obtain ⟨kd, hkd⟩ : ∃ kd : Int, kd = (((rCnt s 3 q).1 : Nat) : Int) := ⟨_, rfl⟩
  obtain ⟨se, hse⟩ : ∃ se, se = (rSig s (rCnt s 3 q).2).1 := ⟨_, rfl⟩
  have hI := (rSig_ok t2.1).2
  rw [← hse] at hI t3 ⊢
  rw [← hkd]
  have m23 := m2.trans m3
  have b3 := m23.get _ _ (by omega) b1
  have n3 := m23.next
  refine ⟨_, rfl, ?_⟩
  intro H4 e4
  obtain ⟨H5, e5, b5, g5, n5⟩ := fresh_store (vs := tldC kd se (fun _ => 0) 0 0 0 0 none 0 0) e4 rfl rfl m3.ok
  refine ⟨H5, e5, ?_⟩
  intro H6 e6
  obtain ⟨g6, c6, n6⟩ := new_job g5.ok e6
  intro H7 e7
  obtain ⟨g7, p7, n7⟩ := new_job g6.ok e7
  have g47 := (g5.trans g6).trans g7
  refine (takecounts_ok (T := fun x => x = H3.next ∨ x = H5.next) (S := fun xs Hx => Hx.get H3.next = some (.cells (tldC kd se (fun i => xs.getD i 0) 0 0 0 0 none 0 0) 0) ∧ Hx.get H5.next = some (.cells [.int .i64 (xs.getD 1 0)] 0)) (ps := [(H3.next, 2), (H5.next, 0), (H3.next, 4), (H3.next, 5), (H3.next, 6), (H3.next, 7), (H3.next, 8)]) g7.ok (g47.get _ _ not_false r3) t3.1 hs ⟨(g6.trans g7).get _ _ not_false b5, g7.get _ _ not_false c6⟩ p7 (by simp) (by omega) (show ¬ (H6.next = H3.next ∨ H6.next = H5.next) by omega) (show ¬ (b = H3.next ∨ b = H5.next) by omega) ?_ ?_).mono ?_
  · intro xs Hx hS okx hx x
    simp only [List.length_cons, List.length_nil] at hx
    have hu : (fun i => (xs ++ [x]).getD i 0) = upd (fun i => xs.getD i 0) xs.length x := by funext i; exact getD_app
    have hu1 : (xs ++ [x]).getD 1 0 = upd (fun i => xs.getD i 0) xs.length x 1 := getD_app
    rw [hu, hu1]
    have one : ∀ (k o : Nat), xs.length = k → k ≠ 1 → o + 1 ≤ 13 → lset (tldC kd se (fun i => xs.getD i 0) 0 0 0 0 none 0 0) o [.int .i64 x] = tldC kd se (upd (fun i => xs.getD i 0) k x) 0 0 0 0 none 0 0 →
        ∃ H2, storeCellsv Hx H3.next o [.int .i64 x] = some H2 ∧ (H2.get H3.next = some (.cells (tldC kd se (upd (fun i => xs.getD i 0) xs.length x) 0 0 0 0 none 0 0) 0) ∧ H2.get H5.next = some (.cells [.int .i64 (upd (fun i => xs.getD i 0) xs.length x 1)] 0)) ∧ Mod (fun x => x = H3.next ∨ x = H5.next) Hx H2 := by
      intro k o hk h1 ho he
      obtain ⟨Hy, sy, py, my, _⟩ := part_ok (o := o) (vs := [.int .i64 x]) hS.1 he (by simp [tldC]; omega) rfl okx
      refine ⟨Hy, sy, ⟨by rw [hk]; exact py, ?_⟩, my.le (fun _ h _ => .inl h) okx⟩
      have : upd (fun i => xs.getD i 0) xs.length x 1 = xs.getD 1 0 := by unfold upd; rw [if_neg (by omega)]
      rw [this]
      exact my.get _ _ (by omega) hS.2
    rcases (show xs.length = 0 ∨ xs.length = 1 ∨ xs.length = 2 ∨ xs.length = 3 ∨ xs.length = 4 ∨ xs.length = 5 ∨ xs.length = 6 by omega) with h | h | h | h | h | h | h
    · obtain ⟨Hy, sy, rest⟩ := one 0 2 h (by omega) (by omega) rfl
      refine ⟨Hy, ?_, rest⟩
      simp only [h]; exact sy
    · obtain ⟨Hy, sy, py, my, _⟩ := fill_ok (vs := [.int .i64 x]) hS.2 rfl rfl okx
      refine ⟨Hy, by simp only [h]; exact sy, ⟨?_, ?_⟩, my.le (fun _ h _ => .inr h) okx⟩
      · have e : tldC kd se (upd (fun i => xs.getD i 0) xs.length x) 0 0 0 0 none 0 0 = tldC kd se (fun i => xs.getD i 0) 0 0 0 0 none 0 0 := by rw [h]; rfl
        rw [e]; exact my.get _ _ (by omega) hS.1
      · rw [h]; exact py
    · obtain ⟨Hy, sy, rest⟩ := one 2 4 h (by omega) (by omega) rfl
      refine ⟨Hy, ?_, rest⟩
      simp only [h]; exact sy
    · obtain ⟨Hy, sy, rest⟩ := one 3 5 h (by omega) (by omega) rfl
      refine ⟨Hy, ?_, rest⟩
      simp only [h]; exact sy
    · obtain ⟨Hy, sy, rest⟩ := one 4 6 h (by omega) (by omega) rfl
      refine ⟨Hy, ?_, rest⟩
      simp only [h]; exact sy
    · obtain ⟨Hy, sy, rest⟩ := one 5 7 h (by omega) (by omega) rfl
      refine ⟨Hy, ?_, rest⟩
      simp only [h]; exact sy
    · obtain ⟨Hy, sy, rest⟩ := one 6 8 h (by omega) (by omega) rfl
      refine ⟨Hy, ?_, rest⟩
      simp only [h]; exact sy
  · intro xs Hx Hy hS hm
    exact ⟨hm.get _ _ (by omega) hS.1, hm.get _ _ (by omega) hS.2⟩
  rintro _ H8 ⟨rfl, xs, q8, hx, hc, ⟨b8, c8⟩, r8, t8, m8⟩
  obtain ⟨f, hf⟩ : ∃ f : Nat → Int, f = fun i => xs.getD i 0 := ⟨_, rfl⟩
  have hfc : ∀ i, Cn (f i) := by
    intro i
    rw [hf]
    rcases Nat.lt_or_ge i xs.length with h | h
    · have : xs.getD i 0 = xs[i] := by simp [h]
      simp only [this]; exact hc _ (List.getElem_mem h)
    · have : xs.getD i 0 = 0 := by simp [List.getElem?_eq_none h]
      simp only [this]; unfold Cn; omega
  have hx7 : xs.length = 7 := hx
  rw [cnts_f, hx7, ← hf] at t8
  rw [← hf] at b8
  have c8 : H8.get H5.next = some (.cells [.int .i64 (f 1)] 0) := by rw [hf]; exact c8
  obtain ⟨H9, s9, b9, m9, n9⟩ := part_ok (o := 3) (vs := [.int .i64 (f 1)]) (cs' := tldC kd se f (f 1) 0 0 0 none 0 0) b8 rfl (by simp [tldC]) rfl m8.ok
  have n8 := m8.next
  refine ⟨rfl, _, cell_of c8 rfl, H9, s9, (xtxt_ok m9.ok (m9.get _ _ (by omega) r8) t8.1 hs).mono ?_⟩
  rintro _ H10 ⟨rfl, r10, m10⟩
  have t10 := tk_txtq t8.1
  have hl10 := (rTxt_ok t8.1).2
  have n10 := m10.next
  have b10 := m10.get _ _ (by omega) b9
  have A7 : Mod (· = b) H H7 := ((g1.le (fun _ hf _ => hf.elim) ok).trans m23).add g47
  have A10 : Mod (· = b) H H10 := ((A7.ext m8 ok fun x hx => by rcases hx with rfl | rfl | rfl; exact .inl rfl; exact .inr (by omega); exact .inr (by omega)).ext m9 ok fun x hx => .inr (by omega)).trans m10
  have z10 := m10.get _ _ (by omega) (m9.get _ _ (show ¬ H.next = H3.next by omega) (m8.get _ _ (by omega) (g47.get _ _ not_false b3)))
  refine ⟨_, rfl, decode_vc (s := (rTxt s q8).1) m10.ok (by omega) ?_⟩
  intro k er st a l c e H11 g11 hor
  have n11 := g11.next
  refine ⟨_, _, _, _, _, _, _, rfl, ?_⟩
  intro H12 e12
  obtain ⟨H13, e13, b13, g13, n13⟩ := fresh_store (vs := [.int .i64 k, .int .i64 er, .int .i64 st, .slice a l c]) e12 rfl rfl g11.ok
  have g1113 := g11.trans g13
  have r13 := g1113.get _ _ not_false r10
  -- the end
  have fin : ∀ {Hx : AH} {qx : RSt} {vs : List (Int × Int)}, Mod (· = b) H13 Hx → Rd Hx b s qx.1 qx.2 → Tk s q qx (toldB kd se f k er st vs) → Cn k → Cn er → Cn st → SlP (fun x => H10.next ≤ x ∧ x < H11.next) Hx a l vs → vs.length ≤ 256 → (∀ x ∈ vs, I64 x.1 ∧ I64 x.2) →
      ∃ H16, storeCellsv Hx H3.next 9 [.int .i64 k, .int .i64 er, .int .i64 st, .slice a l c] = some H16 ∧ H16.get H3.next = some (.cells (tldC kd se f (f 1) k er st a l c) 0) ∧ ∃ H17, storeCellsv H16 H.next 0 (tldC kd se f (f 1) k er st a l c) = some H17 ∧ H17.get H.next = some (.cells (tldC kd se f (f 1) k er st a l c) 0) ∧
        ∃ kd' se' f' k' er' st' a' l' c' vs q', (Value.agg ⟨tldC kd se f (f 1) k er st a l c⟩) = .agg ⟨tldC kd' se' f' (f' 1) k' er' st' a' l' c'⟩ ∧ Cn kd' ∧ I64 se' ∧ (∀ i, Cn (f' i)) ∧ Cn k' ∧ Cn er' ∧ Cn st' ∧ SlP (fun x => H.next ≤ x ∧ x < H17.next) H17 a' l' vs ∧ vs.length ≤ 256 ∧ (∀ x ∈ vs, I64 x.1 ∧ I64 x.2) ∧ Rd H17 b s q'.1 q'.2 ∧ Tk s q q' (toldB kd' se' f' k' er' st' vs) ∧ Mod (· = b) H H17 := by
    intro Hx qx vs mx rx tx hk her hst hV hvl hvI
    have nx := mx.next
    obtain ⟨H16, s16, b16, m16, n16⟩ := part_ok (o := 9) (vs := [.int .i64 k, .int .i64 er, .int .i64 st, .slice a l c]) (cs' := tldC kd se f (f 1) k er st a l c) (mx.get _ _ (by omega) (g1113.get _ _ not_false b10)) rfl (by simp [tldC]) rfl mx.ok
    obtain ⟨H17, s17, b17, m17, n17⟩ := fill_ok (vs := tldC kd se f (f 1) k er st a l c) (m16.get _ _ (by omega) (mx.get _ _ (by omega) (g1113.get _ _ not_false z10))) rfl rfl m16.ok
    refine ⟨H16, s16, b16, H17, s17, b17, kd, se, f, k, er, st, a, l, c, vs, qx, rfl, by unfold Cn; omega, hI, hfc, hk, her, hst, ?_, hvl, hvI, m17.get _ _ (by omega) (m16.get _ _ (by omega) rx), tx, ?_⟩
    · have v16 := (hV.mod loc_pair m16 fun x hx => by omega).mod loc_pair m17 fun x hx => by omega
      exact v16.weak (fun x hx _ => ⟨by omega, by omega⟩) fun bb o x hh => cell_lt m17.ok hh.1
    · exact ((((A10.add g1113).trans mx).ext m16 ok fun x hx => .inr (by omega)).ext m17 ok fun x hx => .inr (by omega))
  have T10 := t2.trans (t3.trans (t8.trans t10))
  refine ⟨H13, e13, (rerr_ok r13).mono ?_⟩
  rintro _ _ ⟨rfl, rfl⟩
  refine ⟨_, rfl, cond_intro (fun he => ?_) (fun he => ?_)⟩
  · have he : (rTxt s q8).2.2 = 0 := by simpa using he
    refine (rfail_ok g13.ok r13 e).mono ?_
    rintro _ H15 ⟨rfl, r15, m15⟩
    rw [if_pos he] at r15
    have b15 := m15.get _ _ (by omega) b13
    have done : ∀ {vs : List (Int × Int)}, Tk s q ((rTxt s q8).2.1, e) (toldB kd se f k er st vs) → Cn k → Cn er → Cn st → SlP (fun x => H10.next ≤ x ∧ x < H11.next) H15 a l vs → vs.length ≤ 256 → (∀ x ∈ vs, I64 x.1 ∧ I64 x.2) → _ := fun t1 t2 t3 t4 t5 t6 t7 => fin (qx := ((rTxt s q8).2.1, e)) m15 r15 t1 t2 t3 t4 t5 t6 t7
    rcases hor with ⟨h0, o, hL, hso, hk, her, hst, hV⟩ | ⟨h0, rfl, rfl, rfl, rfl, rfl, rfl, _⟩
    · obtain ⟨H16, s16, b16, H17, s17, b17, rest⟩ := done (vs := o.vals) (by
        have hq : ((rTxt s q8).2.1, e) = (rTxt s q8).2 := by rw [h0, ← he]
        rw [hq]
        have e1 : outA k er st o.vals = outB o := by rw [hk, her, hst]; rfl
        unfold toldB
        rw [e1, ← hso, hkd]
        simpa using T10) (by rw [hk]; have := hL.kind; unfold Cn; omega) (by rw [her]; have := hL.err; unfold Cn; omega) (by rw [hst]; have := hL.steps; unfold Cn; omega)
        ((hV.grow loc_pair g13).mod loc_pair m15 fun x hx => by omega) hL.len hL.each
      exact ⟨rfl, _, _, _, _, _, _, cell_of b15 rfl, cell_of b15 rfl, cell_of b15 rfl, cell_of b15 rfl, H16, s16, _, _, _, _, _, _, _, _, _, _, _, _, _, _, _, cell_of b16 rfl, cell_of b16 rfl, cell_of b16 rfl, cell_of b16 rfl, cell_of b16 rfl, cell_of b16 rfl, cell_of b16 rfl, cell_of b16 rfl, cell_of b16 rfl, cell_of b16 rfl, cell_of b16 rfl, cell_of b16 rfl, cell_of b16 rfl, H17, s17, _, _, _, _, _, _, _, _, _, _, _, _, _, _, _, cell_of b17 rfl, cell_of b17 rfl, cell_of b17 rfl, cell_of b17 rfl, cell_of b17 rfl, cell_of b17 rfl, cell_of b17 rfl, cell_of b17 rfl, cell_of b17 rfl, cell_of b17 rfl, cell_of b17 rfl, cell_of b17 rfl, cell_of b17 rfl, rest⟩
    · obtain ⟨H16, s16, b16, H17, s17, b17, rest⟩ := done (vs := []) (T10.any rfl h0) (by unfold Cn; omega) (by unfold Cn; omega) (by unfold Cn; omega) ⟨rfl, fun h => absurd h (Nat.lt_irrefl 0), fun i hi => absurd hi (Nat.not_lt_zero i)⟩ (by simp) (fun _ h => (by cases h))
      exact ⟨rfl, _, _, _, _, _, _, cell_of b15 rfl, cell_of b15 rfl, cell_of b15 rfl, cell_of b15 rfl, H16, s16, _, _, _, _, _, _, _, _, _, _, _, _, _, _, _, cell_of b16 rfl, cell_of b16 rfl, cell_of b16 rfl, cell_of b16 rfl, cell_of b16 rfl, cell_of b16 rfl, cell_of b16 rfl, cell_of b16 rfl, cell_of b16 rfl, cell_of b16 rfl, cell_of b16 rfl, cell_of b16 rfl, cell_of b16 rfl, H17, s17, _, _, _, _, _, _, _, _, _, _, _, _, _, _, _, cell_of b17 rfl, cell_of b17 rfl, cell_of b17 rfl, cell_of b17 rfl, cell_of b17 rfl, cell_of b17 rfl, cell_of b17 rfl, cell_of b17 rfl, cell_of b17 rfl, cell_of b17 rfl, cell_of b17 rfl, cell_of b17 rfl, cell_of b17 rfl, rest⟩
  · have he : (rTxt s q8).2.2 ≠ 0 := by simpa using he
    rcases hor with ⟨h0, o, hL, hso, hk, her, hst, hV⟩ | ⟨h0, rfl, rfl, rfl, rfl, rfl, rfl, _⟩
    · obtain ⟨H16, s16, b16, H17, s17, b17, rest⟩ := fin (qx := (rTxt s q8).2) (vs := o.vals) (.refl g13.ok) r13 (T10.vac he) (by rw [hk]; have := hL.kind; unfold Cn; omega) (by rw [her]; have := hL.err; unfold Cn; omega) (by rw [hst]; have := hL.steps; unfold Cn; omega) (hV.grow loc_pair g13) hL.len hL.each
      exact ⟨_, _, _, _, _, _, cell_of b13 rfl, cell_of b13 rfl, cell_of b13 rfl, cell_of b13 rfl, H16, s16, _, _, _, _, _, _, _, _, _, _, _, _, _, _, _, cell_of b16 rfl, cell_of b16 rfl, cell_of b16 rfl, cell_of b16 rfl, cell_of b16 rfl, cell_of b16 rfl, cell_of b16 rfl, cell_of b16 rfl, cell_of b16 rfl, cell_of b16 rfl, cell_of b16 rfl, cell_of b16 rfl, cell_of b16 rfl, H17, s17, _, _, _, _, _, _, _, _, _, _, _, _, _, _, _, cell_of b17 rfl, cell_of b17 rfl, cell_of b17 rfl, cell_of b17 rfl, cell_of b17 rfl, cell_of b17 rfl, cell_of b17 rfl, cell_of b17 rfl, cell_of b17 rfl, cell_of b17 rfl, cell_of b17 rfl, cell_of b17 rfl, cell_of b17 rfl, rest⟩
    · obtain ⟨H16, s16, b16, H17, s17, b17, rest⟩ := fin (qx := (rTxt s q8).2) (vs := []) (.refl g13.ok) r13 (T10.vac he) (by unfold Cn; omega) (by unfold Cn; omega) (by unfold Cn; omega) ⟨rfl, fun h => absurd h (Nat.lt_irrefl 0), fun i hi => absurd hi (Nat.not_lt_zero i)⟩ (by simp) (fun _ h => (by cases h))
      exact ⟨_, _, _, _, _, _, cell_of b13 rfl, cell_of b13 rfl, cell_of b13 rfl, cell_of b13 rfl, H16, s16, _, _, _, _, _, _, _, _, _, _, _, _, _, _, _, cell_of b16 rfl, cell_of b16 rfl, cell_of b16 rfl, cell_of b16 rfl, cell_of b16 rfl, cell_of b16 rfl, cell_of b16 rfl, cell_of b16 rfl, cell_of b16 rfl, cell_of b16 rfl, cell_of b16 rfl, cell_of b16 rfl, cell_of b16 rfl, H17, s17, _, _, _, _, _, _, _, _, _, _, _, _, _, _, _, cell_of b17 rfl, cell_of b17 rfl, cell_of b17 rfl, cell_of b17 rfl, cell_of b17 rfl, cell_of b17 rfl, cell_of b17 rfl, cell_of b17 rfl, cell_of b17 rfl, cell_of b17 rfl, cell_of b17 rfl, cell_of b17 rfl, cell_of b17 rfl, rest⟩
end
end Go.Proofs.Cx
