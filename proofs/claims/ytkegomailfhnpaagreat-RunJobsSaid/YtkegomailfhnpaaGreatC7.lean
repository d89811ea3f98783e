/- Jobs are taken. Jobs are taken, as the document has it. RunJobs: the law, as formulas have it. -/
import Derived.Test.YtkegomailfhnpaaGreatC6
namespace Go.Ev
open Go
/-- the error of bytes that may be a job's -/
noncomputable def decE (s : List UInt8) : Int := rEnd s (rJob s (0, 0)).2
def intC (x : Int) : List Value := [.int .i64 x]
end Go.Ev
namespace Go.Proofs.Cx
open Go Go.Ev
theorem int_lt {H : AH} (ok : Ok H) (b o : Nat) (x : Int) (h : PInt .i64 H b o x) : b < H.next := cell_lt ok h
theorem own_sli {F : Nat → Prop} {H : AH} {a : Option Addr} {l c : Nat} {ps : List Int} (h : Own H 1 a l c (ps.flatMap intC)) (hF : ∀ x, a = some x → F x.block) : SlI F H a l ps :=
  h.sl (fun _ => rfl) (by decide) hF fun _ _ _ _ k => k 0 _ rfl
theorem own_sli_len {H : AH} {a : Option Addr} {l c : Nat} {ps : List Int} (h : Own H 1 a l c (ps.flatMap intC)) : l = ps.length := by
  have := h.len
  rw [flatMap_len (sz := 1) (fun _ => rfl)] at this
  omega
theorem slv_weak {F F' : Nat → Prop} {H : AH} {a : Option Addr} {l : Nat} {G : List Vtx} (ok : Ok H) (h : SlV F H a l G) (k : ∀ b, F b → b < H.next → F' b) : SlV F' H a l G := by
  refine ⟨h.len, fun hp => ⟨(h.base hp).1, k _ (h.base hp).2 ?_⟩, fun i hi => ?_⟩
  · obtain ⟨c1, _⟩ := h.cells 0 (by have := h.len; omega)
    exact cell_lt ok c1
  · obtain ⟨c1, c2, ea, el, ec, c3, c4⟩ := h.cells i hi
    exact ⟨c1, c2, ea, el, ec, c3, c4.weak k (edge_lt ok)⟩
theorem ret_job {Q : Value → AH → Prop} {H : AH} {vb rb : Nat} {j : JobW} {a : Option Addr} {l c : Nat} {pa : Option Addr} {pl pc : Nat} {x1 x2 x3 x4 x5 x6 : Value} (ok : Ok H) (hv : H.get vb = some (.cells (jC j a l c pa pl pc) 0)) (hr : H.get rb = some (.cells [x1, x2, x3, x4, x5, x6] 0))
    (hQ : ∀ H3, Mod (· = rb) H H3 → Q (jV j a l c pa pl pc) H3) :
    ∃ (t1 : List UInt8) (t2a : Option Addr) (t2l : Nat) (t2c : Nat) (t3a : Option Addr) (t3l : Nat) (t3c : Nat) (t4 : Int) (t5 : Int) (t6 : Int),
      H.cell vb (0 + 0) = some (.string ⟨⟨t1⟩⟩) ∧ H.cell vb (0 + 1) = some (.slice t2a t2l t2c) ∧ H.cell vb (0 + 2) = some (.slice t3a t3l t3c) ∧ H.cell vb (0 + 3) = some (.int .i64 t4) ∧ H.cell vb (0 + 4) = some (.int .i64 t5) ∧ H.cell vb (0 + 5) = some (.int .i64 t6) ∧
      ∃ (H3 : AH), storeCellsv H rb 0 [.string ⟨⟨t1⟩⟩, .slice t2a t2l t2c, .slice t3a t3l t3c, .int .i64 t4, .int .i64 t5, .int .i64 t6] = some H3 ∧
      ∃ (r1 : List UInt8) (r2a : Option Addr) (r2l : Nat) (r2c : Nat) (r3a : Option Addr) (r3l : Nat) (r3c : Nat) (r4 : Int) (r5 : Int) (r6 : Int),
      H3.cell rb (0 + 0) = some (.string ⟨⟨r1⟩⟩) ∧ H3.cell rb (0 + 1) = some (.slice r2a r2l r2c) ∧ H3.cell rb (0 + 2) = some (.slice r3a r3l r3c) ∧ H3.cell rb (0 + 3) = some (.int .i64 r4) ∧ H3.cell rb (0 + 4) = some (.int .i64 r5) ∧ H3.cell rb (0 + 5) = some (.int .i64 r6) ∧
      Q (.agg ⟨[.string ⟨⟨r1⟩⟩, .slice r2a r2l r2c, .slice r3a r3l r3c, .int .i64 r4, .int .i64 r5, .int .i64 r6]⟩) H3 := by
  have k := get_set_self H rb (.cells (lset [x1, x2, x3, x4, x5, x6] 0 (jC j a l c pa pl pc)) 0)
  exact ⟨_, _, _, _, _, _, _, _, _, _, cell_of hv rfl, cell_of hv rfl, cell_of hv rfl, cell_of hv rfl, cell_of hv rfl, cell_of hv rfl, _, store_of (o := 0) hr (by simp) rfl,
    _, _, _, _, _, _, _, _, _, _, cell_of k rfl, cell_of k rfl, cell_of k rfl, cell_of k rfl, cell_of k rfl, cell_of k rfl, hQ _ (Mod.set ok hr _)⟩
abbrev zJob : List Value := [.string ⟨⟨[]⟩⟩, .slice none 0 0, .slice none 0 0, .int .i64 0, .int .i64 0, .int .i64 0]
section
variable {H : AH} {b : Nat} {s : List UInt8} {q : RSt}
theorem xjob_ok (ok : Ok H) (h : Rd H b s q.1 q.2) (hp : AtOk s q) (hs : s.length ≤ 4611686018427387904) :
    FW Ee F_run_TakeJob [.pointer (some ⟨b, 0, none⟩)] H fun r H' => ∃ a l c pa pl pc, r = jV (rJob s q).1 a l c pa pl pc ∧ SlV (fun x => H.next ≤ x ∧ x < H'.next) H' a l (rJob s q).1.graph ∧ SlI (fun x => H.next ≤ x ∧ x < H'.next) H' pa pl (rJob s q).1.params ∧
      Rd H' b s (rJob s q).2.1 (rJob s q).2.2 ∧ Mod (· = b) H H' := by
  have hbl := ok.lt h
  refine fw_run_TakeJob ?_
  intro H1 e1
  obtain ⟨g1, z1, n1⟩ := new_job ok e1
  have p1 := rTxt_ok hp
  have p2 := rGraph_ok p1.1
  have p3 := rCnt_ok (m := 4) p2.1
  refine (xtxt_ok g1.ok (h.mod g1 id) hp hs).mono ?_
  rintro _ H2 ⟨rfl, r2, m2⟩
  have n2 := m2.next
  refine ⟨_, rfl, (xgraph_ok m2.ok r2 p1.1 hs).mono ?_⟩
  rintro _ H3 ⟨a, l, c, rfl, hG, r3, m3⟩
  have n3 := m3.next
  refine ⟨_, _, _, rfl, ?_⟩
  intro H4 e4
  obtain ⟨H5, e5, b5, g5, n5⟩ := fresh_store (vs := [.string ⟨⟨(rTxt s q).1⟩⟩, .slice a l c, .slice none 0 0, .int .i64 0, .int .i64 0, .int .i64 0]) e4 rfl rfl m3.ok
  have m13 := m2.trans m3
  refine ⟨H5, e5, (xcnt_ok 4 (by omega) g5.ok (r3.mod g5 id) p2.1 hs).mono ?_⟩
  rintro _ H6 ⟨rfl, r6, m6⟩
  have n6 := m6.next
  have b6 := m6.get _ _ (show ¬ H3.next = b by omega) b5
  have z6 := m6.get _ _ (show ¬ H.next = b by omega) (g5.get _ _ id (m13.get _ _ (show ¬ H.next = b by omega) z1))
  have mm : Mod (· = b) H H6 := (((g1.le (fun _ h _ => h.elim) ok).trans m13).add g5).trans m6
  have hG6 : SlV (fun x => H1.next ≤ x ∧ x < H3.next) H6 a l (rGraph s (rTxt s q).2).1 :=
    ((slv_weak m3.ok hG (F' := fun x => H1.next ≤ x ∧ x < H3.next) fun x hx _ => ⟨by omega, hx.2⟩).grow loc_vtx g5).mod loc_vtx m6 fun x hx e => by omega
  obtain ⟨T, hT⟩ : ∃ T, T = rTxt s q := ⟨_, rfl⟩
  obtain ⟨Gq, hGq⟩ : ∃ Gq, Gq = rGraph s (rTxt s q).2 := ⟨_, rfl⟩
  obtain ⟨N, hN⟩ : ∃ N, N = (rCnt s 4 (rGraph s (rTxt s q).2).2).1 := ⟨_, rfl⟩
  obtain ⟨q6, hq6⟩ : ∃ q6, q6 = (rCnt s 4 (rGraph s (rTxt s q).2).2).2 := ⟨_, rfl⟩
  obtain ⟨P, hP⟩ : ∃ P, P = rMany (rSig s) N q6 := ⟨_, rfl⟩
  obtain ⟨A, hA⟩ : ∃ A, A = rCnt s 1000 P.2 := ⟨_, rfl⟩
  obtain ⟨B, hB⟩ : ∃ B, B = rCnt s 65536 A.2 := ⟨_, rfl⟩
  obtain ⟨C, hC⟩ : ∃ C, C = rCnt s 16 B.2 := ⟨_, rfl⟩
  obtain ⟨J, hJ⟩ : ∃ J : JobW, J = ⟨T.1, Gq.1, P.1, A.1, B.1, C.1⟩ := ⟨_, rfl⟩
  have hres : rJob s q = (J, if C.2.2 = 0 then (C.2.1, jchk J) else C.2) := by
    rw [hJ, hC, hB, hA, hP, hN, hq6, hGq, hT]; rfl
  have hJI := (rJob_ok hp).2.1
  rw [hres] at hJI ⊢
  rw [← hN, ← hq6] at p3
  rw [← hq6] at r6
  rw [← hN]
  rw [← hT] at b6
  rw [← hGq] at hG6
  have pP := rMany_ok (one := rSig s) (R := I64) (fun q h => rSig_ok h) (n := N) p3.1
  rw [← hP] at pP
  have pA := rCnt_ok (m := 1000) pP.1
  rw [← hA] at pA
  have pB := rCnt_ok (m := 65536) pA.1
  rw [← hB] at pB
  refine ⟨_, rfl, ?_⟩
  -- behind the parameters
  refine ⟨fun _ Hx => ∃ pa pl pc, Hx.get H3.next = some (.cells [.string ⟨⟨T.1⟩⟩, .slice a l c, .slice pa pl pc, .int .i64 0, .int .i64 0, .int .i64 0] 0) ∧ SlI (fun x => H3.next < x ∧ x < Hx.next) Hx pa pl P.1 ∧ Rd Hx b s P.2.1 P.2.2 ∧
      Hx.get H.next = some (.cells zJob 0) ∧ SlV (fun x => H1.next ≤ x ∧ x < H3.next) Hx a l Gq.1 ∧ Mod (· = b) H Hx ∧ H3.next < Hx.next, ?_, ?_⟩
  · refine ⟨fun m n4 Hb => ∃ (k : Nat) (ps : List Int) (q' : RSt) (pa : Option Addr) (pl pc : Nat), n4 = k ∧ k = m ∧ Rd Hb b s q'.1 q'.2 ∧ AtOk s q' ∧ Hb.get H3.next = some (.cells [.string ⟨⟨T.1⟩⟩, .slice a l c, .slice pa pl pc, .int .i64 0, .int .i64 0, .int .i64 0] 0) ∧ Own Hb 1 pa pl pc (ps.flatMap intC) ∧
        (∀ x, pa = some x → H6.next ≤ x.block) ∧ Hb.get H.next = some (.cells zJob 0) ∧ ps.length + k ≤ 4 ∧ ps ++ (rMany (rSig s) k q').1 = P.1 ∧ (rMany (rSig s) k q').2 = P.2 ∧ SlV (fun x => H1.next ≤ x ∧ x < H3.next) Hb a l Gq.1 ∧ Mod (· = b) H Hb ∧ H6.next ≤ Hb.next,
      ⟨_, N, [], q6, none, 0, 0, rfl, rfl, r6, p3.1, b6, Own.nil _ _, fun x e => (by cases e), z6, by simpa using p3.2, by rw [hP]; rfl, by rw [hP], hG6, mm, Nat.le_refl _⟩, ?_⟩
    rintro m n4 Hb ⟨k, ps, q', pa, pl, pc, rfl, rfl, hr, hat, hv, hO, hfar, hz, hlen, hl1, hl2, hg, hm, hn⟩
    have hl := own_sli_len hO
    have fin : (q'.2 ≠ 0 ∨ k = 0) → ∃ pa pl pc, Hb.get H3.next = some (.cells [.string ⟨⟨T.1⟩⟩, .slice a l c, .slice pa pl pc, .int .i64 0, .int .i64 0, .int .i64 0] 0) ∧ SlI (fun x => H3.next < x ∧ x < Hb.next) Hb pa pl P.1 ∧ Rd Hb b s P.2.1 P.2.2 ∧
        Hb.get H.next = some (.cells zJob 0) ∧ SlV (fun x => H1.next ≤ x ∧ x < H3.next) Hb a l Gq.1 ∧ Mod (· = b) H Hb ∧ H3.next < Hb.next := by
      intro h
      rw [rMany_stop h] at hl1 hl2
      rw [List.append_nil] at hl1
      refine ⟨pa, pl, pc, hv, ?_, by rw [← hl2]; exact hr, hz, hg, hm, by omega⟩
      rw [← hl1]
      exact own_sli hO fun x ex => ⟨by have := hfar x ex; omega, own_lt hO hm.ok ex⟩
    refine cond_dec (fun hpos => ?_) (fun hz0 => fin (.inr (by omega)))
    refine (rerr_ok hr).mono ?_
    rintro _ _ ⟨rfl, rfl⟩
    refine ⟨_, rfl, cond_intro (fun he => ?_) (fun he => fin (.inl (by simpa using he)))⟩
    have he : q'.2 = 0 := by simpa using he
    have pa' := rSig_ok hat
    refine ⟨pa, pl, pc, cell_of hv rfl, (xsig_ok hm.ok hr hat hs).mono ?_⟩
    rintro _ H9 ⟨rfl, r9, m9⟩
    have n9 := m9.next
    refine ⟨_, rfl, ?_⟩
    intro H10 e10
    have g10 : Grow H9 H10 := e10 ▸ Grow.new m9.ok _
    have n10 : H10.next = H9.next + 1 := by rw [e10]; rfl
    have hO10 := (hO.mod m9 fun x hx y ey e => by have := hfar y ey; omega).mod g10 fun _ h => h.elim
    have hv10 := g10.get _ _ id (m9.get _ _ (show ¬ H3.next = b by omega) hv)
    obtain ⟨H11, k1, k2, k3, k4⟩ := hO10.append (n := 1) (bytes := 8) (new := [.int .i64 (rSig s q').1]) (x := .slice (some ⟨H9.next, 0, none⟩) 1 2) g10.ok rfl (takev_new e10 rfl) (by omega) rfl rfl (by omega) (by omega)
    have lowS : ∀ {x : Nat}, x < H6.next → ¬ (¬ Off pa x) := fun hx h => h fun z ez e => by have := hfar z ez; omega
    have hv11 := k4.get _ _ (lowS (by omega)) hv10
    have m12 := Mod.set k4.ok hv11 (.cells (lset [.string ⟨⟨T.1⟩⟩, .slice a l c, .slice pa pl pc, .int .i64 0, .int .i64 0, .int .i64 0] 2 [.slice (some ⟨H10.next, 0, none⟩) (pl + 1) (2 * (pl + 1) + 1)]) 0)
    refine ⟨_, _, _, H11, k1, _, store_of (o := 2) hv11 (by simp) rfl, cell_of hv10 rfl, ?_⟩
    intro t20 e20
    rw [wrap_i64 (by omega) (by omega)] at e20
    obtain ⟨k, rfl⟩ : ∃ k', k = k' + 1 := ⟨k - 1, by omega⟩
    have e20 : t20 = (k : Int) := by omega
    subst e20
    rw [rMany_go he] at hl1 hl2
    have up : ∀ {x : Nat} {o : AObj}, x < H6.next → x ≠ H3.next → x ≠ b → Hb.get x = some o → (H11.set H3.next (.cells (lset [.string ⟨⟨T.1⟩⟩, .slice a l c, .slice pa pl pc, .int .i64 0, .int .i64 0, .int .i64 0] 2 [.slice (some ⟨H10.next, 0, none⟩) (pl + 1) (2 * (pl + 1) + 1)]) 0)).get x = some o :=
      fun h1 h2 h3 h => m12.get _ _ h2 (k4.get _ _ (lowS h1) (g10.get _ _ id (m9.get _ _ h3 h)))
    refine ⟨k, by omega, k, ps ++ [(rSig s q').1], (rSig s q').2, _, _, _, rfl, rfl, ?_, pa'.1, get_set_self _ _ _, ?_, ?_, up (by omega) (by omega) (by omega) hz, by rw [List.length_append, List.length_singleton]; omega, ?_, hl2, ?_, ?_, ?_⟩
    · exact m12.get _ _ (by omega) (k4.get _ _ (lowS (by omega)) (g10.get _ _ id r9))
    · rw [List.flatMap_append, List.flatMap_singleton]
      exact k2.mod m12 fun x hx z ez e => by cases ez; simp only at e; omega
    · intro z ez
      cases ez
      simp only; omega
    · rw [List.append_assoc]; exact hl1
    · exact hg.keep loc_vtx fun x o hx ho => up (by omega) (by omega) (by omega) ho
    · refine (((hm.trans m9).add g10).ext k4 ok fun x hx => .inr ?_).ext m12 ok fun x hx => .inr (by omega)
      obtain ⟨z, ez, rfl⟩ := off_not hx
      have := hfar z ez
      omega
    · show H6.next ≤ H11.next
      omega
  · rintro _ H13 ⟨pa, pl, pc, hv, hPs, hr, hz, hg, hm, hn⟩
    refine (xcnt_ok 1000 (by omega) hm.ok hr pP.1 hs).mono ?_
    rintro _ H14 ⟨rfl, r14, m14⟩
    rw [← hA] at r14 ⊢
    refine ⟨_, rfl, (xcnt_ok 65536 (by omega) m14.ok r14 pA.1 hs).mono ?_⟩
    rintro _ H15 ⟨rfl, r15, m15⟩
    rw [← hB] at r15 ⊢
    refine ⟨_, rfl, (xcnt_ok 16 (by omega) m15.ok r15 pB.1 hs).mono ?_⟩
    rintro _ H16 ⟨rfl, r16, m16⟩
    rw [← hC] at r16 ⊢
    have m1416 := (m14.trans m15).trans m16
    have n16 := m1416.next
    have v16 := m1416.get _ _ (show ¬ H3.next = b by omega) hv
    refine ⟨_, rfl, _, store_of (o := 3) v16 (by simp) rfl, _, store_of (o := 4) (get_set_self _ _ _) (by simp [lset]) rfl, _, store_of (o := 5) (get_set_self _ _ _) (by simp [lset]) rfl, ?_⟩
    have m17 := Mod.set m16.ok v16 (.cells (lset [.string ⟨⟨T.1⟩⟩, .slice a l c, .slice pa pl pc, .int .i64 0, .int .i64 0, .int .i64 0] 3 [.int .i64 (A.1 : Int)]) 0)
    have v17 := get_set_self H16 H3.next (.cells (lset [.string ⟨⟨T.1⟩⟩, .slice a l c, .slice pa pl pc, .int .i64 0, .int .i64 0, .int .i64 0] 3 [.int .i64 (A.1 : Int)]) 0)
    obtain ⟨H17, h17⟩ : ∃ x, x = H16.set H3.next (.cells (lset [.string ⟨⟨T.1⟩⟩, .slice a l c, .slice pa pl pc, .int .i64 0, .int .i64 0, .int .i64 0] 3 [.int .i64 (A.1 : Int)]) 0) := ⟨_, rfl⟩
    rw [← h17] at m17 v17 ⊢
    have m18 := Mod.set m17.ok v17 (.cells (lset (lset [.string ⟨⟨T.1⟩⟩, .slice a l c, .slice pa pl pc, .int .i64 0, .int .i64 0, .int .i64 0] 3 [.int .i64 (A.1 : Int)]) 4 [.int .i64 (B.1 : Int)]) 0)
    have v18 := get_set_self H17 H3.next (.cells (lset (lset [.string ⟨⟨T.1⟩⟩, .slice a l c, .slice pa pl pc, .int .i64 0, .int .i64 0, .int .i64 0] 3 [.int .i64 (A.1 : Int)]) 4 [.int .i64 (B.1 : Int)]) 0)
    obtain ⟨H18, h18⟩ : ∃ x, x = H17.set H3.next (.cells (lset (lset [.string ⟨⟨T.1⟩⟩, .slice a l c, .slice pa pl pc, .int .i64 0, .int .i64 0, .int .i64 0] 3 [.int .i64 (A.1 : Int)]) 4 [.int .i64 (B.1 : Int)]) 0) := ⟨_, rfl⟩
    rw [← h18] at m18 v18 ⊢
    have m19 := Mod.set m18.ok v18 (.cells (lset (lset (lset [.string ⟨⟨T.1⟩⟩, .slice a l c, .slice pa pl pc, .int .i64 0, .int .i64 0, .int .i64 0] 3 [.int .i64 (A.1 : Int)]) 4 [.int .i64 (B.1 : Int)]) 5 [.int .i64 (C.1 : Int)]) 0)
    have v19 := get_set_self H18 H3.next (.cells (lset (lset (lset [.string ⟨⟨T.1⟩⟩, .slice a l c, .slice pa pl pc, .int .i64 0, .int .i64 0, .int .i64 0] 3 [.int .i64 (A.1 : Int)]) 4 [.int .i64 (B.1 : Int)]) 5 [.int .i64 (C.1 : Int)]) 0)
    obtain ⟨H19, h19⟩ : ∃ x, x = H18.set H3.next (.cells (lset (lset (lset [.string ⟨⟨T.1⟩⟩, .slice a l c, .slice pa pl pc, .int .i64 0, .int .i64 0, .int .i64 0] 3 [.int .i64 (A.1 : Int)]) 4 [.int .i64 (B.1 : Int)]) 5 [.int .i64 (C.1 : Int)]) 0) := ⟨_, rfl⟩
    rw [← h19] at m19 v19 ⊢
    have v19 : H19.get H3.next = some (.cells (jC J a l c pa pl pc) 0) := by rw [v19, hJ]; rfl
    have n19 : H19.next = H16.next := by rw [h19, h18, h17]; rfl
    have x19 : Mod (· = H3.next) H16 H19 := (m17.trans m18).trans m19
    have r19 := x19.get _ _ (show ¬ b = H3.next by omega) r16
    have z19 := x19.get _ _ (show ¬ H.next = H3.next by omega) (m1416.get _ _ (show ¬ H.next = b by omega) hz)
    have G19 : SlV (fun x => H1.next ≤ x ∧ x < H3.next) H19 a l J.graph := by
      rw [hJ]
      exact (hg.mod loc_vtx m1416 fun x hx e => by omega).mod loc_vtx x19 fun x hx e => by omega
    have P19 : SlI (fun x => H3.next < x ∧ x < H13.next) H19 pa pl J.params := by
      rw [hJ]
      exact (hPs.mod loc_int m1416 fun x hx e => by omega).mod loc_int x19 fun x hx e => by omega
    have mm19 : Mod (· = b) H H19 := (hm.trans m1416).ext x19 ok fun x hx => .inr (by omega)
    have r19' : Rd H19 b s C.2.1 C.2.2 := r19
    have last : ∀ {Hx : AH} {q'' : RSt}, Hx.get H3.next = some (.cells (jC J a l c pa pl pc) 0) → Hx.get H.next = some (.cells zJob 0) → SlV (fun x => H1.next ≤ x ∧ x < H3.next) Hx a l J.graph → SlI (fun x => H3.next < x ∧ x < H13.next) Hx pa pl J.params → Rd Hx b s q''.1 q''.2 → Mod (· = b) H Hx → H13.next ≤ Hx.next →
        q'' = (if C.2.2 = 0 then (C.2.1, jchk J) else C.2) → ∀ H3x, Mod (· = H.next) Hx H3x → ∃ a' l' c' pa' pl' pc', jV J a l c pa pl pc = jV J a' l' c' pa' pl' pc' ∧ SlV (fun x => H.next ≤ x ∧ x < H3x.next) H3x a' l' J.graph ∧ SlI (fun x => H.next ≤ x ∧ x < H3x.next) H3x pa' pl' J.params ∧
          Rd H3x b s (if C.2.2 = 0 then (C.2.1, jchk J) else C.2).1 (if C.2.2 = 0 then (C.2.1, jchk J) else C.2).2 ∧ Mod (· = b) H H3x := by
      intro Hx q'' hv hz hg hps hr hm hnx hq Hy my
      have ny := my.next
      refine ⟨a, l, c, pa, pl, pc, rfl, ?_, ?_, ?_, hm.ext my ok fun x hx => .inr (by omega)⟩
      · exact slv_weak my.ok (hg.mod loc_vtx my fun x hx e => by omega) fun x hx _ => ⟨by omega, by omega⟩
      · exact (hps.mod loc_int my fun x hx e => by omega).weak (fun x hx _ => ⟨by omega, by omega⟩) (int_lt my.ok)
      · rw [← hq]; exact my.get _ _ (by omega) hr
    refine (rerr_ok r19').mono ?_
    rintro _ _ ⟨rfl, rfl⟩
    refine ⟨_, rfl, cond_intro (fun he => ?_) (fun he => ?_)⟩
    · have he : C.2.2 = 0 := by simpa using he
      refine ⟨_, _, _, _, _, _, _, _, _, _, cell_of v19 rfl, cell_of v19 rfl, cell_of v19 rfl, cell_of v19 rfl, cell_of v19 rfl, cell_of v19 rfl, (check_ok (j := J) mm19.ok G19 (fun x hx => by omega) hJI.graph.fit P19 (fun x hx => by omega)).mono ?_⟩
      rintro _ H20 ⟨rfl, g20⟩
      refine ⟨_, rfl, (rfail_ok g20.ok (r19'.mod g20 id) _).mono ?_⟩
      rintro _ H21 ⟨rfl, r21, m21⟩
      have n20 := g20.next
      have n21 := m21.next
      rw [if_pos he] at r21
      refine ⟨rfl, ret_job (Q := fun r H' => ∃ a' l' c' pa' pl' pc', r = jV J a' l' c' pa' pl' pc' ∧ SlV (fun x => H.next ≤ x ∧ x < H'.next) H' a' l' J.graph ∧ SlI (fun x => H.next ≤ x ∧ x < H'.next) H' pa' pl' J.params ∧ Rd H' b s (if C.2.2 = 0 then (C.2.1, jchk J) else C.2).1 (if C.2.2 = 0 then (C.2.1, jchk J) else C.2).2 ∧ Mod (· = b) H H')
        m21.ok (m21.get _ _ (show ¬ H3.next = b by omega) (g20.get _ _ id v19)) (m21.get _ _ (show ¬ H.next = b by omega) (g20.get _ _ id z19)) ?_⟩
      exact last (q'' := (C.2.1, jchk J)) (m21.get _ _ (show ¬ H3.next = b by omega) (g20.get _ _ id v19)) (m21.get _ _ (show ¬ H.next = b by omega) (g20.get _ _ id z19)) ((G19.grow loc_vtx g20).mod loc_vtx m21 fun x hx e => by omega) ((P19.grow loc_int g20).mod loc_int m21 fun x hx e => by omega) r21 ((mm19.add g20).trans m21) (by omega) (by rw [if_pos he])
    · have he : C.2.2 ≠ 0 := by simpa using he
      exact ret_job (Q := fun r H' => ∃ a' l' c' pa' pl' pc', r = jV J a' l' c' pa' pl' pc' ∧ SlV (fun x => H.next ≤ x ∧ x < H'.next) H' a' l' J.graph ∧ SlI (fun x => H.next ≤ x ∧ x < H'.next) H' pa' pl' J.params ∧ Rd H' b s (if C.2.2 = 0 then (C.2.1, jchk J) else C.2).1 (if C.2.2 = 0 then (C.2.1, jchk J) else C.2).2 ∧ Mod (· = b) H H')
        mm19.ok v19 z19 (last (q'' := C.2) v19 z19 G19 P19 r19' mm19 (by omega) (by rw [if_neg he]))
end
/-- what is told of bytes -/
structure Told (s : List UInt8) (H H' : AH) (a : Option Addr) (l : Nat) (pa : Option Addr) (pl : Nat) (j : JobW) (e : Int) : Prop where
  err : e = decE s
  good : e = 0 → j = (rJob s (0, 0)).1 ∧ SlV (fun x => H.next ≤ x ∧ x < H'.next) H' a l j.graph ∧ SlI (fun x => H.next ≤ x ∧ x < H'.next) H' pa pl j.params
  bad : e ≠ 0 → j.prog = [] ∧ l = 0
theorem decjob_ok {H : AH} {s : List UInt8} (ok : Ok H) (hs : s.length ≤ 4611686018427387904) :
    FW Ee F_run_DecodeJob [.string ⟨⟨s⟩⟩] H fun r H' => ∃ j a l c pa pl pc e, r = .tuple ⟨[jV j a l c pa pl pc, .int .i64 e]⟩ ∧ Told s H H' a l pa pl j e ∧ Grow H H' := by
  refine fw_run_DecodeJob ?_
  intro H1 e1
  obtain ⟨g1, z1, n1⟩ := new_job ok e1
  refine (newreader_ok g1.ok).mono ?_
  rintro _ H2 ⟨rfl, r2, g2⟩
  have n2 := g2.next
  have p2 : AtOk s (0, 0) := Nat.zero_le _
  refine ⟨_, rfl, (xjob_ok (q := (0, 0)) g2.ok r2 p2 hs).mono ?_⟩
  rintro _ H3 ⟨a, l, c, pa, pl, pc, rfl, hG, hP, r3, m3⟩
  have n3 := m3.next
  have hlt : H1.next < H2.next := g2.ok.lt r2
  refine ⟨_, _, _, _, _, _, _, _, _, _, rfl, ?_⟩
  intro H4 e4
  obtain ⟨H5, e5, b5, g5, n5⟩ := fresh_store (vs := jC (rJob s (0, 0)).1 a l c pa pl pc) e4 rfl rfl m3.ok
  have z5 := g5.get _ _ id (m3.get _ _ (show ¬ H.next = H1.next by omega) (g2.get _ _ id z1))
  have pj := rJob_ok p2
  refine ⟨H5, e5, (rend_ok g5.ok (r3.mod g5 id) pj.1 hs).mono ?_⟩
  rintro _ H6 ⟨e, rfl, r6, m6, he6⟩
  have n6 := m6.next
  have he : e = decE s := by
    unfold decE rEnd
    rcases he6 with ⟨h1, h2⟩ | ⟨h1, h2, h3⟩ | ⟨h1, h2, h3⟩
    · rw [if_neg fun h => h1 h.1]; exact h2
    · rw [if_neg (by omega), h3, h1]
    · rw [if_pos ⟨h1, h2⟩]; exact h3
  have z6 := m6.get _ _ (show ¬ H.next = H1.next by omega) z5
  have b6 := m6.get _ _ (show ¬ H3.next = H1.next by omega) b5
  have gg : Grow H H6 := (((g1.trans g2).ext m3 ok fun x hx => .inr (by omega)).trans g5).ext m6 ok fun x hx => .inr (by omega)
  refine ⟨_, rfl, cond_intro (fun hb => ?_) (fun hb => ?_)⟩
  · have hb : e ≠ 0 := by simpa using hb
    have m7 := Mod.set gg.ok z6 (.cells (lset zJob 0 zJob) 0)
    have c7 := get_set_self H6 H.next (.cells (lset zJob 0 zJob) 0)
    exact ⟨_, store_of (o := 0) z6 (by simp) rfl, _, _, _, _, _, _, _, _, _, _, cell_of c7 rfl, cell_of c7 rfl, cell_of c7 rfl, cell_of c7 rfl, cell_of c7 rfl, cell_of c7 rfl,
      ⟨[], [], [], 0, 0, 0⟩, none, 0, 0, none, 0, 0, e, rfl, ⟨he, fun h => (hb h).elim, fun _ => ⟨rfl, rfl⟩⟩, gg.ext m7 ok fun x hx => .inr (by omega)⟩
  · have hb : e = 0 := by simpa using hb
    subst hb
    refine ret_job (Q := fun r H' => ∃ j a l c pa pl pc e, Value.tuple ⟨[r, .int .i64 0]⟩ = .tuple ⟨[jV j a l c pa pl pc, .int .i64 e]⟩ ∧ Told s H H' a l pa pl j e ∧ Grow H H') gg.ok b6 z6 fun Hx mx => ⟨_, a, l, c, pa, pl, pc, 0, rfl, ⟨he, fun _ => ⟨rfl, ?_, ?_⟩, fun h => (h rfl).elim⟩, gg.ext mx ok fun x hx => .inr (by omega)⟩
    · have nx := mx.next
      exact slv_weak mx.ok ((((hG.grow loc_vtx g5).mod loc_vtx m6 fun x hx e => by omega)).mod loc_vtx mx fun x hx e => by omega) fun x hx _ => ⟨by omega, by omega⟩
    · have nx := mx.next
      exact (((hP.grow loc_int g5).mod loc_int m6 fun x hx e => by omega).mod loc_int mx fun x hx e => by omega).weak (fun x hx _ => ⟨by omega, by omega⟩) (int_lt mx.ok)
end Go.Proofs.Cx

namespace Go.Proofs.Cx
open Go Go.Ev
theorem dec_tail {Q : Value → AH → Prop} {Hx : AH} {h0 h1 h2 : Nat} {s : List UInt8} {q : RSt} {J : JobW} {a : Option Addr} {l c : Nat} {pa : Option Addr} {pl pc : Nat} (ok : Ok Hx) (hr : Hx.get h1 = some (.cells (rdC s q) 0)) (hj : Hx.get h2 = some (.cells (jC J a l c pa pl pc) 0)) (hz : Hx.get h0 = some (.cells zJob 0))
    (n01 : h0 ≠ h1) (n12 : h1 ≠ h2)
    (hQ1 : rEnd s q ≠ 0 → ∀ H', Mod (fun x => x = h0 ∨ x = h1) Hx H' → Q (.tuple ⟨[.agg ⟨zJob⟩, .int .i64 (rEnd s q)]⟩) H')
    (hQ0 : rEnd s q = 0 → ∀ H', Mod (fun x => x = h0 ∨ x = h1) Hx H' → Q (.tuple ⟨[jV J a l c pa pl pc, .int .i64 0]⟩) H') :
    ∃ (t76_S : List UInt8) (t76_At : Int) (t76_Err : Int), Hx.cell h1 (0 + 0) = some (.string ⟨⟨t76_S⟩⟩) ∧ Hx.cell h1 (0 + 1) = some (.int .i64 t76_At) ∧ Hx.cell h1 (0 + 2) = some (.int .i64 t76_Err) ∧
      FW Ee F_cohortref01_Reader_End [.agg ⟨[.string ⟨⟨t76_S⟩⟩, .int .i64 t76_At, .int .i64 t76_Err]⟩] Hx fun v_8 H33 =>
        ∃ (r77_S : List UInt8) (r77_At : Int) (r77_Err : Int), v_8 = .agg ⟨[.string ⟨⟨r77_S⟩⟩, .int .i64 r77_At, .int .i64 r77_Err]⟩ ∧
        ∃ (H34 : AH), storeCellsv H33 h1 0 [.string ⟨⟨r77_S⟩⟩, .int .i64 r77_At, .int .i64 r77_Err] = some H34 ∧
        ∃ (t79 : Int), H34.cell h1 2 = some (.int .i64 t79) ∧
        cond (t79 != 0) (
          ∃ (t83 : Int), H34.cell h1 2 = some (.int .i64 t83) ∧
          ∃ (H35 : AH), storeCellsv H34 h0 0 [.string ⟨⟨[]⟩⟩, .slice none 0 0, .slice none 0 0, .int .i64 0, .int .i64 0, .int .i64 0] = some H35 ∧
          H35.cell h1 2 = some (.int .i64 t83) ∧
          ∃ (r1 : List UInt8) (r2a : Option Addr) (r2l : Nat) (r2c : Nat) (r3a : Option Addr) (r3l : Nat) (r3c : Nat) (r4 : Int) (r5 : Int) (r6 : Int),
          H35.cell h0 (0 + 0) = some (.string ⟨⟨r1⟩⟩) ∧ H35.cell h0 (0 + 1) = some (.slice r2a r2l r2c) ∧ H35.cell h0 (0 + 2) = some (.slice r3a r3l r3c) ∧ H35.cell h0 (0 + 3) = some (.int .i64 r4) ∧ H35.cell h0 (0 + 4) = some (.int .i64 r5) ∧ H35.cell h0 (0 + 5) = some (.int .i64 r6) ∧
          Q (.tuple ⟨[.agg ⟨[.string ⟨⟨r1⟩⟩, .slice r2a r2l r2c, .slice r3a r3l r3c, .int .i64 r4, .int .i64 r5, .int .i64 r6]⟩, .int .i64 t83]⟩) H35) (
          ∃ (t1 : List UInt8) (t2a : Option Addr) (t2l : Nat) (t2c : Nat) (t3a : Option Addr) (t3l : Nat) (t3c : Nat) (t4 : Int) (t5 : Int) (t6 : Int),
          H34.cell h2 (0 + 0) = some (.string ⟨⟨t1⟩⟩) ∧ H34.cell h2 (0 + 1) = some (.slice t2a t2l t2c) ∧ H34.cell h2 (0 + 2) = some (.slice t3a t3l t3c) ∧ H34.cell h2 (0 + 3) = some (.int .i64 t4) ∧ H34.cell h2 (0 + 4) = some (.int .i64 t5) ∧ H34.cell h2 (0 + 5) = some (.int .i64 t6) ∧
          ∃ (H3 : AH), storeCellsv H34 h0 0 [.string ⟨⟨t1⟩⟩, .slice t2a t2l t2c, .slice t3a t3l t3c, .int .i64 t4, .int .i64 t5, .int .i64 t6] = some H3 ∧
          ∃ (r1 : List UInt8) (r2a : Option Addr) (r2l : Nat) (r2c : Nat) (r3a : Option Addr) (r3l : Nat) (r3c : Nat) (r4 : Int) (r5 : Int) (r6 : Int),
          H3.cell h0 (0 + 0) = some (.string ⟨⟨r1⟩⟩) ∧ H3.cell h0 (0 + 1) = some (.slice r2a r2l r2c) ∧ H3.cell h0 (0 + 2) = some (.slice r3a r3l r3c) ∧ H3.cell h0 (0 + 3) = some (.int .i64 r4) ∧ H3.cell h0 (0 + 4) = some (.int .i64 r5) ∧ H3.cell h0 (0 + 5) = some (.int .i64 r6) ∧
          Q (.tuple ⟨[.agg ⟨[.string ⟨⟨r1⟩⟩, .slice r2a r2l r2c, .slice r3a r3l r3c, .int .i64 r4, .int .i64 r5, .int .i64 r6]⟩, .int .i64 0]⟩) H3) := by
  refine ⟨_, _, _, cell_of hr rfl, cell_of hr rfl, cell_of hr rfl, (refend_ok (q := q) ok).mono ?_⟩
  rintro _ H33 ⟨rfl, g33⟩
  obtain ⟨H34, s34, r34, m34, n34⟩ := rd_put (q' := (q.1, rEnd s q)) g33.ok (g33.get _ _ id hr)
  have j34 := m34.get _ _ (fun h => n12 h.symm) (g33.get _ _ id hj)
  have z34 := m34.get _ _ n01 (g33.get _ _ id hz)
  have x34 : Mod (fun x => x = h0 ∨ x = h1) Hx H34 := (g33.le (fun _ h _ => h.elim) ok).trans (m34.le (fun x hx _ => .inr hx) g33.ok)
  refine ⟨_, _, _, rfl, H34, s34, _, cell_of r34 rfl, cond_intro (fun hb => ?_) (fun hb => ?_)⟩
  · have hb : rEnd s q ≠ 0 := by simpa using hb
    have m35 := Mod.set m34.ok z34 (.cells (lset zJob 0 zJob) 0)
    have c35 := get_set_self H34 h0 (.cells (lset zJob 0 zJob) 0)
    have r35 := m35.get _ _ (fun h => n01 h.symm) r34
    exact ⟨_, cell_of r34 rfl, _, store_of (o := 0) z34 (by simp) rfl, cell_of r35 rfl, _, _, _, _, _, _, _, _, _, _, cell_of c35 rfl, cell_of c35 rfl, cell_of c35 rfl, cell_of c35 rfl, cell_of c35 rfl, cell_of c35 rfl, hQ1 hb _ (x34.trans (m35.le (fun x hx _ => .inl hx) m34.ok))⟩
  · have hb : rEnd s q = 0 := by simpa using hb
    exact ret_job (Q := fun r H' => Q (.tuple ⟨[r, .int .i64 0]⟩) H') m34.ok j34 z34 fun Hy my => hQ0 hb _ (x34.trans (my.le (fun x hx _ => .inl hx) m34.ok))
theorem refdec_ok {H : AH} {s : List UInt8} (ok : Ok H) (hs : s.length ≤ 4611686018427387904) :
    FW Ee F_cohortref09_Decode [.string ⟨⟨s⟩⟩] H fun r H' => ∃ j a l c pa pl pc e, r = .tuple ⟨[jV j a l c pa pl pc, .int .i64 e]⟩ ∧ Told s H H' a l pa pl j e ∧ Grow H H' := by
  refine fw_cohortref09_Decode ?_
  intro H1 e1 H2 e2 H3 e3
  obtain ⟨g1, z1, n1⟩ := new_job ok e1
  obtain ⟨g2, a2, n2⟩ := new_job g1.ok e2
  obtain ⟨g3, j3, n3⟩ := new_job g2.ok e3
  have gg3 := (g1.trans g2).trans g3
  have p0 : AtOk s (0, 0) := Nat.zero_le _
  have p1 := rTxt_ok p0
  have p2 := rGraph_ok p1.1
  have p3 := rCnt_ok (m := 4) p2.1
  have a3 := g3.get _ _ id a2
  have m4 := Mod.set g3.ok a3 (.cells (lset [.string ⟨⟨[]⟩⟩, .int .i64 0, .int .i64 0] 0 (rdC s (0, 0))) 0)
  have r4 := get_set_self H3 H1.next (.cells (lset [.string ⟨⟨[]⟩⟩, .int .i64 0, .int .i64 0] 0 (rdC s (0, 0))) 0)
  refine ⟨_, store_of (o := 0) a3 (by simp) rfl, ?_⟩
  obtain ⟨H4, h4⟩ : ∃ x, x = H3.set H1.next (.cells (lset [.string ⟨⟨[]⟩⟩, .int .i64 0, .int .i64 0] 0 (rdC s (0, 0))) 0) := ⟨_, rfl⟩
  have h4' : H4 = H3.set H1.next (.cells (lset [.string ⟨⟨[]⟩⟩, .int .i64 0, .int .i64 0] 0 [.string ⟨⟨s⟩⟩, .int .i64 0, .int .i64 0]) 0) := h4
  rw [← h4] at m4 r4
  rw [← h4']
  have j4 := m4.get _ _ (show ¬ H2.next = H1.next by omega) j3
  have m5 := Mod.set m4.ok j4 (.cells (lset zJob 0 zJob) 0)
  have j5 := get_set_self H4 H2.next (.cells (lset zJob 0 zJob) 0)
  have r5 := m5.get _ _ (show ¬ H1.next = H2.next by omega) r4
  refine ⟨_, store_of (o := 0) j4 (by simp) rfl, ?_⟩
  obtain ⟨H5, h5⟩ : ∃ x, x = H4.set H2.next (.cells (lset zJob 0 zJob) 0) := ⟨_, rfl⟩
  rw [← h5] at m5 j5 r5 ⊢
  have n4 : H4.next = H3.next := by rw [h4]; rfl
  have n5 : H5.next = H4.next := by rw [h5]; rfl
  have z5 := m5.get _ _ (show ¬ H.next = H2.next by omega) (m4.get _ _ (show ¬ H.next = H1.next by omega) (g3.get _ _ id (g2.get _ _ id z1)))
  have gg5 := (gg3.ext m4 ok fun x hx => .inr (by omega)).ext m5 ok fun x hx => .inr (by omega)
  refine ⟨_, _, _, cell_of r5 rfl, cell_of r5 rfl, cell_of r5 rfl, (reftxt_ok (q := (0, 0)) gg5.ok p0 hs).mono ?_⟩
  rintro _ H6 ⟨rfl, g6⟩
  have n6 := g6.next
  obtain ⟨H7, s7, r7, m7, n7⟩ := rd_put (q' := (rTxt s (0, 0)).2) g6.ok (g6.get _ _ id r5)
  have j7 := m7.get _ _ (show ¬ H2.next = H1.next by omega) (g6.get _ _ id j5)
  have z7 := m7.get _ _ (show ¬ H.next = H1.next by omega) (g6.get _ _ id z5)
  refine ⟨_, _, _, _, rfl, H7, s7, ?_⟩
  have j7 : H7.get H2.next = some (.cells zJob 0) := j7
  have m8 := Mod.set m7.ok j7 (.cells (lset zJob 0 [.string ⟨⟨(rTxt s (0, 0)).1⟩⟩]) 0)
  have j8 := get_set_self H7 H2.next (.cells (lset zJob 0 [.string ⟨⟨(rTxt s (0, 0)).1⟩⟩]) 0)
  refine ⟨_, store_of (o := 0) j7 (by simp) rfl, ?_⟩
  obtain ⟨H8, h8⟩ : ∃ x, x = H7.set H2.next (.cells (lset zJob 0 [.string ⟨⟨(rTxt s (0, 0)).1⟩⟩]) 0) := ⟨_, rfl⟩
  rw [← h8] at m8 j8 ⊢
  have n8 : H8.next = H7.next := by rw [h8]; rfl
  have r8 := m8.get _ _ (show ¬ H1.next = H2.next by omega) r7
  have z8 := m8.get _ _ (show ¬ H.next = H2.next by omega) z7
  have gg8 := ((gg5.trans g6).ext m7 ok fun x hx => .inr (by omega)).ext m8 ok fun x hx => .inr (by omega)
  refine ⟨_, _, _, cell_of r8 rfl, cell_of r8 rfl, cell_of r8 rfl, (refgraph_ok (q := (rTxt s (0, 0)).2) gg8.ok p1.1 hs).mono ?_⟩
  rintro _ H9 ⟨a, l, c, rfl, hG, g9⟩
  have n9 := g9.next
  obtain ⟨H10, s10, r10, m10, n10⟩ := rd_put (q' := (rGraph s (rTxt s (0, 0)).2).2) g9.ok (g9.get _ _ id r8)
  have j10 := m10.get _ _ (show ¬ H2.next = H1.next by omega) (g9.get _ _ id j8)
  have z10 := m10.get _ _ (show ¬ H.next = H1.next by omega) (g9.get _ _ id z8)
  refine ⟨_, _, _, _, _, _, rfl, H10, s10, ?_⟩
  have j10 : H10.get H2.next = some (.cells [.string ⟨⟨(rTxt s (0, 0)).1⟩⟩, .slice none 0 0, .slice none 0 0, .int .i64 0, .int .i64 0, .int .i64 0] 0) := j10
  have m11 := Mod.set m10.ok j10 (.cells (lset [.string ⟨⟨(rTxt s (0, 0)).1⟩⟩, .slice none 0 0, .slice none 0 0, .int .i64 0, .int .i64 0, .int .i64 0] 1 [.slice a l c]) 0)
  have j11 := get_set_self H10 H2.next (.cells (lset [.string ⟨⟨(rTxt s (0, 0)).1⟩⟩, .slice none 0 0, .slice none 0 0, .int .i64 0, .int .i64 0, .int .i64 0] 1 [.slice a l c]) 0)
  refine ⟨_, store_of (o := 1) j10 (by simp) rfl, ?_⟩
  obtain ⟨H11, h11⟩ : ∃ x, x = H10.set H2.next (.cells (lset [.string ⟨⟨(rTxt s (0, 0)).1⟩⟩, .slice none 0 0, .slice none 0 0, .int .i64 0, .int .i64 0, .int .i64 0] 1 [.slice a l c]) 0) := ⟨_, rfl⟩
  rw [← h11] at m11 j11 ⊢
  have n11 : H11.next = H10.next := by rw [h11]; rfl
  have r11 := m11.get _ _ (show ¬ H1.next = H2.next by omega) r10
  have z11 := m11.get _ _ (show ¬ H.next = H2.next by omega) z10
  have gg11 := ((gg8.trans g9).ext m10 ok fun x hx => .inr (by omega)).ext m11 ok fun x hx => .inr (by omega)
  have x911 : Mod (fun x => x = H1.next ∨ x = H2.next) H9 H11 := (m10.le (fun x hx _ => .inl hx) g9.ok).trans (m11.le (fun x hx _ => .inr hx) m10.ok)
  have G11 : SlV (fun x => H3.next ≤ x ∧ x < H9.next) H11 a l (rGraph s (rTxt s (0, 0)).2).1 :=
    (slv_weak g9.ok hG (F' := fun x => H3.next ≤ x ∧ x < H9.next) fun x hx _ => ⟨by omega, hx.2⟩).mod loc_vtx x911 fun x hx e => by omega
  refine ⟨_, _, _, cell_of r11 rfl, cell_of r11 rfl, cell_of r11 rfl, (refcnt_ok (q := (rGraph s (rTxt s (0, 0)).2).2) 4 (by omega) gg11.ok p2.1 hs).mono ?_⟩
  rintro _ H12 ⟨rfl, g12⟩
  have n12 := g12.next
  obtain ⟨T, hT⟩ : ∃ T, T = rTxt s (0, 0) := ⟨_, rfl⟩
  obtain ⟨Gq, hGq⟩ : ∃ Gq, Gq = rGraph s (rTxt s (0, 0)).2 := ⟨_, rfl⟩
  obtain ⟨N, hN⟩ : ∃ N, N = (rCnt s 4 (rGraph s (rTxt s (0, 0)).2).2).1 := ⟨_, rfl⟩
  obtain ⟨q6, hq6⟩ : ∃ q6, q6 = (rCnt s 4 (rGraph s (rTxt s (0, 0)).2).2).2 := ⟨_, rfl⟩
  obtain ⟨P, hP⟩ : ∃ P, P = rMany (rSig s) N q6 := ⟨_, rfl⟩
  obtain ⟨A, hA⟩ : ∃ A, A = rCnt s 1000 P.2 := ⟨_, rfl⟩
  obtain ⟨B, hB⟩ : ∃ B, B = rCnt s 65536 A.2 := ⟨_, rfl⟩
  obtain ⟨C, hC⟩ : ∃ C, C = rCnt s 16 B.2 := ⟨_, rfl⟩
  obtain ⟨J, hJ⟩ : ∃ J : JobW, J = ⟨T.1, Gq.1, P.1, A.1, B.1, C.1⟩ := ⟨_, rfl⟩
  have hres : rJob s (0, 0) = (J, if C.2.2 = 0 then (C.2.1, jchk J) else C.2) := by
    rw [hJ, hC, hB, hA, hP, hN, hq6, hGq, hT]; rfl
  have hJI := (rJob_ok p0).2.1
  rw [hres] at hJI
  rw [← hN, ← hq6] at p3
  rw [← hN, ← hq6]
  rw [← hT] at j11
  rw [← hGq] at G11
  have pP := rMany_ok (one := rSig s) (R := I64) (fun q h => rSig_ok h) (n := N) p3.1
  rw [← hP] at pP
  have pA := rCnt_ok (m := 1000) pP.1
  rw [← hA] at pA
  have pB := rCnt_ok (m := 65536) pA.1
  rw [← hB] at pB
  obtain ⟨H13, s13, r13, m13, n13⟩ := rd_put (q' := q6) g12.ok (g12.get _ _ id r11)
  have j13 := m13.get _ _ (show ¬ H2.next = H1.next by omega) (g12.get _ _ id j11)
  have z13 := m13.get _ _ (show ¬ H.next = H1.next by omega) (g12.get _ _ id z11)
  have gg13 := (gg11.trans g12).ext m13 ok fun x hx => .inr (by omega)
  have G13 := (G11.grow loc_vtx g12).mod loc_vtx m13 fun x hx e => by omega
  have hH13 : H9.next ≤ H13.next := by omega
  refine ⟨_, _, _, _, rfl, H13, s13, ?_⟩
  refine ⟨fun _ Hx => ∃ pa pl pc, Hx.get H2.next = some (.cells [.string ⟨⟨T.1⟩⟩, .slice a l c, .slice pa pl pc, .int .i64 0, .int .i64 0, .int .i64 0] 0) ∧ SlI (fun x => H3.next ≤ x ∧ x < Hx.next) Hx pa pl P.1 ∧ Hx.get H1.next = some (.cells (rdC s P.2) 0) ∧
      Hx.get H.next = some (.cells zJob 0) ∧ SlV (fun x => H3.next ≤ x ∧ x < H9.next) Hx a l Gq.1 ∧ Grow H Hx ∧ H13.next ≤ Hx.next, ?_, ?_⟩
  · refine ⟨fun m i7 Hb => ∃ (k' k : Nat) (ps : List Int) (q' : RSt) (pa : Option Addr) (pl pc : Nat), i7 = k' ∧ k' + k = N ∧ k = m ∧ Hb.get H1.next = some (.cells (rdC s q') 0) ∧ AtOk s q' ∧ Hb.get H2.next = some (.cells [.string ⟨⟨T.1⟩⟩, .slice a l c, .slice pa pl pc, .int .i64 0, .int .i64 0, .int .i64 0] 0) ∧ Own Hb 1 pa pl pc (ps.flatMap intC) ∧
        (∀ x, pa = some x → H13.next ≤ x.block) ∧ Hb.get H.next = some (.cells zJob 0) ∧ ps.length + k ≤ 4 ∧ ps ++ (rMany (rSig s) k q').1 = P.1 ∧ (rMany (rSig s) k q').2 = P.2 ∧ SlV (fun x => H3.next ≤ x ∧ x < H9.next) Hb a l Gq.1 ∧ Grow H Hb ∧ H13.next ≤ Hb.next,
      ⟨_, 0, N, [], q6, none, 0, 0, rfl, by omega, rfl, r13, p3.1, j13, Own.nil _ _, fun x e => (by cases e), z13, by simpa using p3.2, by rw [hP]; rfl, by rw [hP], G13, gg13, Nat.le_refl _⟩, ?_⟩
    rintro m i7 Hb ⟨k', k, ps, q', pa, pl, pc, rfl, hkk, rfl, hr, hat, hv, hO, hfar, hz, hlen, hl1, hl2, hg, hm, hn⟩
    have hl := own_sli_len hO
    have fin : (q'.2 ≠ 0 ∨ k = 0) → ∃ pa pl pc, Hb.get H2.next = some (.cells [.string ⟨⟨T.1⟩⟩, .slice a l c, .slice pa pl pc, .int .i64 0, .int .i64 0, .int .i64 0] 0) ∧ SlI (fun x => H3.next ≤ x ∧ x < Hb.next) Hb pa pl P.1 ∧ Hb.get H1.next = some (.cells (rdC s P.2) 0) ∧
        Hb.get H.next = some (.cells zJob 0) ∧ SlV (fun x => H3.next ≤ x ∧ x < H9.next) Hb a l Gq.1 ∧ Grow H Hb ∧ H13.next ≤ Hb.next := by
      intro h
      rw [rMany_stop h] at hl1 hl2
      rw [List.append_nil] at hl1
      refine ⟨pa, pl, pc, hv, ?_, by rw [← hl2]; exact hr, hz, hg, hm, hn⟩
      rw [← hl1]
      exact own_sli hO fun x ex => ⟨by have := hfar x ex; omega, own_lt hO hm.ok ex⟩
    refine cond_dec (fun hpos => ?_) (fun hz0 => fin (.inr (by omega)))
    refine ⟨_, cell_of hr rfl, cond_intro (fun he => ?_) (fun he => fin (.inl (by simpa using he)))⟩
    have he : q'.2 = 0 := by simpa using he
    have pa' := rSig_ok hat
    refine ⟨_, _, _, cell_of hr rfl, cell_of hr rfl, cell_of hr rfl, (refsig_ok (q := q') hm.ok hat hs).mono ?_⟩
    rintro _ H15 ⟨rfl, g15⟩
    have n15 := g15.next
    refine ⟨_, _, _, _, rfl, ?_⟩
    intro H16 e16
    obtain ⟨H17, e17, b17, g17, n17⟩ := fresh_store (vs := rdC s (rSig s q').2) e16 rfl rfl g15.ok
    obtain ⟨H18, s18, r18, m18, n18⟩ := rd_put (q' := (rSig s q').2) g17.ok (g17.get _ _ id (g15.get _ _ id hr))
    have j18 := m18.get _ _ (show ¬ H2.next = H1.next by omega) (g17.get _ _ id (g15.get _ _ id hv))
    refine ⟨H17, e17, _, _, _, cell_of b17 rfl, cell_of b17 rfl, cell_of b17 rfl, H18, s18, _, _, _, cell_of j18 rfl, ?_⟩
    intro H19 e19
    have x18 : Mod (· = H1.next) Hb H18 := ((g15.trans g17).le (fun _ h _ => h.elim) hm.ok).trans m18
    have g19 : Grow H18 H19 := e19 ▸ Grow.new m18.ok _
    have n19 : H19.next = H18.next + 1 := by rw [e19]; rfl
    have hO19 := (hO.mod x18 fun x hx y ey e => by have := hfar y ey; omega).mod g19 fun _ h => h.elim
    obtain ⟨H20, k1, k2, k3, k4⟩ := hO19.append (n := 1) (bytes := 8) (new := [.int .i64 (rSig s q').1]) (x := .slice (some ⟨H18.next, 0, none⟩) 1 2) g19.ok rfl (takev_new e19 rfl) (by omega) rfl rfl (by omega) (by omega)
    have lowS : ∀ {x : Nat}, x < H13.next → ¬ (¬ Off pa x) := fun hx h => h fun z ez e => by have := hfar z ez; omega
    have j20 := k4.get _ _ (lowS (by omega)) (g19.get _ _ id j18)
    have m21 := Mod.set k4.ok j20 (.cells (lset [.string ⟨⟨T.1⟩⟩, .slice a l c, .slice pa pl pc, .int .i64 0, .int .i64 0, .int .i64 0] 2 [.slice (some ⟨H19.next, 0, none⟩) (pl + 1) (2 * (pl + 1) + 1)]) 0)
    refine ⟨_, _, _, H20, k1, _, store_of (o := 2) j20 (by simp) rfl, ?_⟩
    intro t39 e39
    rw [wrap_i64 (by omega) (by omega)] at e39
    subst e39
    obtain ⟨k, rfl⟩ : ∃ k', k = k' + 1 := ⟨k - 1, by omega⟩
    rw [rMany_go he] at hl1 hl2
    have up : ∀ {x : Nat} {o : AObj}, x < H13.next → x ≠ H2.next → H18.get x = some o → (H20.set H2.next (.cells (lset [.string ⟨⟨T.1⟩⟩, .slice a l c, .slice pa pl pc, .int .i64 0, .int .i64 0, .int .i64 0] 2 [.slice (some ⟨H19.next, 0, none⟩) (pl + 1) (2 * (pl + 1) + 1)]) 0)).get x = some o :=
      fun h1 h2 h => m21.get _ _ h2 (k4.get _ _ (lowS h1) (g19.get _ _ id h))
    refine ⟨k, by omega, k' + 1, k, ps ++ [(rSig s q').1], (rSig s q').2, _, _, _, by simp, by omega, rfl, up (by omega) (by omega) r18, pa'.1, get_set_self _ _ _, ?_, ?_, up (by omega) (by omega) (x18.get _ _ (show ¬ H.next = H1.next by omega) hz), by rw [List.length_append, List.length_singleton]; omega, ?_, hl2, ?_, ?_, ?_⟩
    · rw [List.flatMap_append, List.flatMap_singleton]
      exact k2.mod m21 fun x hx z ez e => by cases ez; simp only at e; omega
    · intro z ez
      cases ez
      simp only; omega
    · rw [List.append_assoc]; exact hl1
    · exact hg.keep loc_vtx fun x o hx ho => up (by omega) (by omega) (x18.get _ _ (show ¬ x = H1.next by omega) ho)
    · refine (((hm.ext x18 ok fun x hx => .inr (by omega)).add g19).ext k4 ok fun x hx => .inr ?_).ext m21 ok fun x hx => .inr (by omega)
      obtain ⟨z, ez, rfl⟩ := off_not hx
      have := hfar z ez
      omega
    · show H13.next ≤ H20.next
      omega
  · rintro _ H22 ⟨pa, pl, pc, hv, hPs, hr, hz, hg, hm, hn⟩
    -- one number more
    refine ⟨_, _, _, cell_of hr rfl, cell_of hr rfl, cell_of hr rfl, (refcnt_ok (q := P.2) 1000 (by omega) hm.ok pP.1 hs).mono ?_⟩
    rintro _ H23 ⟨rfl, g23⟩
    rw [← hA]
    obtain ⟨H24, s24, r24, m24, n24⟩ := rd_put (q' := A.2) g23.ok (g23.get _ _ id hr)
    have j24 := m24.get _ _ (show ¬ H2.next = H1.next by omega) (g23.get _ _ id hv)
    refine ⟨_, _, _, _, rfl, H24, s24, ?_⟩
    have m25 := Mod.set m24.ok j24 (.cells (lset [.string ⟨⟨T.1⟩⟩, .slice a l c, .slice pa pl pc, .int .i64 0, .int .i64 0, .int .i64 0] 3 [.int .i64 (A.1 : Int)]) 0)
    have j25 := get_set_self H24 H2.next (.cells (lset [.string ⟨⟨T.1⟩⟩, .slice a l c, .slice pa pl pc, .int .i64 0, .int .i64 0, .int .i64 0] 3 [.int .i64 (A.1 : Int)]) 0)
    refine ⟨_, store_of (o := 3) j24 (by simp) rfl, ?_⟩
    obtain ⟨H25, h25⟩ : ∃ x, x = H24.set H2.next (.cells (lset [.string ⟨⟨T.1⟩⟩, .slice a l c, .slice pa pl pc, .int .i64 0, .int .i64 0, .int .i64 0] 3 [.int .i64 (A.1 : Int)]) 0) := ⟨_, rfl⟩
    rw [← h25] at m25 j25 ⊢
    have r25 := m25.get _ _ (show ¬ H1.next = H2.next by omega) r24
    refine ⟨_, _, _, cell_of r25 rfl, cell_of r25 rfl, cell_of r25 rfl, (refcnt_ok (q := A.2) 65536 (by omega) m25.ok pA.1 hs).mono ?_⟩
    rintro _ H26 ⟨rfl, g26⟩
    rw [← hB]
    obtain ⟨H27, s27, r27, m27, n27⟩ := rd_put (q' := B.2) g26.ok (g26.get _ _ id r25)
    have j27 := m27.get _ _ (show ¬ H2.next = H1.next by omega) (g26.get _ _ id j25)
    refine ⟨_, _, _, _, rfl, H27, s27, ?_⟩
    have m28 := Mod.set m27.ok j27 (.cells (lset (lset [.string ⟨⟨T.1⟩⟩, .slice a l c, .slice pa pl pc, .int .i64 0, .int .i64 0, .int .i64 0] 3 [.int .i64 (A.1 : Int)]) 4 [.int .i64 (B.1 : Int)]) 0)
    have j28 := get_set_self H27 H2.next (.cells (lset (lset [.string ⟨⟨T.1⟩⟩, .slice a l c, .slice pa pl pc, .int .i64 0, .int .i64 0, .int .i64 0] 3 [.int .i64 (A.1 : Int)]) 4 [.int .i64 (B.1 : Int)]) 0)
    refine ⟨_, store_of (o := 4) j27 (by simp [lset]) rfl, ?_⟩
    obtain ⟨H28, h28⟩ : ∃ x, x = H27.set H2.next (.cells (lset (lset [.string ⟨⟨T.1⟩⟩, .slice a l c, .slice pa pl pc, .int .i64 0, .int .i64 0, .int .i64 0] 3 [.int .i64 (A.1 : Int)]) 4 [.int .i64 (B.1 : Int)]) 0) := ⟨_, rfl⟩
    rw [← h28] at m28 j28 ⊢
    have r28 := m28.get _ _ (show ¬ H1.next = H2.next by omega) r27
    refine ⟨_, _, _, cell_of r28 rfl, cell_of r28 rfl, cell_of r28 rfl, (refcnt_ok (q := B.2) 16 (by omega) m28.ok pB.1 hs).mono ?_⟩
    rintro _ H29 ⟨rfl, g29⟩
    rw [← hC]
    obtain ⟨H30, s30, r30, m30, n30⟩ := rd_put (q' := C.2) g29.ok (g29.get _ _ id r28)
    have j30 := m30.get _ _ (show ¬ H2.next = H1.next by omega) (g29.get _ _ id j28)
    refine ⟨_, _, _, _, rfl, H30, s30, ?_⟩
    have m31 := Mod.set m30.ok j30 (.cells (lset (lset (lset [.string ⟨⟨T.1⟩⟩, .slice a l c, .slice pa pl pc, .int .i64 0, .int .i64 0, .int .i64 0] 3 [.int .i64 (A.1 : Int)]) 4 [.int .i64 (B.1 : Int)]) 5 [.int .i64 (C.1 : Int)]) 0)
    have j31 := get_set_self H30 H2.next (.cells (lset (lset (lset [.string ⟨⟨T.1⟩⟩, .slice a l c, .slice pa pl pc, .int .i64 0, .int .i64 0, .int .i64 0] 3 [.int .i64 (A.1 : Int)]) 4 [.int .i64 (B.1 : Int)]) 5 [.int .i64 (C.1 : Int)]) 0)
    refine ⟨_, store_of (o := 5) j30 (by simp [lset]) rfl, ?_⟩
    obtain ⟨H31, h31⟩ : ∃ x, x = H30.set H2.next (.cells (lset (lset (lset [.string ⟨⟨T.1⟩⟩, .slice a l c, .slice pa pl pc, .int .i64 0, .int .i64 0, .int .i64 0] 3 [.int .i64 (A.1 : Int)]) 4 [.int .i64 (B.1 : Int)]) 5 [.int .i64 (C.1 : Int)]) 0) := ⟨_, rfl⟩
    rw [← h31] at m31 j31 ⊢
    have r31 := m31.get _ _ (show ¬ H1.next = H2.next by omega) r30
    have j31 : H31.get H2.next = some (.cells (jC J a l c pa pl pc) 0) := by rw [j31, hJ]; rfl
    have n23 := g23.next
    have n26 := g26.next
    have n29 := g29.next
    have n25 : H25.next = H24.next := by rw [h25]; rfl
    have n28 : H28.next = H27.next := by rw [h28]; rfl
    have n31 : H31.next = H30.next := by rw [h31]; rfl
    have x31 : Mod (fun x => x = H1.next ∨ x = H2.next) H22 H31 := by
      have q : ∀ {S' : Nat → Prop} {Ha Hb : AH}, Ok Ha → Mod S' Ha Hb → (∀ b, S' b → b = H1.next ∨ b = H2.next) → Mod (fun x => x = H1.next ∨ x = H2.next) Ha Hb := fun ok h k => h.le (fun b hb _ => k b hb) ok
      exact (q hm.ok g23 fun _ h => h.elim).trans ((q g23.ok m24 fun _ h => .inl h).trans ((q m24.ok m25 fun _ h => .inr h).trans ((q m25.ok g26 fun _ h => h.elim).trans ((q g26.ok m27 fun _ h => .inl h).trans ((q m27.ok m28 fun _ h => .inr h).trans
        ((q m28.ok g29 fun _ h => h.elim).trans ((q g29.ok m30 fun _ h => .inl h).trans (q m30.ok m31 fun _ h => .inr h))))))))
    have z31 := x31.get _ _ (show ¬ (H.next = H1.next ∨ H.next = H2.next) by omega) hz
    have G31 : SlV (fun x => H3.next ≤ x ∧ x < H9.next) H31 a l J.graph := by
      rw [hJ]; exact hg.mod loc_vtx x31 fun x hx e => by omega
    have P31 : SlI (fun x => H3.next ≤ x ∧ x < H22.next) H31 pa pl J.params := by
      rw [hJ]; exact hPs.mod loc_int x31 fun x hx e => by omega
    have gg31 : Grow H H31 := hm.ext x31 ok fun x hx => .inr (by omega)
    -- the end
    have end1 : ∀ {Hx : AH} {q'' : RSt}, Hx.get H2.next = some (.cells (jC J a l c pa pl pc) 0) → Hx.get H.next = some (.cells zJob 0) → SlV (fun x => H3.next ≤ x ∧ x < H9.next) Hx a l J.graph → SlI (fun x => H3.next ≤ x ∧ x < H22.next) Hx pa pl J.params → Hx.get H1.next = some (.cells (rdC s q'') 0) → Grow H Hx → H31.next ≤ Hx.next → q'' = (rJob s (0, 0)).2 → _ :=
      fun {Hx q''} hv hz hg hps hr hm hnx hq => dec_tail (Q := fun r H' => ∃ j a l c pa pl pc e, r = .tuple ⟨[jV j a l c pa pl pc, .int .i64 e]⟩ ∧ Told s H H' a l pa pl j e ∧ Grow H H') (h0 := H.next) (h1 := H1.next) (h2 := H2.next) (q := q'') hm.ok hr hv hz (by omega) (by omega)
        (fun hb Hy my => ⟨⟨[], [], [], 0, 0, 0⟩, none, 0, 0, none, 0, 0, rEnd s q'', rfl, ⟨by rw [hq]; rfl, fun h => (hb h).elim, fun _ => ⟨rfl, rfl⟩⟩, hm.ext my ok fun x hx => .inr (by omega)⟩)
        (fun hb Hy my => ⟨J, a, l, c, pa, pl, pc, 0, rfl, ⟨by rw [← hb, hq]; rfl, fun _ => ⟨by rw [hres], by
          have ny := my.next
          exact slv_weak my.ok (hg.mod loc_vtx my fun x hx e => by omega) fun x hx _ => ⟨by omega, by omega⟩, by
          have ny := my.next
          exact (hps.mod loc_int my fun x hx e => by omega).weak (fun x hx _ => ⟨by omega, by omega⟩) (int_lt my.ok)⟩, fun h => (h rfl).elim⟩, hm.ext my ok fun x hx => .inr (by omega)⟩)
    refine ⟨_, cell_of r31 rfl, cond_intro (fun he => ?_) (fun he => ?_)⟩
    · have he : C.2.2 = 0 := by simpa using he
      refine ⟨_, _, _, _, _, _, _, _, _, _, cell_of j31 rfl, cell_of j31 rfl, cell_of j31 rfl, cell_of j31 rfl, cell_of j31 rfl, cell_of j31 rfl, (rjcheck_ok (j := J) gg31.ok G31 hJI.graph.fit P31).mono ?_⟩
      rintro _ H32 ⟨rfl, g32⟩
      have r32 : Rd H32 H1.next s C.2.1 C.2.2 := g32.get _ _ id r31
      obtain ⟨H33, k1, k2, k3⟩ := r32.err g32.ok (jchk J)
      have n32 := g32.next
      have n33 := k3.next
      refine ⟨_, rfl, H33, k1, end1 (q'' := (C.2.1, jchk J)) (k3.get _ _ (show ¬ H2.next = H1.next by omega) (g32.get _ _ id j31)) (k3.get _ _ (show ¬ H.next = H1.next by omega) (g32.get _ _ id z31)) ((G31.grow loc_vtx g32).mod loc_vtx k3 fun x hx e => by omega) ((P31.grow loc_int g32).mod loc_int k3 fun x hx e => by omega) k2 ((gg31.trans g32).ext k3 ok fun x hx => .inr (by omega)) (by omega) (by rw [hres, if_pos he])⟩
    · have he : C.2.2 ≠ 0 := by simpa using he
      exact end1 (q'' := C.2) j31 z31 G31 P31 r31 gg31 (Nat.le_refl _) (by rw [hres, if_neg he])
end Go.Proofs.Cx

namespace Go.Ev
open Go
theorem WrS.not {H : AH} {b x : Nat} {a : Option Addr} {l c : Nat} (h : H.get b = some (.cells [.slice a l c] 0)) (k : ¬ WrS H b x) : x ≠ b ∧ Off a x :=
  ⟨fun e => k (.inl e), Classical.byContradiction fun ho => k (.inr ⟨a, l, c, h, ho⟩)⟩
theorem Wr.modw {S : Nat → Prop} {H H' : AH} {n0 b : Nat} {bs : List UInt8} (h : Wr H n0 b bs) (hm : Mod S H H') (hs : ∀ x, S x → ¬ WrS H b x) : Wr H' n0 b bs := by
  obtain ⟨h0, a, l, c, h1, h2, h3⟩ := h
  exact ⟨h0, a, l, c, hm.get _ _ (fun hb => hs _ hb (.inl rfl)) h1, h2.mod hm fun x hx => (WrS.not h1 (hs x hx)).2, h3⟩
theorem rJob_self {j : JobW} {t : List UInt8} (h : JobI j) (hp : j.prog.length < 18446744073709551616) (hc : jchk j = 0) : rJob (jobB j ++ t) (0, 0) = (j, ((jobB j).length, 0)) := by
  have := (rt_job (s := jobB j ++ t) h hp (jchk_zero hc).2.1 hc 0 t (by rw [List.drop_zero])).1
  rw [Nat.zero_add] at this
  exact this
theorem decE_self {j : JobW} (h : JobI j) (hp : j.prog.length < 18446744073709551616) (hc : jchk j = 0) : decE (jobB j) = 0 := by
  have := rJob_self (t := []) h hp hc
  rw [List.append_nil] at this
  unfold decE rEnd
  rw [this, if_neg (by simp)]
end Go.Ev
namespace Go.Proofs.Cx
open Go Go.Ev

theorem awakej_ok {H : AH} : FW Ee F_cohortlaw09_awake [] H fun v H' => v = .bool true ∧ H = H' := by
  have e : (evalN Ee 1).call F_cohortlaw09_awake [] H = some (.bool true, H) := by kernel_rfl
  exact ⟨1, _, _, e, rfl, rfl⟩

theorem law_runjobs {F Fp : Nat → Prop} {H : AH} {a pa : Option Addr} {l c pl pc : Nat} {j : JobW} {s : List UInt8} (ok : Ok H) (hG : SlV F H a l j.graph) (hF : ∀ b, F b → b < H.next) (hf : Fit j.graph) (hP : SlI Fp H pa pl j.params) (hFp : ∀ b, Fp b → b < H.next) (hX : JobX j) (hs : s.length ≤ 4000000000000000000) :
    FW Ee F_cohortlaw09_RunJobs [jV j a l c pa pl pc, .string ⟨⟨s⟩⟩] H fun r H' => r = .bool true ∧ Grow H H' := by
  refine fw_cohortlaw09_RunJobs ?_
  intro H1 e1
  obtain ⟨g1, b1, n1⟩ := new_job ok e1
  have G1 := hG.grow loc_vtx g1
  have P1 := hP.grow loc_int g1
  refine ⟨_, _, _, _, _, _, _, _, _, _, cell_of b1 rfl, cell_of b1 rfl, cell_of b1 rfl, cell_of b1 rfl, cell_of b1 rfl, cell_of b1 rfl, (encjob_ok (j := j) g1.ok G1 (fun b hb => by have := hF b hb; omega) hf P1 (fun b hb => by have := hFp b hb; omega) hX).mono ?_⟩
  rintro _ H2 ⟨rfl, g2⟩
  have b2 := g2.get _ _ id b1
  have G2 := G1.grow loc_vtx g2
  have P2 := P1.grow loc_int g2
  refine ⟨_, _, rfl, _, _, _, _, _, _, _, _, _, _, cell_of b2 rfl, cell_of b2 rfl, cell_of b2 rfl, cell_of b2 rfl, cell_of b2 rfl, cell_of b2 rfl, (refjob_ok (j := j) g2.ok G2 hf).mono ?_⟩
  rintro _ H3 ⟨xa, xl, xc, rfl, X3, g3⟩
  have P3 := P2.grow loc_int g3
  refine ⟨_, _, _, _, _, _, _, _, _, _, rfl, (rjcheck_ok (j := j) g3.ok X3 hf P3).mono ?_⟩
  rintro _ H4 ⟨rfl, g4⟩
  refine ⟨_, rfl, awakej_ok.mono ?_⟩
  rintro _ _ ⟨rfl, rfl⟩
  have g14 := (g2.trans g3).trans g4
  have g04 := g1.trans g14
  have b4 := g14.get _ _ id b1
  refine ⟨true, rfl, cond_neg rfl (cond_neg (by simp) ?_)⟩
  refine ⟨fun _ Hx => Grow H Hx, cond_intro (fun hz => ?_) (fun hz => ?_), ?_⟩
  · have hc : jchk j = 0 := by simpa using hz
    have hI := hX.ok hc
    have hpl := progs_short (jchk_zero hc).1
    have hlen := jobB_len hI (by omega)
    rw [if_pos hc]
    refine (decjob_ok (s := jobB j) g4.ok (by omega)).mono ?_
    rintro _ H6 ⟨j1, ka, kl, kc, kpa, kpl, kpc, e, rfl, told, g6⟩
    have he : e = 0 := by rw [told.err]; exact decE_self hI (by omega) hc
    subst he
    obtain ⟨hj1, K6, KP6⟩ := told.good rfl
    have hself := rJob_self (t := []) hI (by omega) hc
    rw [List.append_nil] at hself
    have hj1 : j1 = j := by rw [hj1, hself]
    subst hj1
    refine ⟨_, _, _, _, _, _, _, _, _, _, _, rfl, ?_⟩
    intro H7 e7
    obtain ⟨H8, e8, b8, g8, n8⟩ := fresh_store (vs := jC j1 ka kl kc kpa kpl kpc) e7 rfl rfl g6.ok
    refine ⟨H8, e8, (newwriter_ok g8.ok).mono ?_⟩
    rintro _ H9 ⟨rfl, w9, g9⟩
    have g49 := (g6.trans g8).trans g9
    have b9 := g49.get _ _ id b4
    have g09 := g04.trans g49
    have n6 := g6.next
    have n9 := g9.next
    have n04 := g04.next
    have low : ∀ x, x < H8.next → ¬ WrS H9 H8.next x := fun x hx k => by have := w9.low k; omega
    refine ⟨_, rfl, _, _, _, _, _, _, _, _, _, _, cell_of b9 rfl, cell_of b9 rfl, cell_of b9 rfl, cell_of b9 rfl, cell_of b9 rfl, cell_of b9 rfl, (putjob_ok (j := j1) g9.ok w9 (hG.grow loc_vtx g09) (fun x hx => by have := hF x hx; exact ⟨by omega, low x (by omega)⟩) (hP.grow loc_int g09) (fun x hx => by have := hFp x hx; exact ⟨by omega, low x (by omega)⟩) hI (by omega) (by simp)).mono ?_⟩
    rintro _ H10 ⟨rfl, w10, x10⟩
    have n10 := x10.mod.next
    refine ⟨rfl, (wall_ok w10).mono ?_⟩
    rintro _ _ ⟨rfl, rfl⟩
    rw [List.nil_append] at w10
    refine ⟨_, rfl, by simp only [List.nil_append, List.length_singleton]; omega, (newreader_ok x10.mod.ok).mono ?_⟩
    rintro _ H12 ⟨rfl, r12, g12⟩
    rw [List.nil_append] at r12
    have n12 := g12.next
    refine ⟨_, rfl, (xjob_ok (q := (0, 0)) g12.ok r12 (Nat.zero_le _) (by rw [List.length_append, List.length_singleton]; omega)).mono ?_⟩
    rintro _ H13 ⟨ya, yl, yc, ypa, ypl, ypc, rfl, Y13, YP13, r13, m13⟩
    rw [rJob_self hI (by omega) hc] at Y13 YP13 r13 ⊢
    have n13 := m13.next
    have hrl : H10.next < H12.next := g12.ok.lt r12
    refine ⟨_, _, _, _, _, _, _, _, _, _, rfl, ?_⟩
    intro H14 e14
    obtain ⟨H15, e15, b15, g15, n15⟩ := fresh_store (vs := jC j1 ya yl yc ypa ypl ypc) e14 rfl rfl m13.ok
    -- what stayed
    have stay : ∀ {x : Nat} {o : AObj}, x < H8.next → H9.get x = some o → H15.get x = some o := fun hx h =>
      g15.get _ _ id (m13.get _ _ (by omega) (g12.get _ _ id (x10.mod.get _ _ (low _ hx) h)))
    have b15' := stay (by omega) b9
    have k15 := stay (show H6.next < H8.next by omega) (g9.get _ _ id b8)
    have g015 : Grow H H15 := (((g09.ext x10.mod ok fun x hx => .inr (by have := w9.low hx; omega)).trans g12).ext m13 ok fun x hx => .inr (by omega)).trans g15
    have w15 : Wr H15 H8.next H8.next (jobB j1) := (((w10.grow g12).modw m13 fun x hx => by
      have e : x = H10.next := hx
      subst e
      exact w10.new x10.mod.ok g12 (Nat.le_refl _)).grow g15)
    have K9 := (K6.grow loc_vtx g8).grow loc_vtx g9
    have KP9 := (KP6.grow loc_int g8).grow loc_int g9
    have K15 := K9.keep loc_vtx fun x o hx ho => stay (by omega) ho
    have KP15 := KP9.keep loc_int fun x o hx ho => stay (by omega) ho
    refine ⟨H15, e15, _, _, _, _, _, _, _, _, _, _, cell_of b15' rfl, cell_of b15' rfl, cell_of b15' rfl, cell_of b15' rfl, cell_of b15' rfl, cell_of b15' rfl, (refjob_ok (j := j1) g015.ok (hG.grow loc_vtx g015) hf).mono ?_⟩
    rintro _ H16 ⟨za, zl, zc, rfl, Z16, g16⟩
    refine ⟨_, _, _, _, _, _, _, _, _, _, rfl, (refjobb_ok (j := j1) g16.ok Z16 (hP.grow loc_int (g015.trans g16)) hI (by omega)).mono ?_⟩
    rintro _ H17 ⟨rfl, g17⟩
    have g1517 := g16.trans g17
    have k17 := g1517.get _ _ id k15
    refine ⟨_, rfl, cond_neg (by simp) (cond_neg (by simp) ?_)⟩
    refine ⟨_, _, _, _, _, _, _, _, _, _, cell_of k17 rfl, cell_of k17 rfl, cell_of k17 rfl, cell_of k17 rfl, cell_of k17 rfl, cell_of k17 rfl, (refjob_ok (j := j1) g17.ok (K15.grow loc_vtx g1517) hf).mono ?_⟩
    rintro _ H18 ⟨za2, zl2, zc2, rfl, Z18, g18⟩
    refine ⟨_, _, _, _, _, _, _, _, _, _, rfl, (refjobb_ok (j := j1) g18.ok Z18 (KP15.grow loc_int (g1517.trans g18)) hI (by omega)).mono ?_⟩
    rintro _ H19 ⟨rfl, g19⟩
    have g1519 := (g1517.trans g18).trans g19
    refine ⟨_, rfl, cond_neg (by simp) ((wall_ok (w15.grow g1519)).mono ?_)⟩
    rintro _ _ ⟨rfl, rfl⟩
    have y19 := g1519.get _ _ id b15
    refine ⟨_, rfl, cond_neg (by simp) ?_⟩
    refine ⟨_, _, _, _, _, _, _, _, _, _, cell_of y19 rfl, cell_of y19 rfl, cell_of y19 rfl, cell_of y19 rfl, cell_of y19 rfl, cell_of y19 rfl, (refjob_ok (j := j1) g19.ok ((Y13.grow loc_vtx g15).grow loc_vtx g1519) hf).mono ?_⟩
    rintro _ H21 ⟨za3, zl3, zc3, rfl, Z21, g21⟩
    refine ⟨_, _, _, _, _, _, _, _, _, _, rfl, (refjobb_ok (j := j1) g21.ok Z21 (((YP13.grow loc_int g15).grow loc_int g1519).grow loc_int g21) hI (by omega)).mono ?_⟩
    rintro _ H22 ⟨rfl, g22⟩
    have r22 : Rd H22 H10.next (jobB j1 ++ [120]) (jobB j1).length 0 := g22.get _ _ id (g21.get _ _ id (g1519.get _ _ id (g15.get _ _ id r13)))
    refine ⟨_, rfl, cond_neg (by simp) ((rleft_ok r22 (by rw [List.length_append]; omega) (by rw [List.length_append, List.length_singleton]; omega)).mono ?_)⟩
    rintro _ _ ⟨rfl, rfl⟩
    refine ⟨_, rfl, cond_neg ?_ (((g015.trans g1519).trans g21).trans g22)⟩
    rw [List.length_append, List.length_singleton, Nat.add_sub_cancel_left]; rfl
  · have hc : jchk j ≠ 0 := by simpa using hz
    rw [if_neg hc]
    exact cond_neg (by simp) g04
  · intro _ H24 g24
    have hs1 : s.length ≤ 4611686018427387904 := by omega
    refine (decjob_ok (s := s) g24.ok hs1).mono ?_
    rintro _ H25 ⟨k, ka, kl, kc, kpa, kpl, kpc, e, rfl, tk, g25⟩
    refine ⟨_, _, _, _, _, _, _, _, _, _, _, rfl, ?_⟩
    intro H26 e26
    obtain ⟨H27, e27, b27, g27, n27⟩ := fresh_store (vs := jC k ka kl kc kpa kpl kpc) e26 rfl rfl g25.ok
    refine ⟨H27, e27, (refdec_ok (s := s) g27.ok hs1).mono ?_⟩
    rintro _ H28 ⟨x, xa, xl, xc, xpa, xpl, xpc, e', rfl, tx, g28⟩
    refine ⟨_, _, _, _, _, _, _, _, _, _, _, rfl, ?_⟩
    intro H29 e29
    obtain ⟨H30, e30, b30, g30, n30⟩ := fresh_store (vs := jC x xa xl xc xpa xpl xpc) e29 rfl rfl g28.ok
    have k30 := (g28.trans g30).get _ _ id b27
    have g030 : Grow H H30 := (((g24.trans g25).trans g27).trans g28).trans g30
    have hee : e = e' := by rw [tk.err, tx.err]
    subst hee
    refine ⟨H30, e30, cond_neg (by simp) (cond_intro (fun hz => ?_) (fun hz => ?_))⟩
    · have hz : e ≠ 0 := by simpa using hz
      obtain ⟨h1, h2⟩ := tk.bad hz
      refine ⟨_, cell_of k30 rfl, cond_pos (by rw [h1]; rfl) ⟨_, _, _, cell_of k30 rfl, cond_pos (by rw [h2]; rfl) ⟨rfl, g030⟩⟩⟩
    · have hz : e = 0 := by simpa using hz
      obtain ⟨h1, K25, KP25⟩ := tk.good hz
      obtain ⟨h2, X28, XP28⟩ := tx.good hz
      have hIk := (rJob_ok (s := s) (q := (0, 0)) (Nat.zero_le _)).2
      rw [← h1] at hIk
      have hxk : x = k := by rw [h1, h2]
      subst hxk
      have g2530 := (g27.trans g28).trans g30
      refine cond_pos (by simp [hz]) ⟨_, _, _, _, _, _, _, _, _, _, cell_of k30 rfl, cell_of k30 rfl, cell_of k30 rfl, cell_of k30 rfl, cell_of k30 rfl, cell_of k30 rfl, (refjob_ok (j := x) g30.ok (K25.grow loc_vtx g2530) hIk.1.graph.fit).mono ?_⟩
      rintro _ H37 ⟨za, zl, zc, rfl, Z37, g37⟩
      refine ⟨_, _, _, _, _, _, _, _, _, _, rfl, (refjobb_ok (j := x) g37.ok Z37 (KP25.grow loc_int (g2530.trans g37)) hIk.1 (by omega)).mono ?_⟩
      rintro _ H38 ⟨rfl, g38⟩
      have x37 := g37.get _ _ id b30
      have x38 := g38.get _ _ id x37
      have g3038 := (g30.trans g37).trans g38
      refine ⟨_, rfl, _, _, _, _, _, _, _, _, _, _, cell_of x38 rfl, cell_of x38 rfl, cell_of x38 rfl, cell_of x38 rfl, cell_of x38 rfl, cell_of x38 rfl, (refjobb_ok (j := x) g38.ok (X28.grow loc_vtx g3038) (XP28.grow loc_int g3038) hIk.1 (by omega)).mono ?_⟩
      rintro _ H39 ⟨rfl, g39⟩
      exact ⟨_, rfl, cell_of x37 rfl, cell_of x37 rfl, cell_of x37 rfl, cell_of x37 rfl, cell_of x37 rfl, cell_of x37 rfl, cell_of b30 rfl, cell_of b30 rfl, cell_of b30 rfl, cell_of b30 rfl, cell_of b30 rfl, cell_of b30 rfl, by simp, ((g030.trans g37).trans g38).trans g39⟩
end Go.Proofs.Cx
