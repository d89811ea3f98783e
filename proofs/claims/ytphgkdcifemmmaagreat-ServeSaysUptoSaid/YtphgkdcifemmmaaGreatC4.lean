/- Jobs that may be: parameters, all. Jobs are put; their bytes as the document has them. Jobs are taken. Jobs are taken, as the document has it. RunJobs: the law, as formulas have it. -/
import Derived.Test.YtphgkdcifemmmaaGreatC3
namespace Go.Ev
open Go
theorem noneg_flat {G : List Vtx} (h : ∀ x ∈ flatE G, 0 ≤ x.2.2) : NoNeg G := by
  intro i k hi hk
  have : (G[i].id, G[i].edges[k]) ∈ flatE G := by
    unfold flatE
    rw [List.mem_flatMap]
    exact ⟨G[i], List.getElem_mem hi, List.mem_map.2 ⟨_, List.getElem_mem hk, rfl⟩⟩
  exact h _ this
theorem flat_noneg {G : List Vtx} (h : NoNeg G) : ∀ x ∈ flatE G, 0 ≤ x.2.2 := by
  intro x hx
  unfold flatE at hx
  rw [List.mem_flatMap] at hx
  obtain ⟨v, hv, hx⟩ := hx
  obtain ⟨e, he, rfl⟩ := List.mem_map.1 hx
  obtain ⟨i, hi, rfl⟩ := List.mem_iff_getElem.1 hv
  obtain ⟨k, hk, rfl⟩ := List.mem_iff_getElem.1 he
  exact h i k hi hk
end Go.Ev
namespace Go.Proofs.Cx
open Go Go.Ev
section
variable {F Fp : Nat → Prop} {a pa : Option Addr} {l c pl pc : Nat} {G : List Vtx} {ps : List Int} {p : List UInt8} {H : AH}
theorem ret_int {Q : Value → AH → Prop} {H : AH} {rb : Nat} {x : Value} {r : Int} (ok : Ok H) (hr : H.get rb = some (.cells [x] 0)) (hQ : ∀ H3, Mod (· = rb) H H3 → Q (.int .i64 r) H3) :
    ∃ (H4 : AH), storeCellsv H rb 0 [.int .i64 r] = some H4 ∧ ∃ (r6 : Int), H4.cell rb 0 = some (.int .i64 r6) ∧ Q (.int .i64 r6) H4 := by
  have k := get_set_self H rb (.cells (lset [x] 0 [.int .i64 r]) 0)
  exact ⟨_, store_of (o := 0) hr (by simp) rfl, r, cell_of k rfl, hQ _ (Mod.set ok hr _)⟩
theorem kcheck_ok (ok : Ok H) (hG : SlV F H a l G) (hF : ∀ b, F b → b < H.next) (hM : May G) (hP : SlI Fp H pa pl ps) (_ : ∀ b, Fp b → b < H.next) (hp : p ∈ progs) (h1 : p ≠ pLab) (h2 : p ≠ pCore) (h3 : p ≠ pTri) (h4 : p ≠ pMat) (h5 : p ≠ pCol) :
    FW Ee F_kern_Check [.string ⟨⟨p⟩⟩, .agg ⟨[.slice a l c]⟩, .slice pa pl pc] H fun r H' => r = .int .i64 (pchk p G ps) ∧ Grow H H' := by
  have hlen := hG.len
  have hl := hM.len
  have hr := hM.steps.rising
  have hE : ∀ v ∈ G, v.edges.length * 16 ≤ 140737488355328 := fun v hv => by have := hM.edge hv; omega
  refine fw_kern_Check ?_
  intro H1 e1 H2 e2
  obtain ⟨g2, b2, z2, n1, n2⟩ := two_new ok e1 e2
  have G2 := hG.grow loc_vtx g2
  have P2 := hP.grow loc_int g2
  refine cond_intro (fun h => ?_) (fun hb => ?_)
  · have h : p = pBfs := str_eq.1 h
    subst h
    refine ⟨_, _, _, cell_of b2 rfl, (source_ok g2.ok G2 (by omega) hr P2).mono ?_⟩
    rintro _ H3 ⟨rfl, g3⟩
    exact ⟨_, rfl, ret_int (Q := fun r H' => r = _ ∧ Grow H H') g3.ok (g3.get _ _ id z2) fun H4 m4 => ⟨by rw [pchk_bfs], (g2.trans g3).ext m4 ok fun x hx => .inr (by omega)⟩⟩
  refine cond_intro (fun h => ?_) (fun hs => ?_)
  · have h : p = pSssp := str_eq.1 h
    subst h
    refine ⟨_, _, _, cell_of b2 rfl, (all_ok g2.ok).mono ?_⟩
    rintro _ H5 ⟨rfl, b5, g5⟩
    have n5 := g5.next
    refine ⟨_, rfl, ?_⟩
    intro L hL hst hpd
    have g6 : Grow H5 (H5.new (.loop L)) := Grow.new g5.ok _
    have g26 := g5.trans g6
    have n6 : (H5.new (.loop L)).next = H5.next + 1 := rfl
    have gall := g2.trans g26
    let S : Nat → Prop := fun b => b = H1.next ∨ b = H5.next
    have hLr : ({ L with st := LoopState.ready, pend := none } : ALoop) = L := by
      cases L; simp only at hst hpd; subst hst hpd; rfl
    refine (all3_ok (F := F) (S := S) (R := fun done Hx => Hx.get H5.next = some (.loop L) ∧ Hx.get H1.next = some (.cells [.int .i64 0] 0) ∧ ∀ x ∈ done, 0 ≤ x.2.2)
      (Stop := fun Hx => (∃ L', Hx.get H5.next = some (.loop L') ∧ L'.st = .done ∧ L'.pend = some .ret) ∧ Hx.get H1.next = some (.cells [.int .i64 71] 0) ∧ ¬ NoNeg G) g6.ok (a := a) (l := l) (c := c) (G := G) (G2.grow loc_vtx g26) (by omega) hE (cell_of (g6.get _ _ id b5) rfl) ?_ ?_ ?_ ?_).mono ?_
    · intro b hb
      rcases hb with rfl | rfl
      · exact ⟨by omega, fun h => by have := hF _ h; omega⟩
      · exact ⟨by omega, fun h => by have := hF _ h; omega⟩
    · exact ⟨get_new_self _ _, g26.get _ _ id z2, fun x hx => (by simp at hx)⟩
    · rintro done Ha Hb ⟨r1, r2, r3⟩ g
      exact ⟨g.get _ _ id r1, g.get _ _ id r2, r3⟩
    · rintro done x rest Hx hsp ⟨r1, r2, r3⟩ okx mx
      have hx : x ∈ flatE G := by rw [hsp]; simp
      have n6x := mx.next
      refine rw_kern_Check_r0 r1 hL ?_
      intro Hy ey
      obtain ⟨Hz, ez, bz, gz, nz⟩ := fresh_store (vs := [.int .i64 x.2.1, .int .i64 x.2.2]) ey rfl rfl okx
      have z1 := gz.get _ _ id r1
      have z2' := gz.get _ _ id r2
      have mw := Mod.set gz.ok z1 (.loop { L with st := .busy })
      have w2 := mw.get _ _ (show ¬ H1.next = H5.next by omega) z2'
      have wz := mw.get _ _ (show ¬ Hx.next = H5.next by omega) bz
      have lw := get_set_self Hz H5.next (.loop { L with st := .busy })
      have q : ∀ {S' : Nat → Prop} {Ha Hb : AH}, Ok Ha → Mod S' Ha Hb → (∀ b, S' b → S b) → Mod S Ha Hb := fun ok h k => h.le (fun b hb _ => k b hb) ok
      refine ⟨Hz, ez, L, z1, hst, hL.body, _, cell_of wz rfl, cond_dec (fun hneg => ?_) (fun hnn => ?_)⟩
      · have m3 := Mod.set mw.ok w2 (.cells (lset [.int .i64 0] 0 [.int .i64 71]) 0)
        have l3 := m3.get _ _ (show ¬ H5.next = H1.next by omega) lw
        have c3 := get_set_self (Hz.set H5.next (.loop { L with st := .busy })) H1.next (.cells (lset [.int .i64 0] 0 [.int .i64 71]) 0)
        have m4 := Mod.set m3.ok l3 (.loop { L with st := .done, pend := some .ret })
        refine ⟨_, store_of (o := 0) w2 (by simp) rfl, _, l3, .inr ⟨rfl, ⟨⟨_, get_set_self _ _ _, rfl, rfl⟩, m4.get _ _ (by omega) c3, fun hn => ?_⟩, ?_⟩⟩
        · have := flat_noneg hn x hx
          omega
        · exact (q okx gz (fun _ h => h.elim)).trans ((q gz.ok mw (fun b h => .inr h)).trans ((q mw.ok m3 (fun b h => .inl h)).trans (q m3.ok m4 (fun b h => .inr h))))
      · have m4 := Mod.set mw.ok lw (.loop L)
        refine ⟨_, lw, .inl ⟨rfl, ?_, ?_⟩⟩
        · simp only [hLr]
          refine ⟨get_set_self _ _ _, m4.get _ _ (by omega) w2, fun y hy => ?_⟩
          rcases List.mem_append.1 hy with h | h
          · exact r3 y h
          · rw [List.mem_singleton] at h
            subst h; omega
        · simp only [hLr]
          exact (q okx gz (fun _ h => h.elim)).trans ((q gz.ok mw (fun b h => .inr h)).trans (q mw.ok m4 (fun b h => .inr h)))
    · rintro _ H6 ⟨h6, m6⟩
      have n6' := m6.next
      have gg6 : Grow H H6 := gall.ext m6 ok fun b hb => .inr (by rcases hb with rfl | rfl <;> omega)
      have b6 : H6.get H.next = some (.cells [.slice a l c] 0) := m6.get _ _ (show ¬ (H.next = H1.next ∨ H.next = H5.next) by omega) (g26.get _ _ id b2)
      rcases h6 with ⟨r1, r2, r3⟩ | ⟨⟨L', r1, r4, r5⟩, r2, r3⟩
      · refine ⟨L, r1, by rw [hst]; simp, ?_⟩
        simp only [hpd]
        have m7 := Mod.set m6.ok r1 (.loop { L with st := .exhausted, pend := none })
        have gg7 := gg6.ext m7 ok fun x hx => .inr (by omega)
        have b7 := m7.get _ _ (show ¬ H.next = H5.next by omega) b6
        have z7 := m7.get _ _ (show ¬ H1.next = H5.next by omega) r2
        refine ⟨_, _, _, cell_of b7 rfl, (source_ok gg7.ok (hG.grow loc_vtx gg7) (by omega) hr (hP.grow loc_int gg7)).mono ?_⟩
        rintro _ H10 ⟨rfl, g10⟩
        refine ⟨_, rfl, ret_int (Q := fun r H' => r = _ ∧ Grow H H') g10.ok (g10.get _ _ id z7) fun H4 m4 => ⟨?_, (gg7.trans g10).ext m4 ok fun x hx => .inr (by omega)⟩⟩
        rw [pchk_sssp]
        have hn := noneg_flat r3
        by_cases hs : Src G ps
        · rw [if_pos hs, if_pos ⟨hs, hn⟩]
        · rw [if_neg hs, if_neg fun h => hs h.1]
      · obtain ⟨lT, lp, la, lb, ls, lq⟩ := L'
        simp only at r4 r5
        subst r4 r5
        refine ⟨_, r1, by simp, ?_⟩
        have m7 := Mod.set m6.ok r1 (.loop { T := lT, params := lp, assign := la, body := lb, st := .exhausted, pend := some .ret })
        refine ⟨_, cell_of (m7.get _ _ (show ¬ H1.next = H5.next by omega) r2) rfl, ?_, gg6.ext m7 ok fun x hx => .inr (by omega)⟩
        rw [pchk_sssp, if_neg fun h => r3 h.2]
  have hb : p ≠ pBfs := fun h => by rw [h] at hb; exact absurd hb (by decide)
  have hs : p ≠ pSssp := fun h => by rw [h] at hs; exact absurd hs (by decide)
  refine cond_intro (fun h => ?_) (fun hk => ?_)
  · have h : p = pRank := str_eq.1 h
    subst h
    refine (turns_ok P2).mono ?_
    rintro _ _ ⟨rfl, rfl⟩
    exact ⟨_, rfl, ret_int (Q := fun r H' => r = _ ∧ Grow H H') g2.ok z2 fun H4 m4 => ⟨by rw [pchk_turns (.inl rfl)], g2.ext m4 ok fun x hx => .inr (by omega)⟩⟩
  have hk : p ≠ pRank := fun h => by rw [h] at hk; exact absurd hk (by decide)
  have none_ : FW Ee F_kern_None [.slice pa pl pc] H2 fun v_5 H14 => ∃ (r35 : Int), v_5 = .int .i64 r35 ∧ ∃ (H15 : AH), storeCellsv H14 H1.next 0 [.int .i64 r35] = some H15 ∧ ∃ (r6_6 : Int), H15.cell H1.next 0 = some (.int .i64 r6_6) ∧ (Value.int .i64 r6_6 = .int .i64 (pchk p G ps) ∧ Grow H H15) := by
    refine (none_ok P2).mono ?_
    rintro _ _ ⟨rfl, rfl⟩
    exact ⟨_, rfl, ret_int (Q := fun r H' => r = _ ∧ Grow H H') g2.ok z2 fun H4 m4 => ⟨by rw [pchk_none hb hs hk h1 h2, if_pos hp], g2.ext m4 ok fun x hx => .inr (by omega)⟩⟩
  refine cond_intro (fun _ => none_) (fun hd => cond_intro (fun _ => none_) (fun hc => ?_))
  have hd : p ≠ pDeg := fun h => by rw [h] at hd; exact absurd hd (by decide)
  have hc : p ≠ pCc := fun h => by rw [h] at hc; exact absurd hc (by decide)
  have := mem_progs.1 hp
  simp only [hb, hs, hk, hd, hc, h1, h2, h3, h4, h5, or_false] at this
theorem mcheck_ok (ok : Ok H) (hG : SlV F H a l G) (hF : ∀ b, F b → b < H.next) (hM : May G) (hP : SlI Fp H pa pl ps) (hFp : ∀ b, Fp b → b < H.next) (hp : p ∈ progs) :
    FW Ee F_more_Check [.string ⟨⟨p⟩⟩, .agg ⟨[.slice a l c]⟩, .slice pa pl pc] H fun r H' => r = .int .i64 (pchk p G ps) ∧ Grow H H' := by
  have hlenp := hP.len
  refine fw_more_Check ?_
  intro H1 e1
  have g1 : Grow H H1 := e1 ▸ Grow.new ok _
  have b1 : H1.get H.next = some (.cells [.slice a l c] 0) := e1 ▸ get_new_self _ _
  have n1 : H1.next = H.next + 1 := by rw [e1]; rfl
  have P1 := hP.grow loc_int g1
  refine cond_intro (fun h => ?_) (fun h1 => ?_)
  · have h : p = pLab := str_eq.1 h
    subst h
    refine (turns_ok P1).mono ?_
    rintro _ _ ⟨rfl, rfl⟩
    exact ⟨_, rfl, by rw [pchk_turns (.inr rfl)], g1⟩
  have h1 : p ≠ pLab := fun h => by rw [h] at h1; exact absurd h1 (by decide)
  refine cond_intro (fun h => ?_) (fun h2 => ?_)
  · have h : p = pCore := str_eq.1 h
    subst h
    refine cond_intro (fun h => ⟨?_, g1⟩) (fun h => ?_)
    · rw [pchk_core, if_neg]
      rintro ⟨x, rfl, _⟩
      rw [hlenp] at h; simp at h
    have h : pl = 1 := by
      have : ((pl : Nat) : Int) = 1 := by simpa using h
      omega
    have hl1 : ps.length = 1 := by omega
    have hps := one_param hl1
    obtain ⟨hs, c0⟩ := P1.nth (k := 0) (by omega)
    refine grd_intro hs ⟨by omega, by omega, _, c0, cond_dec (fun h => ⟨?_, g1⟩) (fun h => ?_)⟩
    · rw [pchk_core, if_neg]
      rintro ⟨x, e, h2, _⟩
      have : ps[0] = x := by simp only [e, List.getElem_cons_zero]
      omega
    refine grd_intro hs ⟨by omega, by omega, _, c0, cond_dec (fun h => ⟨?_, g1⟩) (fun h => ⟨?_, g1⟩)⟩
    · rw [pchk_core, if_neg]
      rintro ⟨x, e, _, h2⟩
      have : ps[0] = x := by simp only [e, List.getElem_cons_zero]
      omega
    · rw [pchk_core, if_pos ⟨_, hps, by omega, by omega⟩]
  have h2 : p ≠ pCore := fun h => by rw [h] at h2; exact absurd h2 (by decide)
  have none_ : p = pTri ∨ p = pMat ∨ p = pCol → FW Ee F_kern_None [.slice pa pl pc] H1 fun v_1 H3 => ∃ (r34 : Int), v_1 = .int .i64 r34 ∧ (Value.int .i64 r34 = .int .i64 (pchk p G ps) ∧ Grow H H3) := by
    intro h
    refine (none_ok P1).mono ?_
    rintro _ _ ⟨rfl, rfl⟩
    refine ⟨_, rfl, ?_, g1⟩
    have n1 : p ≠ pBfs := by rcases h with rfl | rfl | rfl <;> decide
    have n2 : p ≠ pSssp := by rcases h with rfl | rfl | rfl <;> decide
    have n3 : p ≠ pRank := by rcases h with rfl | rfl | rfl <;> decide
    rw [pchk_none n1 n2 n3 h1 h2, if_pos hp]
  refine cond_intro (fun h => none_ (.inl (str_eq.1 h))) (fun h3 => cond_intro (fun h => none_ (.inr (.inl (str_eq.1 h)))) (fun h4 => cond_intro (fun h => none_ (.inr (.inr (str_eq.1 h)))) (fun h5 => ?_)))
  have h3 : p ≠ pTri := fun h => by rw [h] at h3; exact absurd h3 (by decide)
  have h4 : p ≠ pMat := fun h => by rw [h] at h4; exact absurd h4 (by decide)
  have h5 : p ≠ pCol := fun h => by rw [h] at h5; exact absurd h5 (by decide)
  refine ⟨_, _, _, cell_of b1 rfl, (kcheck_ok g1.ok (hG.grow loc_vtx g1) (fun b hb => by have := hF b hb; omega) hM P1 (fun b hb => by have := hFp b hb; omega) hp h1 h2 h3 h4 h5).mono ?_⟩
  rintro _ H6 ⟨rfl, g6⟩
  exact ⟨_, rfl, rfl, g1.trans g6⟩
/-! all of a job -/
theorem jchk_70 {j : JobW} (h : j.prog ∉ progs) : jchk j = 70 := by unfold jchk; rw [if_pos h]
theorem jchk_g {j : JobW} (h : j.prog ∈ progs) (h2 : chk j.graph ≠ 0) : jchk j = chk j.graph := by unfold jchk; rw [if_neg (by simpa using h), if_pos h2]
theorem jchk_n {j : JobW} (h : j.prog ∈ progs) (h2 : chk j.graph = 0) (h3 : 4 < j.params.length) : jchk j = 71 := by unfold jchk; rw [if_neg (by simpa using h), if_neg (by simpa using h2), if_pos h3]
theorem jchk_p {j : JobW} (h : j.prog ∈ progs) (h2 : chk j.graph = 0) (h3 : ¬ 4 < j.params.length) (h4 : pchk j.prog j.graph j.params ≠ 0) : jchk j = pchk j.prog j.graph j.params := by
  unfold jchk; rw [if_neg (by simpa using h), if_neg (by simpa using h2), if_neg h3, if_pos h4]
theorem jchk_l {j : JobW} (h : j.prog ∈ progs) (h2 : chk j.graph = 0) (h3 : ¬ 4 < j.params.length) (h4 : pchk j.prog j.graph j.params = 0) :
    jchk j = if j.steps < 1 ∨ 1000 < j.steps ∨ j.sent < 0 ∨ 65536 < j.sent ∨ j.parts < 1 ∨ 16 < j.parts then 90 else 0 := by
  unfold jchk; rw [if_neg (by simpa using h), if_neg (by simpa using h2), if_neg h3, if_neg (by simpa using h4)]
abbrev jC (j : JobW) (a : Option Addr) (l c : Nat) (pa : Option Addr) (pl pc : Nat) : List Value := [.string ⟨⟨j.prog⟩⟩, .slice a l c, .slice pa pl pc, .int .i64 j.steps, .int .i64 j.sent, .int .i64 j.parts]
abbrev jV (j : JobW) (a : Option Addr) (l c : Nat) (pa : Option Addr) (pl pc : Nat) : Value := .agg ⟨jC j a l c pa pl pc⟩
theorem limits {H4 : AH} {b : Nat} {j : JobW} {P : Int → Prop} (h : H4.get b = some (.cells (jC j a l c pa pl pc) 0)) (hP : P (if j.steps < 1 ∨ 1000 < j.steps ∨ j.sent < 0 ∨ 65536 < j.sent ∨ j.parts < 1 ∨ 16 < j.parts then 90 else 0)) :
    ∃ (t30 : Int), H4.cell b 3 = some (.int .i64 t30) ∧ cond (decide (t30 < 1)) (P 90) (
      ∃ (t34 : Int), H4.cell b 3 = some (.int .i64 t34) ∧ cond (decide (t34 > 1000)) (P 90) (
        ∃ (t39 : Int), H4.cell b 4 = some (.int .i64 t39) ∧ cond (decide (t39 < 0)) (P 90) (
          ∃ (t44 : Int), H4.cell b 4 = some (.int .i64 t44) ∧ cond (decide (t44 > 65536)) (P 90) (
            ∃ (t49 : Int), H4.cell b 5 = some (.int .i64 t49) ∧ cond (decide (t49 < 1)) (P 90) (
              ∃ (t54 : Int), H4.cell b 5 = some (.int .i64 t54) ∧ cond (decide (t54 > 16)) (P 90) (P 0)))))) := by
  refine ⟨_, cell_of h rfl, cond_dec (fun h => by rw [if_pos (by omega)] at hP; exact hP) fun h1 => ?_⟩
  refine ⟨_, cell_of h rfl, cond_dec (fun h => by rw [if_pos (by omega)] at hP; exact hP) fun h2 => ?_⟩
  refine ⟨_, cell_of h rfl, cond_dec (fun h => by rw [if_pos (by omega)] at hP; exact hP) fun h3 => ?_⟩
  refine ⟨_, cell_of h rfl, cond_dec (fun h => by rw [if_pos (by omega)] at hP; exact hP) fun h4 => ?_⟩
  refine ⟨_, cell_of h rfl, cond_dec (fun h => by rw [if_pos (by omega)] at hP; exact hP) fun h5 => ?_⟩
  exact ⟨_, cell_of h rfl, cond_dec (fun h => by rw [if_pos (by omega)] at hP; exact hP) fun h6 => by rw [if_neg (by omega)] at hP; exact hP⟩
theorem check_ok {j : JobW} (ok : Ok H) (hG : SlV F H a l j.graph) (hF : ∀ b, F b → b < H.next) (hf : Fit j.graph) (hP : SlI Fp H pa pl j.params) (hFp : ∀ b, Fp b → b < H.next) :
    FW Ee F_run_Check [jV j a l c pa pl pc] H fun r H' => r = .int .i64 (jchk j) ∧ Grow H H' := by
  have hlenp := hP.len
  refine fw_run_Check ?_
  intro H1 e1
  have g1 : Grow H H1 := e1 ▸ Grow.new ok _
  have b1 : H1.get H.next = some (.cells (jC j a l c pa pl pc) 0) := e1 ▸ get_new_self _ _
  have n1 : H1.next = H.next + 1 := by rw [e1]; rfl
  refine ⟨_, cell_of b1 rfl, (known_ok g1.ok).mono ?_⟩
  rintro _ H2 ⟨rfl, g2⟩
  have b2 := g2.get _ _ id b1
  have gg2 := g1.trans g2
  refine ⟨_, rfl, cond_intro (fun h => ⟨by rw [jchk_70 (by simpa using h)], gg2⟩) (fun h => ?_)⟩
  have hp : j.prog ∈ progs := by simpa using h
  refine ⟨_, _, _, cell_of b2 rfl, (gcheck_ok gg2.ok (hG.grow loc_vtx gg2) (fun b hb => by have := hF b hb; have := gg2.next; omega) hf).mono ?_⟩
  rintro _ H3 ⟨rfl, g3⟩
  have b3 := g3.get _ _ id b2
  have gg3 := gg2.trans g3
  refine ⟨_, rfl, cond_intro (fun h => ⟨by rw [jchk_g hp (by simpa using h)], gg3⟩) (fun h => ?_)⟩
  have hc : chk j.graph = 0 := by simpa using h
  have hM := chk_zero.1 hc
  refine ⟨_, _, _, cell_of b3 rfl, cond_dec (fun h => ⟨by rw [jchk_n hp hc (by omega)], gg3⟩) (fun h4 => ?_)⟩
  refine ⟨_, cell_of b3 rfl, _, _, _, cell_of b3 rfl, _, _, _, cell_of b3 rfl, (mcheck_ok gg3.ok (hG.grow loc_vtx gg3) (fun b hb => by have := hF b hb; have := gg3.next; omega) hM (hP.grow loc_int gg3) (fun b hb => by have := hFp b hb; have := gg3.next; omega) hp).mono ?_⟩
  rintro _ H4 ⟨rfl, g4⟩
  refine ⟨_, rfl, cond_intro (fun h => ⟨by rw [jchk_p hp hc (by omega) (by simpa using h)], gg3.trans g4⟩) (fun h => ?_)⟩
  refine limits (P := fun r => Value.int .i64 r = .int .i64 (jchk j) ∧ Grow H H4) (g4.get _ _ id b3) ⟨?_, gg3.trans g4⟩
  rw [jchk_l hp hc (by omega) (by simpa using h)]
end
end Go.Proofs.Cx
namespace Go.Ev
open Go
structure JobX (j : JobW) : Prop where
  vs : ∀ v ∈ j.graph, I64 v.id ∧ I64 v.val ∧ ∀ e ∈ v.edges, PairI e
  ps : ∀ x ∈ j.params, I64 x
theorem JobX.ok {j : JobW} (h : JobX j) (hc : jchk j = 0) : JobI j := by
  obtain ⟨_, h2, h3, _, h5, h6, h7, h8, h9, h10⟩ := jchk_zero hc
  have hM := chk_zero.1 h2
  exact ⟨⟨hM.len, fun v hv => ⟨(h.vs v hv).1, (h.vs v hv).2.1, hM.edge hv, (h.vs v hv).2.2⟩⟩, h3, h.ps, ⟨by omega, h6⟩, ⟨h7, h8⟩, ⟨by omega, h10⟩⟩
theorem progs_short {p : List UInt8} (h : p ∈ progs) : p.length ≤ 9 := by
  rcases mem_progs.1 h with rfl | rfl | rfl | rfl | rfl | rfl | rfl | rfl | rfl | rfl <;> decide
theorem sigs_len : ∀ {ps : List Int}, (∀ x ∈ ps, I64 x) → (ps.flatMap sgB).length ≤ ps.length * 10
  | [], _ => by simp
  | x :: ps, h => by
    have h1 := sigs_len (ps := ps) fun y hy => h y (List.mem_cons_of_mem _ hy)
    have h2 := enc_len64 (fold_lt (h x List.mem_cons_self))
    rw [List.flatMap_cons, List.length_append, List.length_cons]; unfold sgB at *; omega
end Go.Ev
namespace Go.Proofs.Cx
open Go Go.Ev
theorem new_job {H H1 : AH} {cs : List Value} (ok : Ok H) (e1 : H1 = H.new (.cells cs 0)) : Grow H H1 ∧ H1.get H.next = some (.cells cs 0) ∧ H1.next = H.next + 1 := by
  subst e1
  exact ⟨Grow.new ok _, get_new_self _ _, rfl⟩
section
variable {F Fp : Nat → Prop} {a pa : Option Addr} {l c pl pc : Nat} {j : JobW} {H : AH}
end
end Go.Proofs.Cx
namespace Go.Ev
open Go
noncomputable def decE (s : List UInt8) : Int := rEnd s (rJob s (0, 0)).2
def intC (x : Int) : List Value := [.int .i64 x]
end Go.Ev
namespace Go.Proofs.Cx
open Go Go.Ev
theorem int_lt {H : AH} (ok : Ok H) (b o : Nat) (x : Int) (h : PInt .i64 H b o x) : b < H.next := cell_lt ok h
theorem own_sli {F : Nat → Prop} {H : AH} {a : Option Addr} {l c : Nat} {ps : List Int} (h : Own H 1 a l c (ps.flatMap intC)) (hF : ∀ x, a = some x → F x.block) : SlI F H a l ps :=
  h.sl (fun _ => rfl) (by decide) hF fun _ _ _ _ k => k 0 _ rfl
theorem own_sli_len {H : AH} {a : Option Addr} {l c : Nat} {ps : List Int} (h : Own H 1 a l c (ps.flatMap intC)) : l = ps.length := by
  have := h.len
  rw [flatMap_len (sz := 1) (fun _ => rfl)] at this
  omega
theorem slv_weak {F F' : Nat → Prop} {H : AH} {a : Option Addr} {l : Nat} {G : List Vtx} (ok : Ok H) (h : SlV F H a l G) (k : ∀ b, F b → b < H.next → F' b) : SlV F' H a l G := by
  refine ⟨h.len, fun hp => ⟨(h.base hp).1, k _ (h.base hp).2 ?_⟩, fun i hi => ?_⟩
  · obtain ⟨c1, _⟩ := h.cells 0 (by have := h.len; omega)
    exact cell_lt ok c1
  · obtain ⟨c1, c2, ea, el, ec, c3, c4⟩ := h.cells i hi
    exact ⟨c1, c2, ea, el, ec, c3, c4.weak k (edge_lt ok)⟩
theorem ret_job {Q : Value → AH → Prop} {H : AH} {vb rb : Nat} {j : JobW} {a : Option Addr} {l c : Nat} {pa : Option Addr} {pl pc : Nat} {x1 x2 x3 x4 x5 x6 : Value} (ok : Ok H) (hv : H.get vb = some (.cells (jC j a l c pa pl pc) 0)) (hr : H.get rb = some (.cells [x1, x2, x3, x4, x5, x6] 0))
    (hQ : ∀ H3, Mod (· = rb) H H3 → Q (jV j a l c pa pl pc) H3) :
    ∃ (t1 : List UInt8) (t2a : Option Addr) (t2l : Nat) (t2c : Nat) (t3a : Option Addr) (t3l : Nat) (t3c : Nat) (t4 : Int) (t5 : Int) (t6 : Int),
      H.cell vb (0 + 0) = some (.string ⟨⟨t1⟩⟩) ∧ H.cell vb (0 + 1) = some (.slice t2a t2l t2c) ∧ H.cell vb (0 + 2) = some (.slice t3a t3l t3c) ∧ H.cell vb (0 + 3) = some (.int .i64 t4) ∧ H.cell vb (0 + 4) = some (.int .i64 t5) ∧ H.cell vb (0 + 5) = some (.int .i64 t6) ∧
      ∃ (H3 : AH), storeCellsv H rb 0 [.string ⟨⟨t1⟩⟩, .slice t2a t2l t2c, .slice t3a t3l t3c, .int .i64 t4, .int .i64 t5, .int .i64 t6] = some H3 ∧
      ∃ (r1 : List UInt8) (r2a : Option Addr) (r2l : Nat) (r2c : Nat) (r3a : Option Addr) (r3l : Nat) (r3c : Nat) (r4 : Int) (r5 : Int) (r6 : Int),
      H3.cell rb (0 + 0) = some (.string ⟨⟨r1⟩⟩) ∧ H3.cell rb (0 + 1) = some (.slice r2a r2l r2c) ∧ H3.cell rb (0 + 2) = some (.slice r3a r3l r3c) ∧ H3.cell rb (0 + 3) = some (.int .i64 r4) ∧ H3.cell rb (0 + 4) = some (.int .i64 r5) ∧ H3.cell rb (0 + 5) = some (.int .i64 r6) ∧
      Q (.agg ⟨[.string ⟨⟨r1⟩⟩, .slice r2a r2l r2c, .slice r3a r3l r3c, .int .i64 r4, .int .i64 r5, .int .i64 r6]⟩) H3 := by
  have k := get_set_self H rb (.cells (lset [x1, x2, x3, x4, x5, x6] 0 (jC j a l c pa pl pc)) 0)
  exact ⟨_, _, _, _, _, _, _, _, _, _, cell_of hv rfl, cell_of hv rfl, cell_of hv rfl, cell_of hv rfl, cell_of hv rfl, cell_of hv rfl, _, store_of (o := 0) hr (by simp) rfl,
    _, _, _, _, _, _, _, _, _, _, cell_of k rfl, cell_of k rfl, cell_of k rfl, cell_of k rfl, cell_of k rfl, cell_of k rfl, hQ _ (Mod.set ok hr _)⟩
abbrev zJob : List Value := [.string ⟨⟨[]⟩⟩, .slice none 0 0, .slice none 0 0, .int .i64 0, .int .i64 0, .int .i64 0]
section
variable {H : AH} {b : Nat} {s : List UInt8} {q : RSt}
theorem xjob_ok (ok : Ok H) (h : Rd H b s q.1 q.2) (hp : AtOk s q) (hs : s.length ≤ 4611686018427387904) :
    FW Ee F_run_TakeJob [.pointer (some ⟨b, 0, none⟩)] H fun r H' => ∃ a l c pa pl pc, r = jV (rJob s q).1 a l c pa pl pc ∧ SlV (fun x => H.next ≤ x ∧ x < H'.next) H' a l (rJob s q).1.graph ∧ SlI (fun x => H.next ≤ x ∧ x < H'.next) H' pa pl (rJob s q).1.params ∧
      Rd H' b s (rJob s q).2.1 (rJob s q).2.2 ∧ Mod (· = b) H H' := by
  have hbl := ok.lt h
  refine fw_run_TakeJob ?_
  intro H1 e1
  obtain ⟨g1, z1, n1⟩ := new_job ok e1
  have p1 := rTxt_ok hp
  have p2 := rGraph_ok p1.1
  have p3 := rCnt_ok (m := 4) p2.1
  refine (xtxt_ok g1.ok (h.mod g1 id) hp hs).mono ?_
  rintro _ H2 ⟨rfl, r2, m2⟩
  have n2 := m2.next
  refine ⟨_, rfl, (xgraph_ok m2.ok r2 p1.1 hs).mono ?_⟩
  rintro _ H3 ⟨a, l, c, rfl, hG, r3, m3⟩
  have n3 := m3.next
  refine ⟨_, _, _, rfl, ?_⟩
  intro H4 e4
  obtain ⟨H5, e5, b5, g5, n5⟩ := fresh_store (vs := [.string ⟨⟨(rTxt s q).1⟩⟩, .slice a l c, .slice none 0 0, .int .i64 0, .int .i64 0, .int .i64 0]) e4 rfl rfl m3.ok
  have m13 := m2.trans m3
  refine ⟨H5, e5, (xcnt_ok 4 (by omega) g5.ok (r3.mod g5 id) p2.1 hs).mono ?_⟩
  rintro _ H6 ⟨rfl, r6, m6⟩
  have n6 := m6.next
  have b6 := m6.get _ _ (show ¬ H3.next = b by omega) b5
  have z6 := m6.get _ _ (show ¬ H.next = b by omega) (g5.get _ _ id (m13.get _ _ (show ¬ H.next = b by omega) z1))
  have mm : Mod (· = b) H H6 := (((g1.le (fun _ h _ => h.elim) ok).trans m13).add g5).trans m6
  have hG6 : SlV (fun x => H1.next ≤ x ∧ x < H3.next) H6 a l (rGraph s (rTxt s q).2).1 :=
    ((slv_weak m3.ok hG (F' := fun x => H1.next ≤ x ∧ x < H3.next) fun x hx _ => ⟨by omega, hx.2⟩).grow loc_vtx g5).mod loc_vtx m6 fun x hx e => by omega
  obtain ⟨T, hT⟩ : ∃ T, T = rTxt s q := ⟨_, rfl⟩
  obtain ⟨Gq, hGq⟩ : ∃ Gq, Gq = rGraph s (rTxt s q).2 := ⟨_, rfl⟩
  obtain ⟨N, hN⟩ : ∃ N, N = (rCnt s 4 (rGraph s (rTxt s q).2).2).1 := ⟨_, rfl⟩
  obtain ⟨q6, hq6⟩ : ∃ q6, q6 = (rCnt s 4 (rGraph s (rTxt s q).2).2).2 := ⟨_, rfl⟩
  obtain ⟨P, hP⟩ : ∃ P, P = rMany (rSig s) N q6 := ⟨_, rfl⟩
  obtain ⟨A, hA⟩ : ∃ A, A = rCnt s 1000 P.2 := ⟨_, rfl⟩
  obtain ⟨B, hB⟩ : ∃ B, B = rCnt s 65536 A.2 := ⟨_, rfl⟩
  obtain ⟨C, hC⟩ : ∃ C, C = rCnt s 16 B.2 := ⟨_, rfl⟩
  obtain ⟨J, hJ⟩ : ∃ J : JobW, J = ⟨T.1, Gq.1, P.1, A.1, B.1, C.1⟩ := ⟨_, rfl⟩
  have hres : rJob s q = (J, if C.2.2 = 0 then (C.2.1, jchk J) else C.2) := by
    rw [hJ, hC, hB, hA, hP, hN, hq6, hGq, hT]; rfl
  have hJI := (rJob_ok hp).2.1
  rw [hres] at hJI ⊢
  rw [← hN, ← hq6] at p3
  rw [← hq6] at r6
  rw [← hN]
  rw [← hT] at b6
  rw [← hGq] at hG6
  have pP := rMany_ok (one := rSig s) (R := I64) (fun q h => rSig_ok h) (n := N) p3.1
  rw [← hP] at pP
  have pA := rCnt_ok (m := 1000) pP.1
  rw [← hA] at pA
  have pB := rCnt_ok (m := 65536) pA.1
  rw [← hB] at pB
  refine ⟨_, rfl, ?_⟩
  -- behind the parameters
  refine ⟨fun _ Hx => ∃ pa pl pc, Hx.get H3.next = some (.cells [.string ⟨⟨T.1⟩⟩, .slice a l c, .slice pa pl pc, .int .i64 0, .int .i64 0, .int .i64 0] 0) ∧ SlI (fun x => H3.next < x ∧ x < Hx.next) Hx pa pl P.1 ∧ Rd Hx b s P.2.1 P.2.2 ∧
      Hx.get H.next = some (.cells zJob 0) ∧ SlV (fun x => H1.next ≤ x ∧ x < H3.next) Hx a l Gq.1 ∧ Mod (· = b) H Hx ∧ H3.next < Hx.next, ?_, ?_⟩
  · refine ⟨fun m n4 Hb => ∃ (k : Nat) (ps : List Int) (q' : RSt) (pa : Option Addr) (pl pc : Nat), n4 = k ∧ k = m ∧ Rd Hb b s q'.1 q'.2 ∧ AtOk s q' ∧ Hb.get H3.next = some (.cells [.string ⟨⟨T.1⟩⟩, .slice a l c, .slice pa pl pc, .int .i64 0, .int .i64 0, .int .i64 0] 0) ∧ Own Hb 1 pa pl pc (ps.flatMap intC) ∧
        (∀ x, pa = some x → H6.next ≤ x.block) ∧ Hb.get H.next = some (.cells zJob 0) ∧ ps.length + k ≤ 4 ∧ ps ++ (rMany (rSig s) k q').1 = P.1 ∧ (rMany (rSig s) k q').2 = P.2 ∧ SlV (fun x => H1.next ≤ x ∧ x < H3.next) Hb a l Gq.1 ∧ Mod (· = b) H Hb ∧ H6.next ≤ Hb.next,
      ⟨_, N, [], q6, none, 0, 0, rfl, rfl, r6, p3.1, b6, Own.nil _ _, fun x e => (by cases e), z6, by simpa using p3.2, by rw [hP]; rfl, by rw [hP], hG6, mm, Nat.le_refl _⟩, ?_⟩
    rintro m n4 Hb ⟨k, ps, q', pa, pl, pc, rfl, rfl, hr, hat, hv, hO, hfar, hz, hlen, hl1, hl2, hg, hm, hn⟩
    have hl := own_sli_len hO
    have fin : (q'.2 ≠ 0 ∨ k = 0) → ∃ pa pl pc, Hb.get H3.next = some (.cells [.string ⟨⟨T.1⟩⟩, .slice a l c, .slice pa pl pc, .int .i64 0, .int .i64 0, .int .i64 0] 0) ∧ SlI (fun x => H3.next < x ∧ x < Hb.next) Hb pa pl P.1 ∧ Rd Hb b s P.2.1 P.2.2 ∧
        Hb.get H.next = some (.cells zJob 0) ∧ SlV (fun x => H1.next ≤ x ∧ x < H3.next) Hb a l Gq.1 ∧ Mod (· = b) H Hb ∧ H3.next < Hb.next := by
      intro h
      rw [rMany_stop h] at hl1 hl2
      rw [List.append_nil] at hl1
      refine ⟨pa, pl, pc, hv, ?_, by rw [← hl2]; exact hr, hz, hg, hm, by omega⟩
      rw [← hl1]
      exact own_sli hO fun x ex => ⟨by have := hfar x ex; omega, own_lt hO hm.ok ex⟩
    refine cond_dec (fun hpos => ?_) (fun hz0 => fin (.inr (by omega)))
    refine (rerr_ok hr).mono ?_
    rintro _ _ ⟨rfl, rfl⟩
    refine ⟨_, rfl, cond_intro (fun he => ?_) (fun he => fin (.inl (by simpa using he)))⟩
    have he : q'.2 = 0 := by simpa using he
    have pa' := rSig_ok hat
    refine ⟨pa, pl, pc, cell_of hv rfl, (xsig_ok hm.ok hr hat hs).mono ?_⟩
    rintro _ H9 ⟨rfl, r9, m9⟩
    have n9 := m9.next
    refine ⟨_, rfl, ?_⟩
    intro H10 e10
    have g10 : Grow H9 H10 := e10 ▸ Grow.new m9.ok _
    have n10 : H10.next = H9.next + 1 := by rw [e10]; rfl
    have hO10 := (hO.mod m9 fun x hx y ey e => by have := hfar y ey; omega).mod g10 fun _ h => h.elim
    have hv10 := g10.get _ _ id (m9.get _ _ (show ¬ H3.next = b by omega) hv)
    obtain ⟨H11, k1, k2, k3, k4⟩ := hO10.append (n := 1) (bytes := 8) (new := [.int .i64 (rSig s q').1]) (x := .slice (some ⟨H9.next, 0, none⟩) 1 2) g10.ok rfl (takev_new e10 rfl) (by omega) rfl rfl (by omega) (by omega)
    have lowS : ∀ {x : Nat}, x < H6.next → ¬ (¬ Off pa x) := fun hx h => h fun z ez e => by have := hfar z ez; omega
    have hv11 := k4.get _ _ (lowS (by omega)) hv10
    have m12 := Mod.set k4.ok hv11 (.cells (lset [.string ⟨⟨T.1⟩⟩, .slice a l c, .slice pa pl pc, .int .i64 0, .int .i64 0, .int .i64 0] 2 [.slice (some ⟨H10.next, 0, none⟩) (pl + 1) (2 * (pl + 1) + 1)]) 0)
    refine ⟨_, _, _, H11, k1, _, store_of (o := 2) hv11 (by simp) rfl, cell_of hv10 rfl, ?_⟩
    intro t20 e20
    rw [wrap_i64 (by omega) (by omega)] at e20
    obtain ⟨k, rfl⟩ : ∃ k', k = k' + 1 := ⟨k - 1, by omega⟩
    have e20 : t20 = (k : Int) := by omega
    subst e20
    rw [rMany_go he] at hl1 hl2
    have up : ∀ {x : Nat} {o : AObj}, x < H6.next → x ≠ H3.next → x ≠ b → Hb.get x = some o → (H11.set H3.next (.cells (lset [.string ⟨⟨T.1⟩⟩, .slice a l c, .slice pa pl pc, .int .i64 0, .int .i64 0, .int .i64 0] 2 [.slice (some ⟨H10.next, 0, none⟩) (pl + 1) (2 * (pl + 1) + 1)]) 0)).get x = some o :=
      fun h1 h2 h3 h => m12.get _ _ h2 (k4.get _ _ (lowS h1) (g10.get _ _ id (m9.get _ _ h3 h)))
    refine ⟨k, by omega, k, ps ++ [(rSig s q').1], (rSig s q').2, _, _, _, rfl, rfl, ?_, pa'.1, get_set_self _ _ _, ?_, ?_, up (by omega) (by omega) (by omega) hz, by rw [List.length_append, List.length_singleton]; omega, ?_, hl2, ?_, ?_, ?_⟩
    · exact m12.get _ _ (by omega) (k4.get _ _ (lowS (by omega)) (g10.get _ _ id r9))
    · rw [List.flatMap_append, List.flatMap_singleton]
      exact k2.mod m12 fun x hx z ez e => by cases ez; simp only at e; omega
    · intro z ez
      cases ez
      simp only; omega
    · rw [List.append_assoc]; exact hl1
    · exact hg.keep loc_vtx fun x o hx ho => up (by omega) (by omega) (by omega) ho
    · refine (((hm.trans m9).add g10).ext k4 ok fun x hx => .inr ?_).ext m12 ok fun x hx => .inr (by omega)
      obtain ⟨z, ez, rfl⟩ := off_not hx
      have := hfar z ez
      omega
    · show H6.next ≤ H11.next
      omega
  · rintro _ H13 ⟨pa, pl, pc, hv, hPs, hr, hz, hg, hm, hn⟩
    refine (xcnt_ok 1000 (by omega) hm.ok hr pP.1 hs).mono ?_
    rintro _ H14 ⟨rfl, r14, m14⟩
    rw [← hA] at r14 ⊢
    refine ⟨_, rfl, (xcnt_ok 65536 (by omega) m14.ok r14 pA.1 hs).mono ?_⟩
    rintro _ H15 ⟨rfl, r15, m15⟩
    rw [← hB] at r15 ⊢
    refine ⟨_, rfl, (xcnt_ok 16 (by omega) m15.ok r15 pB.1 hs).mono ?_⟩
    rintro _ H16 ⟨rfl, r16, m16⟩
    rw [← hC] at r16 ⊢
    have m1416 := (m14.trans m15).trans m16
    have n16 := m1416.next
    have v16 := m1416.get _ _ (show ¬ H3.next = b by omega) hv
    refine ⟨_, rfl, _, store_of (o := 3) v16 (by simp) rfl, _, store_of (o := 4) (get_set_self _ _ _) (by simp [lset]) rfl, _, store_of (o := 5) (get_set_self _ _ _) (by simp [lset]) rfl, ?_⟩
    have m17 := Mod.set m16.ok v16 (.cells (lset [.string ⟨⟨T.1⟩⟩, .slice a l c, .slice pa pl pc, .int .i64 0, .int .i64 0, .int .i64 0] 3 [.int .i64 (A.1 : Int)]) 0)
    have v17 := get_set_self H16 H3.next (.cells (lset [.string ⟨⟨T.1⟩⟩, .slice a l c, .slice pa pl pc, .int .i64 0, .int .i64 0, .int .i64 0] 3 [.int .i64 (A.1 : Int)]) 0)
    obtain ⟨H17, h17⟩ : ∃ x, x = H16.set H3.next (.cells (lset [.string ⟨⟨T.1⟩⟩, .slice a l c, .slice pa pl pc, .int .i64 0, .int .i64 0, .int .i64 0] 3 [.int .i64 (A.1 : Int)]) 0) := ⟨_, rfl⟩
    rw [← h17] at m17 v17 ⊢
    have m18 := Mod.set m17.ok v17 (.cells (lset (lset [.string ⟨⟨T.1⟩⟩, .slice a l c, .slice pa pl pc, .int .i64 0, .int .i64 0, .int .i64 0] 3 [.int .i64 (A.1 : Int)]) 4 [.int .i64 (B.1 : Int)]) 0)
    have v18 := get_set_self H17 H3.next (.cells (lset (lset [.string ⟨⟨T.1⟩⟩, .slice a l c, .slice pa pl pc, .int .i64 0, .int .i64 0, .int .i64 0] 3 [.int .i64 (A.1 : Int)]) 4 [.int .i64 (B.1 : Int)]) 0)
    obtain ⟨H18, h18⟩ : ∃ x, x = H17.set H3.next (.cells (lset (lset [.string ⟨⟨T.1⟩⟩, .slice a l c, .slice pa pl pc, .int .i64 0, .int .i64 0, .int .i64 0] 3 [.int .i64 (A.1 : Int)]) 4 [.int .i64 (B.1 : Int)]) 0) := ⟨_, rfl⟩
    rw [← h18] at m18 v18 ⊢
    have m19 := Mod.set m18.ok v18 (.cells (lset (lset (lset [.string ⟨⟨T.1⟩⟩, .slice a l c, .slice pa pl pc, .int .i64 0, .int .i64 0, .int .i64 0] 3 [.int .i64 (A.1 : Int)]) 4 [.int .i64 (B.1 : Int)]) 5 [.int .i64 (C.1 : Int)]) 0)
    have v19 := get_set_self H18 H3.next (.cells (lset (lset (lset [.string ⟨⟨T.1⟩⟩, .slice a l c, .slice pa pl pc, .int .i64 0, .int .i64 0, .int .i64 0] 3 [.int .i64 (A.1 : Int)]) 4 [.int .i64 (B.1 : Int)]) 5 [.int .i64 (C.1 : Int)]) 0)
    obtain ⟨H19, h19⟩ : ∃ x, x = H18.set H3.next (.cells (lset (lset (lset [.string ⟨⟨T.1⟩⟩, .slice a l c, .slice pa pl pc, .int .i64 0, .int .i64 0, .int .i64 0] 3 [.int .i64 (A.1 : Int)]) 4 [.int .i64 (B.1 : Int)]) 5 [.int .i64 (C.1 : Int)]) 0) := ⟨_, rfl⟩
    rw [← h19] at m19 v19 ⊢
    have v19 : H19.get H3.next = some (.cells (jC J a l c pa pl pc) 0) := by rw [v19, hJ]; rfl
    have n19 : H19.next = H16.next := by rw [h19, h18, h17]; rfl
    have x19 : Mod (· = H3.next) H16 H19 := (m17.trans m18).trans m19
    have r19 := x19.get _ _ (show ¬ b = H3.next by omega) r16
    have z19 := x19.get _ _ (show ¬ H.next = H3.next by omega) (m1416.get _ _ (show ¬ H.next = b by omega) hz)
    have G19 : SlV (fun x => H1.next ≤ x ∧ x < H3.next) H19 a l J.graph := by
      rw [hJ]
      exact (hg.mod loc_vtx m1416 fun x hx e => by omega).mod loc_vtx x19 fun x hx e => by omega
    have P19 : SlI (fun x => H3.next < x ∧ x < H13.next) H19 pa pl J.params := by
      rw [hJ]
      exact (hPs.mod loc_int m1416 fun x hx e => by omega).mod loc_int x19 fun x hx e => by omega
    have mm19 : Mod (· = b) H H19 := (hm.trans m1416).ext x19 ok fun x hx => .inr (by omega)
    have r19' : Rd H19 b s C.2.1 C.2.2 := r19
    have last : ∀ {Hx : AH} {q'' : RSt}, Hx.get H3.next = some (.cells (jC J a l c pa pl pc) 0) → Hx.get H.next = some (.cells zJob 0) → SlV (fun x => H1.next ≤ x ∧ x < H3.next) Hx a l J.graph → SlI (fun x => H3.next < x ∧ x < H13.next) Hx pa pl J.params → Rd Hx b s q''.1 q''.2 → Mod (· = b) H Hx → H13.next ≤ Hx.next →
        q'' = (if C.2.2 = 0 then (C.2.1, jchk J) else C.2) → ∀ H3x, Mod (· = H.next) Hx H3x → ∃ a' l' c' pa' pl' pc', jV J a l c pa pl pc = jV J a' l' c' pa' pl' pc' ∧ SlV (fun x => H.next ≤ x ∧ x < H3x.next) H3x a' l' J.graph ∧ SlI (fun x => H.next ≤ x ∧ x < H3x.next) H3x pa' pl' J.params ∧
          Rd H3x b s (if C.2.2 = 0 then (C.2.1, jchk J) else C.2).1 (if C.2.2 = 0 then (C.2.1, jchk J) else C.2).2 ∧ Mod (· = b) H H3x := by
      intro Hx q'' hv hz hg hps hr hm hnx hq Hy my
      have ny := my.next
      refine ⟨a, l, c, pa, pl, pc, rfl, ?_, ?_, ?_, hm.ext my ok fun x hx => .inr (by omega)⟩
      · exact slv_weak my.ok (hg.mod loc_vtx my fun x hx e => by omega) fun x hx _ => ⟨by omega, by omega⟩
      · exact (hps.mod loc_int my fun x hx e => by omega).weak (fun x hx _ => ⟨by omega, by omega⟩) (int_lt my.ok)
      · rw [← hq]; exact my.get _ _ (by omega) hr
    refine (rerr_ok r19').mono ?_
    rintro _ _ ⟨rfl, rfl⟩
    refine ⟨_, rfl, cond_intro (fun he => ?_) (fun he => ?_)⟩
    · have he : C.2.2 = 0 := by simpa using he
      refine ⟨_, _, _, _, _, _, _, _, _, _, cell_of v19 rfl, cell_of v19 rfl, cell_of v19 rfl, cell_of v19 rfl, cell_of v19 rfl, cell_of v19 rfl, (check_ok (j := J) mm19.ok G19 (fun x hx => by omega) hJI.graph.fit P19 (fun x hx => by omega)).mono ?_⟩
      rintro _ H20 ⟨rfl, g20⟩
      refine ⟨_, rfl, (rfail_ok g20.ok (r19'.mod g20 id) _).mono ?_⟩
      rintro _ H21 ⟨rfl, r21, m21⟩
      have n20 := g20.next
      have n21 := m21.next
      rw [if_pos he] at r21
      refine ⟨rfl, ret_job (Q := fun r H' => ∃ a' l' c' pa' pl' pc', r = jV J a' l' c' pa' pl' pc' ∧ SlV (fun x => H.next ≤ x ∧ x < H'.next) H' a' l' J.graph ∧ SlI (fun x => H.next ≤ x ∧ x < H'.next) H' pa' pl' J.params ∧ Rd H' b s (if C.2.2 = 0 then (C.2.1, jchk J) else C.2).1 (if C.2.2 = 0 then (C.2.1, jchk J) else C.2).2 ∧ Mod (· = b) H H')
        m21.ok (m21.get _ _ (show ¬ H3.next = b by omega) (g20.get _ _ id v19)) (m21.get _ _ (show ¬ H.next = b by omega) (g20.get _ _ id z19)) ?_⟩
      exact last (q'' := (C.2.1, jchk J)) (m21.get _ _ (show ¬ H3.next = b by omega) (g20.get _ _ id v19)) (m21.get _ _ (show ¬ H.next = b by omega) (g20.get _ _ id z19)) ((G19.grow loc_vtx g20).mod loc_vtx m21 fun x hx e => by omega) ((P19.grow loc_int g20).mod loc_int m21 fun x hx e => by omega) r21 ((mm19.add g20).trans m21) (by omega) (by rw [if_pos he])
    · have he : C.2.2 ≠ 0 := by simpa using he
      exact ret_job (Q := fun r H' => ∃ a' l' c' pa' pl' pc', r = jV J a' l' c' pa' pl' pc' ∧ SlV (fun x => H.next ≤ x ∧ x < H'.next) H' a' l' J.graph ∧ SlI (fun x => H.next ≤ x ∧ x < H'.next) H' pa' pl' J.params ∧ Rd H' b s (if C.2.2 = 0 then (C.2.1, jchk J) else C.2).1 (if C.2.2 = 0 then (C.2.1, jchk J) else C.2).2 ∧ Mod (· = b) H H')
        mm19.ok v19 z19 (last (q'' := C.2) v19 z19 G19 P19 r19' mm19 (by omega) (by rw [if_neg he]))
end
structure Told (s : List UInt8) (H H' : AH) (a : Option Addr) (l : Nat) (pa : Option Addr) (pl : Nat) (j : JobW) (e : Int) : Prop where
  err : e = decE s
  good : e = 0 → j = (rJob s (0, 0)).1 ∧ SlV (fun x => H.next ≤ x ∧ x < H'.next) H' a l j.graph ∧ SlI (fun x => H.next ≤ x ∧ x < H'.next) H' pa pl j.params
  bad : e ≠ 0 → j.prog = [] ∧ l = 0
end Go.Proofs.Cx
namespace Go.Proofs.Cx
open Go Go.Ev
end Go.Proofs.Cx
namespace Go.Ev
open Go
end Go.Ev
namespace Go.Proofs.Cx
open Go Go.Ev
end Go.Proofs.Cx
