/- append, copy, clear: the evaluator's and the machine's. -/
import Derived.Test.YthbphkakekdfkaaGreatDoorEv11
namespace Go.Ev
open Go Go.RowKit
section
variable {E : Env} {P : Program} {ρ : Ren}
theorem Post.kill [Sy] {H : AH} {w : World} (h : Rel ρ H w) {b : Nat} {p : Pl} (hb : ρ b = some p) : Post ρ H w ρ (H.kill b) w := by
  refine ⟨Ext.refl _, (fun b' q a e => by rw [a] at e; cases e), Nat.le_refl _, ?_, rfl, rfl, rfl, Nat.le_refl _, fun _ _ _ => rfl, ?_, ?_⟩
  · intro b' _ hn
    rw [AH.get_kill, if_neg]
    intro e; subst e; rw [hb] at hn; cases hn
  · intro b' q o h1 h2 _
    rw [AH.get_kill] at h2
    by_cases e : b' = b
    · rw [if_pos e] at h2; cases h2
    · rw [if_neg e] at h2; exact ⟨b', q, o, h1, h2, id, rfl⟩
  · refine ⟨?_, ?_, ?_⟩
    · intro b' q o h1 h2
      rw [AH.get_kill] at h2
      by_cases e : b' = b
      · rw [if_pos e] at h2; cases h2
      · rw [if_neg e] at h2; exact h.obj b' q o h1 h2
    · intro b1 b2 q1 q2 o1 o2 e1 e2 g1 g2 hw hc
      rw [AH.get_kill] at g1 g2
      by_cases e : b1 = b
      · rw [if_pos e] at g1; cases g1
      · by_cases e' : b2 = b
        · rw [if_pos e'] at g2; cases g2
        · rw [if_neg e] at g1; rw [if_neg e'] at g2
          exact h.inj b1 b2 q1 q2 o1 o2 e1 e2 g1 g2 hw hc
    · intro b' hb'
      rw [AH.get_kill]
      split
      · rfl
      · exact h.fresh b' hb'
theorem growIn_post [Sy] {H : AH} {w : World} (hR : Rel ρ H w) (hf : ρ H.next = none) {b off len n size : Nat} {p : Pl} {cs new new' : List Value} {es c' : Nat} (hb : ρ b = some p) (hg : H.get b = some (.cells cs es))
    (hes : es = size) (hle : off + len * size ≤ cs.length) (hv : VRs ρ new new') (hn : new.length = n * size) (h1 : new.all oneCell = true)
    (hroom : len + n ≤ c') (hz : p.d + off + c' * p.e ≤ p.z) :
    ∃ ρ' w', (storeCells ⟨p.c, p.d + (off + len * size), none⟩ new').run P w = .ok () w' ∧
      Post ρ H w ρ' (growv (H.kill b) size ((cs.drop off).take (len * size) ++ new) (len + n)).2 w' ∧
      VR ρ' (growv (H.kill b) size ((cs.drop off).take (len * size) ++ new) (len + n)).1 (.slice (some ⟨p.c, p.d + off, none⟩) (len + n) c') := by
  obtain ⟨arr, t, fz, hC⟩ := hR.cells hb hg
  have hlen := hv.length
  have hfit := hC.fits
  have hsz := hC.size
  have hpe : p.e = size := by rw [← hes]; exact hC.es.symm
  have hmul : len * size + n * size ≤ c' * size := by rw [← Nat.add_mul]; exact Nat.mul_le_mul_right _ hroom
  rw [hpe] at hz
  obtain ⟨cur', g1, g2, g3, g4, g5, g6, g7, g8⟩ := setCells_heap p.c t fz new' (p.d + (off + len * size)) arr w hC.heap
  let q : Pl := ⟨p.c, p.d + off, size, p.z⟩
  have hx : Ext ρ (ρ.add H.next q) := Ren.ext_add hf
  have hnb : H.next ≠ b := by intro e; rw [e] at hf; rw [hb] at hf; cases hf
  have hget : ∀ b', (growv (H.kill b) size ((cs.drop off).take (len * size) ++ new) (len + n)).2.get b' = if b' = H.next then some (.cells ((cs.drop off).take (len * size) ++ new) size) else if b' = b then none else H.get b' := by
    intro b'
    show ((H.kill b).new _).get b' = _
    rw [AH.get_new]
    show (if b' = H.next then _ else (H.kill b).get b') = _
    rw [AH.get_kill]
  have hlold : ((cs.drop off).take (len * size)).length = len * size := by simp; omega
  refine ⟨ρ.add H.next q, w.setCells p.c (p.d + (off + len * size)) new', ?_, ?_, ?_⟩
  · have := run_storeCells_cells (P := P) p.c (p.d + (off + len * size)) new' 0 w (fun j hj => by
        simp only [World.cell?, hC.heap, Option.isSome_none, Bool.false_eq_true, if_false, Nat.add_zero]
        rw [Array.getElem?_eq_getElem (by omega)]; rfl) (fun j hj => by
        simp only [World.frozen?, hC.heap, Nat.add_zero]
        have := hC.free (p.d + (off + len * size) + j) (by omega)
        simpa using this) (hv.one h1)
    simpa using this
  · refine ⟨hx, ?_, ?_, ?_, g5, g6, g7, by omega, ?_, ?_, ?_⟩
    · intro b' r a e
      unfold Ren.add at e
      by_cases hb' : b' = H.next
      · subst hb'; simp [growv, AH.new, AH.kill]
      · rw [if_neg hb', a] at e; cases e
    · simp [growv, AH.new, AH.kill]
    · intro b' hb' hn'
      rw [hget, if_neg (by omega), if_neg]
      intro e; subst e; rw [hb] at hn'; cases hn'
    · intro c _ hi
      exact g4 c fun e => hi b p _ hb hg rfl e.symm
    · intro b' r o h1 h2 _
      rw [hget] at h2
      unfold Ren.add at h1
      by_cases e : b' = H.next
      · rw [if_pos e] at h1; cases h1; exact ⟨b, p, _, hb, hg, fun _ => rfl, rfl⟩
      · rw [if_neg e] at h1 h2
        by_cases e' : b' = b
        · rw [if_pos e'] at h2; cases h2
        · rw [if_neg e'] at h2; exact ⟨b', r, o, h1, h2, id, rfl⟩
    · refine ⟨?_, ?_, ?_⟩
      · intro b' r o h1 h2
        rw [hget] at h2
        unfold Ren.add at h1
        by_cases e : b' = H.next
        · rw [if_pos e] at h1 h2; cases h1; cases h2
          refine ⟨_, g1, .cells (by rw [g2, hsz]) rfl ?_ ?_ hC.free fun h0 hl => absurd hl (by subst h0; simp [hn])⟩
          · simp only [List.length_append, hlold, q]; omega
          · intro i v e2
            have hil : i < len * size + new.length := by
              have := (List.getElem?_eq_some_iff.1 e2).1
              simp only [List.length_append, hlold] at this; exact this
            simp only [q]
            rw [g3 (p.d + off + i) (by omega)]
            by_cases h3 : i < len * size
            · rw [List.getElem?_append_left (by omega), List.getElem?_take, if_pos h3, List.getElem?_drop] at e2
              rw [if_neg (by omega)]
              obtain ⟨v', k1, k2⟩ := hC.rel.get e2
              rw [List.getElem?_take, if_pos (by omega), List.getElem?_drop] at k1
              exact ⟨v', by rw [show p.d + off + i = p.d + (off + i) from by omega]; simpa using k1, k2.mono hx⟩
            · rw [List.getElem?_append_right (by omega), hlold] at e2
              rw [if_pos (by omega)]
              obtain ⟨v', k1, k2⟩ := hv.get e2
              exact ⟨v', by rw [show p.d + off + i - (p.d + (off + len * size)) = i - len * size from by omega]; exact k1, k2.mono hx⟩
        · rw [if_neg e] at h1 h2
          by_cases e' : b' = b
          · rw [if_pos e'] at h2; cases h2
          · rw [if_neg e'] at h2
            obtain ⟨ob', k1, k2⟩ := hR.obj b' r o h1 h2
            refine ⟨ob', ?_, k2.mono hx⟩
            rw [g4 r.c fun ec => e' (hR.inj b b' p r _ o hb h1 hg h2 rfl ec.symm).symm, k1]
      · intro b1 b2 q1 q2 x1 x2 e1 e2 k1 k2 hw hc
        rw [hget] at k1 k2
        unfold Ren.add at e1 e2
        by_cases c1 : b1 = H.next
        · by_cases c2 : b2 = H.next
          · omega
          · rw [if_pos c1] at e1; rw [if_neg c2] at e2 k2; cases e1
            by_cases d2 : b2 = b
            · rw [if_pos d2] at k2; cases k2
            · rw [if_neg d2] at k2
              exact (d2 (hR.inj b b2 p q2 _ x2 hb e2 hg k2 rfl hc).symm).elim
        · by_cases c2 : b2 = H.next
          · rw [if_pos c2] at e2; rw [if_neg c1] at e1 k1; cases e2
            by_cases d1 : b1 = b
            · rw [if_pos d1] at k1; cases k1
            · rw [if_neg d1] at k1
              exact (d1 (hR.inj b1 b q1 p x1 _ e1 hb k1 hg hw hc)).elim
          · rw [if_neg c1] at e1 k1; rw [if_neg c2] at e2 k2
            by_cases d1 : b1 = b
            · rw [if_pos d1] at k1; cases k1
            · by_cases d2 : b2 = b
              · rw [if_pos d2] at k2; cases k2
              · rw [if_neg d1] at k1; rw [if_neg d2] at k2
                exact hR.inj b1 b2 q1 q2 x1 x2 e1 e2 k1 k2 hw hc
      · intro b' hb'
        rw [hget]
        have hb'' : H.next + 1 ≤ b' := hb'
        rw [if_neg (by omega)]
        split
        · rfl
        · exact hR.fresh b' (by omega)
  · have := VR.sl (ρ := ρ.add H.next q) (b := H.next) (o := 0) (n := len + n) (c := 2 * (len + n) + 1) (c' := c') (p := q) (Ren.add_self _ _ _) (by omega) (by omega) (by intro _; simp only [q]; omega)
    exact this
theorem zeroCells_len (z : Array Value) (n : Nat) : (Builtin.zeroCells z n).toList.length = n * z.size := by simp [Builtin.zeroCells]
set_option maxHeartbeats 1000000 in
theorem appendv_post [Sy] (hE : EnvOk E P) {H H' : AH} {w : World} (hR : Rel ρ H w) {ats : Array TypeId} {s x s' x' v : Value} (hs : VR ρ s s') (hx : VR ρ x x')
    (e : appendv E H ats.toList s x = some (v, H')) (hf : Free ρ H.next H'.next) (ty : TypeId) :
    ∃ ρ' w' v', (Builtin.append_ ats ty #[s', x']).run P w = .ok v' w' ∧ Post ρ H w ρ' H' w' ∧ VR ρ' v v' := by
  unfold appendv at e
  split at e
  · rename_i t0 t1 ts hats
    have hap := (bif_none e).1
    have e2 := (bif_none e).2
    clear e
    simp only [Bool.not_eq_false'] at hap
    cases hi : E.ty.get t0 with
    | none => rw [hi] at e2; cases e2
    | some i =>
      rw [hi] at e2
      simp only at e2
      split at e2
      · rename_i el base len cap n hu hlx
        cases hj : E.ty.get el with
        | none => rw [hj] at e2; cases e2
        | some j =>
          rw [hj] at e2
          simp only at e2
          cases hnew : takev H j.size n x with
          | none => rw [hnew] at e2; cases e2
          | some new =>
            rw [hnew] at e2
            simp only at e2
            have hnl := takev_length hnew (fun k hk => by rw [hlx] at hk; cases hk; exact Nat.le_refl _)
            obtain ⟨inf0, _, hund0, _⟩ := hE.ty t0 i hi
            rw [hu] at hund0
            obtain ⟨new', hnewAll, hnv⟩ := takev_sim (P := P) hR hx hnew
            have hlen' := lenOfv_sim (P := P) hx hlx w
            have a0 : ats[0]? = some t0 := by rw [← Array.getElem?_toList, hats]; rfl
            have a1 : ats[1]? = some t1 := by rw [← Array.getElem?_toList, hats]; rfl
            have hnvl := hnv.length
            cases hn0 : Nat.beq n 0
            · rw [hn0] at e2
              simp only [cond_false] at e2
              have hbo := (bif_some e2).1
              have e3 := (bif_some e2).2
              clear e2
              simp only [Bool.and_eq_true] at hbo
              obtain ⟨⟨hb1, hb2⟩, hz⟩ := hbo
              have hb1 := Nat.le_of_ble_eq_true hb1
              have hb2 := Nat.le_of_ble_eq_true hb2
              cases hzz : j.zero with
              | none => rw [hzz] at hz; cases hz
              | some z =>
                rw [hzz] at hz
                simp only [Bool.and_eq_true] at hz
                have hzs := Nat.eq_of_beq_eq_true hz.2
                have hzv := (VR.clean (ρ := ρ) hz.1).cellsOf
                have hzl : z.cells.size = j.size := by rw [← hzs, ← hzv.length]; simp
                obtain ⟨infe, hinfe, hbye, _⟩ := hE.info hj
                have hT : ApT P ats el j.size j.bytes z := ⟨⟨t0, a0, hund0⟩, ⟨t1, a1, isApT_is hE hap⟩, hE.sizeOf hj, ⟨infe, hinfe, hbye⟩, hE.zero hj hzz⟩
                split at e3
                · -- nothing there: a new block
                  have hcl := (bif_some e3).1
                  have e4 := (bif_some e3).2
                  clear e3
                  simp only [Bool.and_eq_true] at hcl
                  have hc0 := Nat.eq_of_beq_eq_true hcl.1
                  have hl0 := Nat.eq_of_beq_eq_true hcl.2
                  subst hc0; subst hl0
                  simp only [Option.some.injEq] at e4
                  have hv1 := congrArg Prod.fst e4
                  have hv2 := congrArg Prod.snd e4
                  simp only at hv1 hv2
                  subst hv1; subst hv2
                  cases hs
                  have hn' : n ≠ 0 := by intro h; rw [h] at hn0; cases hn0
                  obtain ⟨cap', hc1, hrun⟩ := run_append_out (ty := ty) hT (base := none) (len := 0) (cap := 0) (olds := []) hlen' (fun _ => by simp [Builtin.firstCells]) hnewAll (by omega) (by omega) (by omega)
                  have hfree : ρ H.next = none := hf _ (Nat.le_refl _) (by simp [growv, AH.new])
                  obtain ⟨ρ', h1, h2⟩ := growv_post (rest' := (Builtin.zeroCells z.cells (cap' - (0 + n))).toList) hR hfree el hnv hnl (need := n) (cap := cap') (by omega) (by rw [zeroCells_len, hzl]; simp) (w.drawn + 1)
                  refine ⟨ρ', _, _, hrun, ?_, ?_⟩
                  · simpa using h1
                  · simpa using h2
                · rename_i a
                  cases hs with
                  | @sl b o _ _ c' p hb h0 h1 h2 =>
                    simp only at e3
                    cases hroomB : Nat.ble (len + n) (capN cap)
                    · rw [hroomB] at e3
                      simp only [cond_false] at e3
                      have hnr : ¬ (len + n ≤ capN cap) := by
                        intro h; rw [Nat.ble_eq_true_of_le h] at hroomB; cases hroomB
                      simp only [capN] at hnr h1
                      cases hg : H.get b with
                      | none => rw [hg] at e3; cases e3
                      | some ob =>
                        rw [hg] at e3
                        cases ob <;> simp only [reduceCtorEq] at e3
                        rename_i cs es
                        have hb3 := (bif_some e3).1
                        have e4 := (bif_some e3).2
                        clear e3
                        simp only [Bool.and_eq_true] at hb3
                        have hfit := Nat.le_of_ble_eq_true hb3.1
                        obtain ⟨arr, tt, fz, hC⟩ := hR.cells hb hg
                        obtain ⟨olds, ho1, ho2, ho3⟩ := hC.range hfit
                        have holds : ∀ m, (Builtin.firstCells j.size len (.slice (some ⟨p.c, p.d + o, none⟩) len c')).run P { w with drawn := m } = .ok ⟨olds⟩ { w with drawn := m } := by
                          intro m
                          simp only [Builtin.firstCells]
                          exact run_loadCells_len (w := { w with drawn := m }) ho1 (fun j v e => ho3 j v e)
                        have holdl : ((cs.drop o).take (len * j.size)).length = len * j.size := by simp; omega
                        have hall := ho2.append hnv
                        have halll : ((cs.drop o).take (len * j.size) ++ new).length = (len + n) * j.size := by
                          rw [List.length_append, holdl, hnl, Nat.add_mul]
                        cases hodd : Nat.beq (cap % 2) 0
                        · rw [hodd] at e4
                          simp only [cond_false] at e4
                          have hes := Nat.eq_of_beq_eq_true (bif_some e4).1
                          have e5 := (bif_some e4).2
                          clear e4
                          simp only [Option.some.injEq] at e5
                          have hv1 := congrArg Prod.fst e5
                          have hv2 := congrArg Prod.snd e5
                          simp only at hv1 hv2
                          subst hv1; subst hv2
                          have hodd1 : cap % 2 = 1 := by
                            have : cap % 2 ≠ 0 := by intro h; rw [h] at hodd; cases hodd
                            omega
                          have hfree : ρ H.next = none := hf _ (Nat.le_refl _) (by simp [growv, AH.new, AH.kill])
                          by_cases hin : len + n ≤ c'
                          · obtain ⟨ρ', w', k1, k2, k3⟩ := growIn_post (P := P) hR hfree hb hg hes hfit hnv hnl hb3.2 hin (h2 hodd1)
                            refine ⟨ρ', w', _, run_append_in (ty := ty) hT hlen' (hnewAll w.drawn) hin ?_, k2, k3⟩
                            simp only
                            rw [add_none, Nat.add_assoc]; exact k1
                          · obtain ⟨cap', hc1, hrun⟩ := run_append_out (ty := ty) hT (base := some ⟨p.c, p.d + o, none⟩) (len := len) (cap := c') hlen' holds hnewAll hin hb1 hb2
                            have hk := Post.kill hR hb
                            have hfree' : ρ (H.kill b).next = none := hfree
                            obtain ⟨ρ', h1, h2⟩ := growv_post (rest' := (Builtin.zeroCells z.cells (cap' - (len + n))).toList) hk.rel hfree' el hall halll (cap := cap') hc1 (by rw [zeroCells_len, hzl]) (w.drawn + 1)
                            exact ⟨ρ', _, _, hrun, hk.trans h1, h2⟩
                        · rw [hodd] at e4
                          simp only [cond_true, Option.some.injEq] at e4
                          have hv1 := congrArg Prod.fst e4
                          have hv2 := congrArg Prod.snd e4
                          simp only at hv1 hv2
                          subst hv1; subst hv2
                          have hce := h0 (Nat.eq_of_beq_eq_true hodd)
                          have hfree : ρ H.next = none := hf _ (Nat.le_refl _) (by simp [growv, AH.new])
                          obtain ⟨cap', hc1, hrun⟩ := run_append_out (ty := ty) hT (base := some ⟨p.c, p.d + o, none⟩) (len := len) (cap := c') hlen' holds hnewAll (by omega) hb1 hb2
                          obtain ⟨ρ', h1, h2⟩ := growv_post (rest' := (Builtin.zeroCells z.cells (cap' - (len + n))).toList) hR hfree el hall halll (cap := cap') hc1 (by rw [zeroCells_len, hzl]) (w.drawn + 1)
                          exact ⟨ρ', _, _, hrun, h1, h2⟩
                    · rw [hroomB] at e3
                      simp only [cond_true] at e3
                      have hroom := Nat.le_of_ble_eq_true hroomB
                      simp only [capN] at hroom
                      cases hst : storeCellsv H b (o + len * j.size) new with
                      | none => rw [hst] at e3; cases e3
                      | some H2 =>
                        rw [hst] at e3
                        simp only [Option.some.injEq, Prod.mk.injEq] at e3
                        obtain ⟨rfl, rfl⟩ := e3
                        obtain ⟨w', k1, k2⟩ := storeCellsv_post (P := P) hR hb hnv hst
                        refine ⟨ρ, w', _, run_append_in (ty := ty) hT hlen' (hnewAll w.drawn) (by omega) ?_, k2, ?_⟩
                        · simp only
                          rw [add_none, Nat.add_assoc]; exact k1
                        · exact VR.sl (p := p) hb h0 h1 h2
            · rw [hn0] at e2
              simp only [cond_true] at e2
              have hle := Nat.le_of_ble_eq_true (bif_some e2).1
              have e3 := (bif_some e2).2
              simp only [Option.some.injEq, Prod.mk.injEq] at e3
              obtain ⟨rfl, rfl⟩ := e3
              have hn := Nat.eq_of_beq_eq_true hn0
              subst hn
              have hnn : new' = [] := by
                rw [← List.length_eq_zero_iff, hnvl, hnl]; simp
              subst hnn
              obtain ⟨infe, hinfe, hbye, hze, _⟩ := hE.info hj
              have run0 : ∀ (base' : Option Addr) (c' : Nat), len ≤ c' → (Builtin.append_ ats ty #[.slice base' len c', x']).run P w = .ok (.slice base' len c') w := by
                intro base' c' hc
                have hA := hnewAll w.drawn
                rcases isApT_is hE hap with u1 | ⟨e1, u1⟩
                all_goals
                  unfold Builtin.append_
                  simp only [a0, a1, List.size_toArray, List.length_cons, List.length_nil, Nat.zero_add, Nat.reduceAdd, Nat.reduceLT, getElem?_pos, List.getElem_toArray, List.getElem_cons_zero, List.getElem_cons_succ]
                  simp only [Sem.run_bind, run_underlying hund0, run_underlying u1, Result.andThen_ok, hE.sizeOf hj, Sem.run_pure, Bool.false_eq_true, if_false, hlen', Nat.add_zero, if_pos hc, Bool.not_false, if_true, hA]
                  cases base' with
                  | none => simp only [Sem.run_pure]
                  | some a => simp only [Sem.run_bind, storeCells, Sem.run_pure, Result.andThen_ok]
              simp only [capN] at hle
              cases hs with
              | snil => exact ⟨ρ, w, _, run0 none 0 (by simp), Post.refl hR, .snil⟩
              | sany a k => exact ⟨ρ, w, _, run0 (some a) k (by omega), Post.refl hR, .sany a k⟩
              | @sl b o _ _ c' p hb h0 h1 h2 => exact ⟨ρ, w, _, run0 (some ⟨p.c, p.d + o, none⟩) c' (by omega), Post.refl hR, .sl hb h0 h1 h2⟩
      · cases e2
  · cases e
end
end Go.Ev
