/- copy, clear, maps, iterators. -/
import Derived.Test.YthbphkakekdfkaaGreatDoorEv12
namespace Go.Ev
open Go Go.RowKit
section
variable {E : Env} {P : Program} {ρ : Ren}
def EffR [Sy] (ρ : Ren) (H : AH) (w : World) (P : Program) (s : Sem Value) (v : Value) (H' : AH) : Prop :=
  ∃ ρ' w' v', s.run P w = .ok v' w' ∧ Post ρ H w ρ' H' w' ∧ VR ρ' v v'
theorem copyv_post [Sy] (hE : EnvOk E P) {H H' : AH} {w : World} (hR : Rel ρ H w) {ats : Array TypeId} {d x d' x' v : Value} (hd : VR ρ d d') (hx : VR ρ x x')
    (e : copyv E H ats.toList d x = some (v, H')) (ty : TypeId) : EffR ρ H w P (Builtin.copy_ ats ty #[d', x']) v H' := by
  unfold copyv at e
  split at e
  · rename_i t0 ts hats
    have a0 : ats[0]? = some t0 := by rw [← Array.getElem?_toList, hats]; rfl
    cases hi : E.ty.get t0 with
    | none => rw [hi] at e; cases e
    | some i =>
      rw [hi] at e
      simp only at e
      split at e
      · rename_i el base dl dc xl hu hlx
        obtain ⟨inf0, _, hund0, _⟩ := hE.ty t0 i hi
        rw [hu] at hund0
        cases hj : E.ty.get el with
        | none => rw [hj] at e; cases e
        | some j =>
          rw [hj] at e
          simp only at e
          cases hnew : takev H j.size (Nat.min xl dl) x with
          | none => rw [hnew] at e; cases e
          | some cs =>
            rw [hnew] at e
            simp only at e
            obtain ⟨cs', hrun, hcv⟩ := takev_sim (P := P) hR hx hnew
            have hrun := hrun w.drawn
            have hlen' := lenOfv_sim (P := P) hx hlx w
            have hcl := takev_length hnew (fun k hk => by rw [hlx] at hk; cases hk; exact Nat.min_le_left _ _)
            have hcvl := hcv.length
            have main : ∀ (base' : Option Addr) (c' : Nat) (w' : World), (match base' with | some a => (storeCells a cs').run P w = .ok () w' | none => w' = w) →
                (Builtin.copy_ ats ty #[.slice base' dl c', x']).run P w = .ok (goInt (Nat.min xl dl)) w' := by
              intro base' c' w' hst
              unfold Builtin.copy_
              simp only [a0, List.size_toArray, List.length_cons, List.length_nil, Nat.zero_add, Nat.reduceAdd, Nat.reduceLT, getElem?_pos, List.getElem_toArray, List.getElem_cons_zero, List.getElem_cons_succ]
              simp only [Sem.run_bind, run_underlying hund0, Result.andThen_ok, hlen', hE.sizeOf hj, hrun]
              cases base' with
              | none => simp only [Sem.run_pure]; rw [hst]
              | some a => simp only [Sem.run_bind, hst, Result.andThen_ok, Sem.run_pure]
            cases hn0 : Nat.beq (Nat.min xl dl) 0
            · rw [hn0] at e
              simp only [cond_false] at e
              split at e
              · cases e
              · rename_i a
                cases hd with
                | @sl b o _ _ c' p hb h0 h1 h2 =>
                  cases hst : storeCellsv H b o cs with
                  | none => rw [hst] at e; cases e
                  | some H2 =>
                    rw [hst] at e
                    simp only [Option.some.injEq, Prod.mk.injEq] at e
                    obtain ⟨rfl, rfl⟩ := e
                    obtain ⟨w', k1, k2⟩ := storeCellsv_post (P := P) hR hb hcv hst
                    exact ⟨ρ, w', _, main (some ⟨p.c, p.d + o, none⟩) c' w' k1, k2, .int _ _⟩
            · rw [hn0] at e
              simp only [cond_true, Option.some.injEq, Prod.mk.injEq] at e
              obtain ⟨rfl, rfl⟩ := e
              have hz := Nat.eq_of_beq_eq_true hn0
              have hnn : cs' = [] := by
                rw [← List.length_eq_zero_iff, hcvl, hcl, hz]; simp
              rw [hz] at main
              have fin : ∀ (base' : Option Addr) (c' : Nat), (Builtin.copy_ ats ty #[.slice base' dl c', x']).run P w = .ok (.int .i64 0) w := by
                intro base' c'
                refine main base' c' w ?_
                cases base' with
                | none => rfl
                | some a => simp only [hnn]; rfl
              cases hd with
              | snil => exact ⟨ρ, w, _, fin none _, Post.refl hR, .int _ _⟩
              | sany a k => exact ⟨ρ, w, _, fin (some a) k, Post.refl hR, .int _ _⟩
              | @sl b o _ _ c' p hb h0 h1 h2 => exact ⟨ρ, w, _, fin (some ⟨p.c, p.d + o, none⟩) c', Post.refl hR, .int _ _⟩
      · cases e
  · cases e
theorem zeroCells_flat [Sy] {z : Value} {s : Nat} (_ : (cellsOf z).length = s) (hv : VRs ρ (cellsOf z) z.cells.toList) (n : Nat) : VRs ρ ((List.replicate n (cellsOf z)).flatten) (Builtin.zeroCells z.cells n).toList := by
  have h : Builtin.zeroCells z.cells n = ⟨(List.replicate n z.cells.toList).flatten⟩ := by
    unfold Builtin.zeroCells
    have hl := hv.length
    refine range_flat z.cells.toList n (n * z.cells.size) (by simp) _ fun i hi => ?_
    have hpos : 0 < z.cells.size := by
      rcases Nat.eq_zero_or_pos z.cells.size with h0 | h0
      · rw [h0] at hi; simp at hi
      · exact h0
    have hk : i % z.cells.size < z.cells.size := Nat.mod_lt _ hpos
    simp [hk]
  rw [h]
  exact hv.flat n
theorem Post.setObj [Sy] {H : AH} {w : World} (hR : Rel ρ H w) {b : Nat} {p : Pl} {o0 o : AObj} {ob : Obj} (hb : ρ b = some p) (h0 : H.get b = some o0) (ho : OR ρ p o ob) (hw0 : o0.wr = true := by rfl) :
    Post ρ H w ρ (H.set b o) { w with heap := w.heap.setIfInBounds p.c ob } := by
  obtain ⟨ob0, h1, _⟩ := hR.obj b p o0 hb h0
  have hlt := (Array.getElem?_eq_some_iff.1 h1).1
  refine Post.set hR hb h0 hw0 ho rfl rfl rfl (by simp) ?_ ?_
  · simp only [Array.getElem?_setIfInBounds, if_true, hlt]
  · intro c hc
    simp only [Array.getElem?_setIfInBounds]
    rw [if_neg (fun e => hc e.symm)]
theorem run_getObj {w : World} {r : Nat} {o : Obj} (h : w.heap[r]? = some o) (hn : ∀ c t f, o ≠ .cells c t f) : (getObj r).run P w = .ok o w := by
  cases o <;> first | (exact (hn _ _ _ rfl).elim) | (simp [getObj, Sem.run, h])
theorem run_setObj {w : World} {r : Nat} {o o' : Obj} (h : w.heap[r]? = some o) (hn : ∀ c t f, o ≠ .cells c t f) : (setObj r o').run P w = .ok () { w with heap := w.heap.setIfInBounds r o' } := by
  cases o <;> first | (exact (hn _ _ _ rfl).elim) | (simp [setObj, Sem.run, h])
theorem clearv_post [Sy] (hE : EnvOk E P) {H H' : AH} {w : World} (hR : Rel ρ H w) {ats : Array TypeId} {x x' v : Value} (hx : VR ρ x x')
    (e : clearv E H ats.toList x = some (v, H')) (ty : TypeId) : EffR ρ H w P (Builtin.clear_ ats ty #[x']) v H' := by
  unfold clearv at e
  split at e
  · rename_i t0 ts hats
    have a0 : ats[0]? = some t0 := by rw [← Array.getElem?_toList, hats]; rfl
    cases hi : E.ty.get t0 with
    | none => rw [hi] at e; cases e
    | some i =>
      rw [hi] at e
      simp only at e
      obtain ⟨inf0, _, hund0, _⟩ := hE.ty t0 i hi
      have vt : VR ρ (.tuple #[]) (.tuple #[]) := .tuple .nil
      split at e
      · rename_i el base n cap hu
        rw [hu] at hund0
        cases hn0 : Nat.beq n 0
        · rw [hn0] at e
          simp only [cond_false] at e
          split at e
          · rename_i j a hj
            cases hz : j.zero with
            | none => rw [hz] at e; cases e
            | some z =>
              rw [hz] at e
              simp only at e
              have hb1 := (bif_some e).1
              have e2 := (bif_some e).2
              clear e
              simp only [Bool.and_eq_true] at hb1
              have hzs := Nat.eq_of_beq_eq_true hb1.2
              have hzv := (VR.clean (ρ := ρ) hb1.1).cellsOf
              cases hx with
              | @sl b o _ _ c' p hb h0 h1 h2 =>
                cases hst : storeCellsv H b o ((List.replicate n (cellsOf z)).flatten) with
                | none => rw [hst] at e2; cases e2
                | some H2 =>
                  rw [hst] at e2
                  simp only [Option.some.injEq, Prod.mk.injEq] at e2
                  obtain ⟨rfl, rfl⟩ := e2
                  obtain ⟨w', k1, k2⟩ := storeCellsv_post (P := P) hR hb (zeroCells_flat hzs hzv n) hst
                  refine ⟨ρ, w', _, ?_, k2, vt⟩
                  have hn' : n ≠ 0 := by intro h; rw [h] at hn0; cases hn0
                  obtain ⟨n, rfl⟩ : ∃ m, n = m + 1 := ⟨n - 1, by omega⟩
                  unfold Builtin.clear_
                  simp only [a0, List.size_toArray, List.length_cons, List.length_nil, Nat.zero_add, Nat.lt_add_one, getElem?_pos, List.getElem_toArray, List.getElem_cons_zero]
                  simp only [Sem.run_bind, run_underlying hund0, Result.andThen_ok, hE.zero hj hz, k1, Sem.run_pure]
          · cases e
        · rw [hn0] at e
          simp only [cond_true, Option.some.injEq, Prod.mk.injEq] at e
          obtain ⟨rfl, rfl⟩ := e
          have hn := Nat.eq_of_beq_eq_true hn0
          subst hn
          have fin : ∀ (base' : Option Addr) (c' : Nat), (Builtin.clear_ ats ty #[.slice base' 0 c']).run P w = .ok (.tuple #[]) w := by
            intro base' c'
            unfold Builtin.clear_
            simp only [a0, List.size_toArray, List.length_cons, List.length_nil, Nat.zero_add, Nat.lt_add_one, getElem?_pos, List.getElem_toArray, List.getElem_cons_zero]
            cases base' <;> simp only [Sem.run_bind, run_underlying hund0, Result.andThen_ok, Sem.run_pure]
          cases hx with
          | snil => exact ⟨ρ, w, _, fin _ _, Post.refl hR, vt⟩
          | sany a k => exact ⟨ρ, w, _, fin _ _, Post.refl hR, vt⟩
          | sl hb h0 h1 h2 => exact ⟨ρ, w, _, fin _ _, Post.refl hR, vt⟩
      · rename_i kt et hu
        rw [hu] at hund0
        simp only [Option.some.injEq, Prod.mk.injEq] at e
        obtain ⟨rfl, rfl⟩ := e
        cases hx
        refine ⟨ρ, w, _, ?_, Post.refl hR, vt⟩
        unfold Builtin.clear_
        simp only [a0, List.size_toArray, List.length_cons, List.length_nil, Nat.zero_add, Nat.lt_add_one, getElem?_pos, List.getElem_toArray, List.getElem_cons_zero]
        simp only [Sem.run_bind, run_underlying hund0, Result.andThen_ok, Sem.run_pure]
      · rename_i kt et r hu
        rw [hu] at hund0
        cases hg : H.get r with
        | none => rw [hg] at e; cases e
        | some o =>
          rw [hg] at e
          cases o <;> simp only [reduceCtorEq] at e
          rename_i es clock
          simp only [Option.some.injEq, Prod.mk.injEq] at e
          obtain ⟨rfl, rfl⟩ := e
          cases hx with
          | @map _ p hp =>
            obtain ⟨ob, h1, h2⟩ := hR.obj r p _ hp hg
            cases h2 with
            | @map _ es' _ hes =>
              refine ⟨ρ, _, _, ?_, Post.setObj hR hp hg (.map clock .nil (es' := #[])), vt⟩
              have g1 := run_getObj (P := P) h1 (by intro c t f h; cases h)
              have g2 := run_setObj (P := P) (o' := .map #[] clock) h1 (by intro c t f h; cases h)
              unfold Builtin.clear_
              simp only [a0, List.size_toArray, List.length_cons, List.length_nil, Nat.zero_add, Nat.lt_add_one, getElem?_pos, List.getElem_toArray, List.getElem_cons_zero]
              simp only [Sem.run_bind, run_underlying hund0, Result.andThen_ok, g1, g2, Sem.run_pure]
      · cases e
  · cases e
/-! ### Maps -/
theorem samebv_same [Sy] {a b a' b' : Value} (ha : VR ρ a a') (hb : VR ρ b b') (h : samebv a b = true) (n : Nat) : Instr.sameBits n a' b' = true := by
  cases ha <;> cases hb <;> simp only [samebv, Bool.false_eq_true] at h
  · cases n <;> exact h
  · cases n <;> exact h
  · rename_i s1 s2
    have : (s1 == s2) = true := by rw [beq_toListBytes, ByteArray.toList_eq, ByteArray.toList_eq]; exact h
    cases n <;> exact this
theorem samebs_same [Sy] (n : Nat) : ∀ {a b a' b' : List Value}, VRs ρ a a' → VRs ρ b b' → samebs a b = true → a'.length = b'.length ∧ ((a'.zip b').all fun (x, y) => Instr.sameBits n x y) = true
  | _, _, _, _, .nil, .nil, _ => ⟨rfl, rfl⟩
  | _, _, _, _, .nil, .cons _ _, h => by simp [samebs] at h
  | _, _, _, _, .cons _ _, .nil, h => by simp [samebs] at h
  | _, _, _, _, .cons h1 t1, .cons h2 t2, h => by
    simp only [samebs, Bool.and_eq_true] at h
    obtain ⟨k1, k2⟩ := samebs_same n t1 t2 h.2
    exact ⟨by simp [k1], by simp only [List.zip_cons_cons, List.all_cons, Bool.and_eq_true]; exact ⟨samebv_same h1 h2 h.1 n, k2⟩⟩
theorem samek_same [Sy] {a b a' b' : Value} (ha : VR ρ a a') (hb : VR ρ b b') (h : samek a b = true) : Instr.sameBits 10000 a' b' = true := by
  unfold samek at h
  split at h
  · cases ha with
    | agg h1 => cases hb with
      | agg h2 =>
        obtain ⟨k1, k2⟩ := samebs_same (ρ := ρ) 9999 h1 h2 h
        show (_ == _ && _) = true
        simp only [Bool.and_eq_true, beq_iff_eq]
        exact ⟨by simpa using k1, k2⟩
  · exact samebv_same ha hb h 10000
theorem ERs.get [Sy] {n : Nat} : ∀ {es es' : List MapEntry} {e : MapEntry}, ERs ρ es es' → es[n]? = some e → ∃ e', es'[n]? = some e' ∧ ER ρ e e' := by
  induction n with
  | zero =>
    intro es es' e h hg
    cases h with
    | nil => simp at hg
    | cons h t => simp at hg; subst hg; exact ⟨_, rfl, h⟩
  | succ n ih =>
    intro es es' e h hg
    cases h with
    | nil => simp at hg
    | cons h t => simpa using ih t (by simpa using hg)
theorem ERs.append [Sy] {a a' b b' : List MapEntry} (h : ERs ρ a a') (k : ERs ρ b b') : ERs ρ (a ++ b) (a' ++ b') := by
  induction h with
  | nil => exact k
  | cons h _ ih => exact .cons h ih
theorem ERs.setEntry [Sy] {k v k' v' : Value} (hk : VR ρ k k') (hv : VR ρ v v') {es es' : List MapEntry} (h : ERs ρ es es') : ∀ n, ERs ρ (setEntry k v es n) (es'.modify n fun e => { e with key := k', val := v' }) := by
  induction h with
  | nil => intro n; cases n <;> exact .nil
  | cons h t ih =>
    intro n
    cases n with
    | zero => exact .cons ⟨hk, hv, h.born⟩ t
    | succ n => simpa [Ev.setEntry] using .cons h (ih n)
theorem ERs.erase [Sy] {es es' : List MapEntry} (h : ERs ρ es es') : ∀ n, ERs ρ (es.eraseIdx n) (es'.eraseIdx n) := by
  induction h with
  | nil => intro n; exact .nil
  | cons h t ih =>
    intro n
    cases n with
    | zero => exact t
    | succ n => exact .cons h (ih n)
theorem updatev_post [Sy] (hE : EnvOk E P) {H H' : AH} {w : World} (hR : Rel ρ H w) {t : TypeId} {m k v m' k' v' : Value} (hm : VR ρ m m') (hk : VR ρ k k') (hv : VR ρ v v')
    (e : updatev E H t m k v = some H') : ∃ w', (Instr.mapUpdate t m' k' v').run P w = .ok () w' ∧ Post ρ H w ρ H' w' := by
  unfold updatev at e
  split at e
  · rename_i i r hi
    split at e
    · rename_i kt et es clock hu hg
      have hko := (bif_some e).1
      have e2 := (bif_some e).2
      clear e
      have hkt : ∃ i, E.ty.get kt = some i := by
        unfold keyok at hko
        cases hg : E.ty.get kt with
        | none => rw [hg] at hko; cases hko
        | some j => exact ⟨j, rfl⟩
      cases hm with
      | @map _ p hp =>
        obtain ⟨ob, h1, h2⟩ := hR.obj r p _ hp hg
        cases h2 with
        | @map _ es' _ hes =>
          have g1 := run_getObj (P := P) h1 (by intro c t f h; cases h)
          have g2 := fun o' => run_setObj (P := P) (o' := o') h1 (by intro c t f h; cases h)
          have hck : (Instr.checkKey false 10000 kt k').run P w = .ok () w := keyok_sim hE 20 (by omega) hk hko _ w
          cases hf : findv E kt k es 0 with
          | none => rw [hf] at e2; cases e2
          | some f =>
            rw [hf] at e2
            obtain ⟨r', k1, k2, k3⟩ := findKey_sim hE hk hes hf w hkt
            cases f with
            | some nv =>
              obtain ⟨n, v0⟩ := nv
              simp only at e2
              obtain ⟨v0', hv1, hv2⟩ := k2 n v0 rfl
              subst hv1
              split at e2
              · rename_i en hen
                have hsk := (bif_some e2).1
                have e3 := (bif_some e2).2
                simp only [Option.some.injEq] at e3
                subst e3
                obtain ⟨en', hen1, hen2⟩ := hes.get hen
                have hbits := samek_same hen2.key hk hsk
                refine ⟨_, ?_, Post.setObj hR hp hg (.map clock (es' := es'.modify n fun e => { e with key := k', val := v' }) ?_)⟩
                · unfold Instr.mapUpdate
                  rw [bind_ok (hE.under hi w), hu]
                  simp only
                  rw [bind_ok g1]
                  simp only
                  rw [bind_ok hck, bind_ok k1]
                  simp only
                  have hek : (((es'[n]?).map (·.key)).getD k') = en'.key := by
                    rw [← Array.getElem?_toList, hen1]; rfl
                  rw [hek]
                  have hks : (Instr.keyThatStays en'.key k').run P w = .ok k' w := by
                    unfold Instr.keyThatStays; rw [if_pos hbits]; rfl
                  rw [bind_ok hks]
                  exact g2 _
                · have := hes.setEntry hk hv n
                  simpa using this
              · cases e2
            | none =>
              have hr' := k3 rfl
              subst hr'
              simp only [Option.some.injEq] at e2
              subst e2
              refine ⟨_, ?_, Post.setObj hR hp hg (.map (clock + 1) (es' := es'.push { key := k', val := v', born := clock }) ?_)⟩
              · unfold Instr.mapUpdate
                rw [bind_ok (hE.under hi w), hu]
                simp only
                rw [bind_ok g1]
                simp only
                rw [bind_ok hck, bind_ok k1]
                simp only
                exact g2 _
              · have := hes.append (.cons (⟨hk, hv, rfl⟩ : ER ρ { key := k, val := v, born := clock } { key := k', val := v', born := clock }) .nil)
                simpa using this
    · cases e
  · cases e
theorem deletev_post [Sy] (hE : EnvOk E P) {H H' : AH} {w : World} (hR : Rel ρ H w) {ats : Array TypeId} {m k m' k' v : Value} (hm : VR ρ m m') (hk : VR ρ k k')
    (e : deletev E H ats.toList m k = some (v, H')) (ty : TypeId) : EffR ρ H w P (Builtin.delete_ ats ty #[m', k']) v H' := by
  have vt : VR ρ (.tuple #[]) (.tuple #[]) := .tuple .nil
  unfold deletev at e
  split at e
  · rename_i t0 ts hats
    have a0 : ats[0]? = some t0 := by rw [← Array.getElem?_toList, hats]; rfl
    split at e
    · rename_i i hi
      split at e
      · rename_i kt et hu
        have hko := (bif_some e).1
        have e2 := (bif_some e).2
        simp only [Option.some.injEq, Prod.mk.injEq] at e2
        obtain ⟨rfl, rfl⟩ := e2
        cases hm
        have hck : (Instr.checkKey true 10000 kt k').run P w = .ok () w := keyok_sim hE 20 (by omega) hk hko _ w
        refine ⟨ρ, w, _, ?_, Post.refl hR, vt⟩
        unfold Builtin.delete_
        simp only [a0, List.size_toArray, List.length_cons, List.length_nil, Nat.zero_add, Nat.reduceAdd, Nat.reduceLT, getElem?_pos, List.getElem_toArray, List.getElem_cons_zero, List.getElem_cons_succ]
        simp only [Sem.run_bind, hE.under hi, hu, Result.andThen_ok, hck, Sem.run_pure]
      · cases e
    · rename_i i r hi
      split at e
      · rename_i kt et es clock hu hg
        have hko := (bif_some e).1
        have e2 := (bif_some e).2
        clear e
        have hkt : ∃ i, E.ty.get kt = some i := by
          unfold keyok at hko
          cases hg : E.ty.get kt with
          | none => rw [hg] at hko; cases hko
          | some j => exact ⟨j, rfl⟩
        cases hm with
        | @map _ p hp =>
          obtain ⟨ob, h1, h2⟩ := hR.obj r p _ hp hg
          cases h2 with
          | @map _ es' _ hes =>
            have g1 := run_getObj (P := P) h1 (by intro c t f h; cases h)
            have g2 := fun o' => run_setObj (P := P) (o' := o') h1 (by intro c t f h; cases h)
            have hck : (Instr.checkKey es'.isEmpty 10000 kt k').run P w = .ok () w := keyok_sim hE 20 (by omega) hk hko _ w
            cases hf : findv E kt k es 0 with
            | none => rw [hf] at e2; cases e2
            | some f =>
              rw [hf] at e2
              obtain ⟨r', k1, k2, k3⟩ := findKey_sim hE hk hes hf w hkt
              cases f with
              | some nv =>
                obtain ⟨n, v0⟩ := nv
                simp only [Option.some.injEq, Prod.mk.injEq] at e2
                obtain ⟨rfl, rfl⟩ := e2
                obtain ⟨v0', hv1, hv2⟩ := k2 n v0 rfl
                subst hv1
                refine ⟨ρ, _, _, ?_, Post.setObj hR hp hg (.map clock (es' := es'.eraseIdxIfInBounds n) ?_), vt⟩
                · unfold Builtin.delete_
                  simp only [a0, List.size_toArray, List.length_cons, List.length_nil, Nat.zero_add, Nat.reduceAdd, Nat.reduceLT, getElem?_pos, List.getElem_toArray, List.getElem_cons_zero, List.getElem_cons_succ]
                  simp only [Sem.run_bind, hE.under hi, hu, Result.andThen_ok, g1, hck, k1, g2, Sem.run_pure]
                · have := hes.erase n
                  simpa using this
              | none =>
                have hr' := k3 rfl
                subst hr'
                simp only [Option.some.injEq, Prod.mk.injEq] at e2
                obtain ⟨rfl, rfl⟩ := e2
                refine ⟨ρ, _, _, ?_, Post.setObj hR hp hg (.map clock (es' := es') hes), vt⟩
                unfold Builtin.delete_
                simp only [a0, List.size_toArray, List.length_cons, List.length_nil, Nat.zero_add, Nat.reduceAdd, Nat.reduceLT, getElem?_pos, List.getElem_toArray, List.getElem_cons_zero, List.getElem_cons_succ]
                simp only [Sem.run_bind, hE.under hi, hu, Result.andThen_ok, g1, hck, k1, g2, Sem.run_pure]
      · cases e
    · cases e
  · cases e
end
end Go.Ev
