/- Calls and rounds; the evaluator is sound. -/
import Derived.Test.YthbphkakekdfkaaGreatDoorEv26
namespace Go.Ev
open Go Go.RowKit
section
variable {E : Env} {P : Program} {r : Rec} {ρ ρ' ρ1 ρ2 : Ren} {b : Frame} {tmps : Array Value} {ds : List Deferred} {k : List Item} {cs : List Frame} {w w' w1 w2 : World} {H H' H1 H2 : AH}
theorem marks_off [Sy] {ρ0 : Ren} {H0 : AH} {w0 : World} : ∀ (ms : List Nat) {fr : Frame} {w : World}, fr.mode = .returning → fr.defers = ms.map markOf → Marks ρ' H' w0 w ms → Post ρ0 H0 w0 ρ' H' w →
    ∃ w', Steps P (lone fr cs w) (lone { fr with defers := [] } cs w') ∧ Post ρ0 H0 w0 ρ' H' w'
  | [], fr, w, hm, hd, _, hp => ⟨w, by
      have : fr = { fr with defers := [] } := by cases fr; simp at hd; simp [hd]
      rw [← this]; exact .refl _ _, hp⟩
  | q :: ms, fr, w, hm, hd, hM, hp => by
    obtain ⟨g1, g2, g3⟩ := hM.2 q (by simp)
    have hst := step_mark (P := P) (cs := cs) hm (by rw [hd]; rfl) g2
    have hlt := (Array.getElem?_eq_some_iff.1 g2).1
    have hget : ∀ c, c ≠ q → (w.heap.setIfInBounds q (.deferred none))[c]? = w.heap[c]? := by
      intro c hc; rw [Array.getElem?_setIfInBounds, if_neg (fun e => hc e.symm)]
    have hp' : Post ρ0 H0 w0 ρ' H' { w with heap := w.heap.setIfInBounds q (.deferred none) } := by
      refine { hp with size := (by simp only [Array.size_setIfInBounds]; exact hp.size), frame := ?_, rel := ⟨?_, hp.rel.inj, hp.rel.fresh⟩ }
      · intro c hc hi
        simp only
        rw [hget c (by omega)]; exact hp.frame c hc hi
      · intro b' p o hb ho
        obtain ⟨ob, k1, k2⟩ := hp.rel.obj b' p o hb ho
        exact ⟨ob, by simp only; rw [hget p.c (fun e => g3 b' p o hb ho e)]; exact k1, k2⟩
    have hM' : Marks ρ' H' w0 { w with heap := w.heap.setIfInBounds q (.deferred none) } ms := by
      have hnd := List.nodup_cons.1 hM.1
      refine ⟨hnd.2, fun c hc => ?_⟩
      obtain ⟨k1, k2, k3⟩ := hM.2 c (by simp [hc])
      refine ⟨k1, ?_, k3⟩
      simp only
      rw [hget c (fun e => hnd.1 (e ▸ hc))]
      exact k2
    obtain ⟨w', s1, s2⟩ := marks_off ms (fr := { fr with defers := ms.map markOf }) hm rfl hM' hp'
    exact ⟨w', .head hst s1, s2⟩
theorem resv_sim [Sy] (hE : EnvOk E P) {T : Tmps} (hR : Rel ρ H w) (hT : TR ρ T tmps) {g : ResultVar → Sem Value} (hg1 : ∀ t, g (.tmp t) = pure (tmps.getD t undef)) (hg2 : ∀ a t, g (.cell a t) = (do loadVar t (← asAddr (tmps.getD a undef)))) :
    ∀ {rs : List ResultVar} {vs : List Value}, resv E T H rs = some vs → ∃ vs', (rs.mapM g).run P w = .ok vs' w ∧ VRs ρ vs vs'
  | [], vs, e => by cases e; exact ⟨[], rfl, .nil⟩
  | .tmp t :: rs, vs, e => by
    simp only [resv] at e
    split at e
    · rename_i v vs1 h1 h2
      cases e
      obtain ⟨v', g1, g2⟩ := hT.get t v h1
      obtain ⟨vs', k1, k2⟩ := resv_sim hE hR hT hg1 hg2 h2
      refine ⟨v' :: vs', ?_, .cons g2 k2⟩
      rw [List.mapM_cons]
      have hd : tmps.getD t undef = v' := by rw [Array.getD_eq_getD_getElem?, g1]; rfl
      rw [hg1, hd]
      simp only [pure_bind, Sem.run_bind, k1, Result.andThen_ok, Sem.run_pure]
    · cases e
  | .cell a t :: rs, vs, e => by
    simp only [resv] at e
    split at e
    · rename_i p hp
      split at e
      · rename_i v vs1 h1 h2
        cases e
        obtain ⟨p', g1, g2⟩ := hT.get a p hp
        obtain ⟨vs', k1, k2⟩ := resv_sim hE hR hT hg1 hg2 h2
        obtain ⟨v', l1, l2⟩ := loadv_sim hE hR g2 h1
        refine ⟨v' :: vs', ?_, .cons l2 k2⟩
        rw [List.mapM_cons]
        have hd : tmps.getD a undef = p' := by rw [Array.getD_eq_getD_getElem?, g1]; rfl
        rw [hg2, hd]
        have hl : (do loadVar t (← asAddr p') : Sem Value).run P w = .ok v' w := by
          cases g2 <;> simp only [loadv, reduceCtorEq] at h1
          exact l1
        rw [bind_ok hl]
        simp only [Sem.run_bind, k1, Result.andThen_ok, Sem.run_pure]
      · cases e
    · cases e
theorem results_sim [Sy] (hE : EnvOk E P) {T : Tmps} (hR : Rel ρ H w) (hT : TR ρ T tmps) {fn : Func} {vs : List Value} (e : resv E T H fn.results.toList = some vs) :
    ∃ v', (results fn tmps).run P w = .ok v' w ∧ VR ρ (tupled vs) v' := by
  unfold results
  rw [← Array.toArray_toList (xs := fn.results), List.mapM_toArray]
  generalize hgg : (fun x : ResultVar => (match x with | .tmp t => pure (tmps.getD t undef) | .cell a t => do loadVar t (← asAddr (tmps.getD a undef)) : Sem Value)) = g
  obtain ⟨vs', h1, h2⟩ := resv_sim (g := g) hE hR hT (fun t => by rw [← hgg]) (fun a t => by rw [← hgg]) e
  simp only [Sem.run_bind, Sem.run_map]
  rw [show (List.mapM _ fn.results.toList : Sem (List Value)) = List.mapM g fn.results.toList from by rw [← hgg]]
  simp only [h1, Result.andThen_ok]
  cases h2 with
  | nil => exact ⟨_, rfl, .tuple .nil⟩
  | cons a t => cases t with
    | nil => exact ⟨_, rfl, a⟩
    | cons a2 t2 => exact ⟨_, rfl, .tuple (.cons a (.cons a2 t2))⟩
theorem TR.start [Sy] {n g : Nat} {args args' : List Value} (hG : GOk ρ g) (ha : VRs ρ args args') (hl : args.length ≤ n) :
    TR ρ ⟨n, g, Tr.ofList 0 args⟩ ((⟨args'⟩ : Array Value) ++ Array.replicate (n - (⟨args'⟩ : Array Value).size) undef) := by
  have hlen := ha.length
  refine ⟨hG, by simp; omega, ?_⟩
  intro t v e
  simp only [Tmps.get, Tr.get_ofList, Nat.zero_le, if_true, Nat.sub_zero] at e
  obtain ⟨v', g1, g2⟩ := ha.get e
  refine ⟨v', ?_, g2⟩
  rw [Array.getElem?_append_left (by have := (List.getElem?_eq_some_iff.1 g1).1; simpa using this)]
  simpa using g1
def SumOk [Sy] (E : Env) (P : Program) : Prop := ∀ f g, E.sum.get f = some g → ∀ args H v H', g args H = some (v, H') → ∀ ρ w args', Rel ρ H w → GOk ρ E.g → VRs ρ args args' → Free ρ H.next H'.next →
  Calls P f ⟨args'⟩ w fun e w' => ∃ ρ' v', e = .returned v' ∧ Post ρ H w ρ' H' w' ∧ VR ρ' v v'
theorem stepCall_sim [Sy] (hE : EnvOk E P) (hS : SumOk E P) (hC : CodeOk E P r.code) : CallOk E P (stepCall E r) := by
  intro f args H v H' e ρ w args' hR hG ha hf
  unfold stepCall at e
  cases hfn : E.fn.get f with
  | none => rw [hfn] at e; cases e
  | some fn =>
    rw [hfn] at e
    simp only at e
    cases hbd : fn.body with
    | none => rw [hbd] at e; cases e
    | some c =>
      rw [hbd] at e
      simp only at e
      split at e
      · rename_i g hg
        exact hS f g hg args H v H' e ρ w args' hR hG ha hf
      intro cs
      obtain ⟨hle, e⟩ := bif_some e
      have hle := Nat.le_of_ble_eq_true hle
      have hpf := hE.fn f fn hfn
      have hframe : Frame.enter P f ⟨args'⟩ .normal = fat (Frame.enter P f ⟨args'⟩ .normal) ((⟨args'⟩ : Array Value) ++ Array.replicate (fn.ntmps - (⟨args'⟩ : Array Value).size) undef) [.code c] [] := by
        simp [Frame.enter, fat, hpf, hbd]
      have hT : TR ρ ⟨fn.ntmps, E.g, Tr.ofList 0 args⟩ ((⟨args'⟩ : Array Value) ++ Array.replicate (fn.ntmps - (⟨args'⟩ : Array Value).size) undef) := TR.start hG ha hle
      unfold retK at e
      split at e
      · cases e
      · rename_i x T1 H1 hne hcode
        split at e
        · rename_i vs hvs
          simp only [Option.some.injEq, Prod.mk.injEq] at e
          obtain ⟨rfl, rfl⟩ := e
          obtain ⟨ρ1, w1, tmps1, ms, g1, g2, g3, g4⟩ := hC _ _ _ _ _ _ hcode (Frame.enter P f ⟨args'⟩ .normal) _ (.code c) [] [] cs ρ w (.inl rfl) (.inl rfl) hR hG hT hf
          rw [← hframe] at g4
          have hret : ∃ todo, Steps P (lone (Frame.enter P f ⟨args'⟩ .normal) cs w) (lone { fat (Frame.enter P f ⟨args'⟩ .normal) tmps1 todo (ms.map markOf) with mode := .returning } cs w1) := by
            rw [List.append_nil] at g4
            cases x with
            | normal => exact ⟨_, Steps.trans g4 (.one (step_endNil rfl))⟩
            | exit i => exact (hne i rfl).elim
            | ret => obtain ⟨k', g4⟩ := g4; exact ⟨_, Steps.trans g4 (.one (step_endRet rfl))⟩
          obtain ⟨todo, hret⟩ := hret
          obtain ⟨w2, s1, s2⟩ := marks_off (P := P) (cs := cs) ms (fr := { fat (Frame.enter P f ⟨args'⟩ .normal) tmps1 todo (ms.map markOf) with mode := .returning }) rfl rfl g3 g1
          obtain ⟨v', k1, k2⟩ := results_sim hE s2.rel g2 hvs
          exact ⟨.returned v', w2, _, ⟨ρ1, v', rfl, s2, k2⟩, Steps.trans hret s1, rfl, rfl, rfl, rfl, fn, hpf, k1⟩
        · cases e
      · cases e
theorem setArgs_sim [Sy] : ∀ {ps : List Tmp} {args args' : List Value} {T T' : Tmps} {tmps : Array Value}, TR ρ T tmps → VRs ρ args args' → setArgs T ps args = some T' →
    args'.length = ps.length ∧ TR ρ T' ((ps.zip args').foldl (fun tmps (t, a) => tmps.setIfInBounds t a) tmps)
  | [], [], _, T, T', tmps, hT, .nil, e => by cases e; exact ⟨rfl, hT⟩
  | [], _ :: _, _, T, T', tmps, hT, _, e => by cases e
  | _ :: _, [], _, T, T', tmps, hT, _, e => by cases e
  | t :: ps, a :: args, _, T, T', tmps, hT, .cons h hs, e => by
    simp only [setArgs] at e
    obtain ⟨h1, h2⟩ := setArgs_sim (hT.put h (some t)) hs e
    exact ⟨by simp [h1], h2⟩
theorem stepRound_sim [Sy] (_ : EnvOk E P) (_ : ExtNext E) (hM : Mono r) (hC : CodeOk E P r.code) : RoundOk E P (stepRound r) := by
  intro l args H v H' e ρ w args' p hl hR hG ha hf
  unfold stepRound at e
  split at e
  · rename_i L hg
    obtain ⟨hfl, e⟩ := bif_some e
    simp only [Bool.and_eq_true] at hfl
    obtain ⟨ob, g1, g2⟩ := hR.obj l p _ hl hg
    cases g2 with
    | loop hlr =>
      rename_i lp
      cases hset : setArgs L.T L.params args with
      | none => rw [hset] at e; cases e
      | some T =>
        rw [hset] at e
        simp only at e
        obtain ⟨hlen, hT⟩ := setArgs_sim hlr.tmps ha hset
        refine ⟨lp, g1, by rw [hlen, ← hlr.params]; simp, fun c cs => ?_⟩
        unfold beginRoundK at e
        split at e
        · rename_i T1 H1 hcode1
          split at e
          · rename_i L1 hg1
            split at e
            · rename_i hready
              unfold endRoundK at e
              split at e
              · rename_i x T2 H2 hcode2
                split at e
                · rename_i L2 hg2
                  have hfoldeq : ((lp.params.zip ⟨args'⟩).foldl (fun tmps (t, a) => tmps.setIfInBounds t a) lp.tmps) = ((L.params.zip args').foldl (fun tmps (t, a) => tmps.setIfInBounds t a) lp.tmps) := by
                    rw [← hlr.params, ← Array.foldl_toList]; simp
                  let B := roundOf p.c lp args'
                  have hB0 : B = fat B ((L.params.zip args').foldl (fun tmps (t, a) => tmps.setIfInBounds t a) lp.tmps) [.code L.assign, .beginRound, .code L.body] [] := by
                    simp only [B, roundOf, Frame.round, fat, hfoldeq, hlr.assign, hlr.body]
                  have hround : B.roundOf = some p.c := rfl
                  have hkind : B.kind = .normal := rfl
                  have hn2 : (H2.next ≤ H'.next) := by
                    split at e <;> (simp only [Option.some.injEq, Prod.mk.injEq] at e; obtain ⟨_, rfl⟩ := e; exact Nat.le_refl _)
                  have hn1 : H1.next ≤ H2.next := by have := hM.code _ _ _ _ _ _ hcode2; exact this
                  -- the assignment
                  obtain ⟨ρ1, w1, tmps1, ms1, a1, a2, a3, a4⟩ := hC _ _ _ _ _ _ hcode1 B _ (.code L.assign) [.beginRound, .code L.body] [] (c :: cs) ρ w (.inl rfl) (.inr hfl.1) hR hG hT (hf.le (Nat.le_trans hn1 hn2))
                  rw [← hB0] at a4
                  -- the round begins
                  have hl1 := a1.ext _ _ hl
                  obtain ⟨ob1, b1, b2⟩ := a1.rel.obj l p _ hl1 hg1
                  cases b2 with
                  | loop hlr1 =>
                    rename_i lp1
                    have hs1 : lp1.state = .ready := by rw [hlr1.state]; exact hready
                    have hp1 := Post.setObj a1.rel hl1 hg1 (o := .loop { L1 with st := .busy }) (ob := .loop { lp1 with state := .busy }) (.loop ⟨hlr1.tmps, hlr1.params, hlr1.assign, hlr1.body, rfl, hlr1.pend⟩)
                    have hst1 := step_begin (P := P) (b := B) (tmps := tmps1) (k := [.code L.body]) (ds := ms1.map markOf ++ []) (cs := c :: cs) hround b1 hs1
                    have a12 := a1.trans hp1
                    -- the body
                    obtain ⟨ρ2, w2, tmps2, ms2, c1, c2, c3, c4⟩ := hC _ _ _ _ _ _ hcode2 B _ (.code L.body) [] (ms1.map markOf ++ []) (c :: cs) ρ1 _ (.inl rfl) (.inr hfl.2) hp1.rel (hG.mono a1.ext) a2 ((a12.free hf).le hn2)
                    have hl2 := c1.ext _ _ hl1
                    obtain ⟨ob2, d1, d2⟩ := c1.rel.obj l p _ hl2 hg2
                    cases d2 with
                    | loop hlr2 =>
                      rename_i lp2
                      have hsteps : Ends P (lone B (c :: cs) w) B tmps2 [] (ms2.map markOf ++ (ms1.map markOf ++ [])) (c :: cs) w2 x := c4.steps (Steps.trans a4 (.one hst1))
                      cases x with
                      | normal =>
                        simp only [codeOf, Option.some.injEq, Prod.mk.injEq] at e
                        obtain ⟨rfl, rfl⟩ := e
                        have hp2 := Post.setObj c1.rel hl2 hg2 (o := .loop { L2 with st := .ready, pend := none }) (ob := .loop { lp2 with state := .ready, pending := none }) (.loop ⟨hlr2.tmps, hlr2.params, hlr2.assign, hlr2.body, rfl, rfl⟩)
                        exact ⟨ρ2, _, .bool true, (a12.trans c1).trans hp2, .bool true, Steps.trans hsteps (.one (step_roundNil hround hkind d1))⟩
                      | exit i =>
                        simp only [codeOf, Option.some.injEq, Prod.mk.injEq] at e
                        obtain ⟨rfl, rfl⟩ := e
                        obtain ⟨k', he, hs⟩ := hsteps
                        have hp2 := Post.setObj c1.rel hl2 hg2 (o := .loop { L2 with st := .done, pend := some (.exit i) }) (ob := .loop { lp2 with state := .done, pending := some (.exit i) }) (.loop ⟨hlr2.tmps, hlr2.params, hlr2.assign, hlr2.body, rfl, rfl⟩)
                        exact ⟨ρ2, _, .bool false, (a12.trans c1).trans hp2, .bool false, Steps.trans hs (.one (step_roundExit hround hkind d1 (by rw [he]; rfl)))⟩
                      | ret =>
                        simp only [codeOf, Option.some.injEq, Prod.mk.injEq] at e
                        obtain ⟨rfl, rfl⟩ := e
                        obtain ⟨k', hs⟩ := hsteps
                        have hp2 := Post.setObj c1.rel hl2 hg2 (o := .loop { L2 with st := .done, pend := some .ret }) (ob := .loop { lp2 with state := .done, pending := some .ret }) (.loop ⟨hlr2.tmps, hlr2.params, hlr2.assign, hlr2.body, rfl, rfl⟩)
                        exact ⟨ρ2, _, .bool false, (a12.trans c1).trans hp2, .bool false, Steps.trans hs (.one (step_roundRet hround hkind d1))⟩
                · cases e
              · cases e
            · cases e
          · cases e
        · cases e
  · cases e
theorem stepCall_body {f : FuncId} {a : List Value} {v : Value} (e : stepCall E r f a H = some (v, H')) : ∃ fn c, E.fn.get f = some fn ∧ fn.body = some c := by
  unfold stepCall at e
  cases hfn : E.fn.get f with
  | none => rw [hfn] at e; cases e
  | some fn =>
    rw [hfn] at e
    simp only at e
    cases hbd : fn.body with
    | none => rw [hbd] at e; cases e
    | some c => exact ⟨fn, c, rfl, hbd⟩
theorem evalN_sound [Sy] (hE : EnvOk E P) (hX : ExtOk E P) (hN : ExtNext E) (hS : SumOk E P) : ∀ n, Below' E P (evalN E n) ∧ CodeOk E P (evalN E n).code := by
  intro n
  induction n with
  | zero =>
    refine ⟨⟨?_, ?_, ?_⟩, ?_⟩
    · intro f args H v H' e; simp [evalN] at e
    · intro l args H v H' e; simp [evalN] at e
    · intro f a H v H' e; simp [evalN] at e
    · intro c T H x T' H' e; simp [evalN] at e
  | succ n ih =>
    have hM := evalN_mono hN n
    exact ⟨⟨stepCall_sim hE hS ih.2, stepRound_sim hE hN hM ih.2, fun f a H v H' e => stepCall_body e⟩, stepCode_sim hE hX hN hM ih.1 ih.2⟩
end
end Go.Ev
