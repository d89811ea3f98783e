/- Statements. -/
import Derived.Test.YthbphkakekdfkaaGreatDoorEv25
namespace Go.Ev
open Go Go.RowKit
def Marks (ρ' : Ren) (H' : AH) (w w' : World) (ms : List Nat) : Prop := ms.Nodup ∧ ∀ r ∈ ms, w.heap.size ≤ r ∧ w'.heap[r]? = some (.deferred (some [])) ∧ Vac ρ' H' r
def Starts (c : Code) (it : Item) : Prop := it = .code c ∨ ∃ body, c = .loop body ∧ it = .inLoop body
def Ends (P : Program) (m : Machine) (b : Frame) (tmps' : Array Value) (k : List Item) (ds' : List Deferred) (cs : List Frame) (w' : World) : Xt → Prop
  | .normal => Steps P m (lone (fat b tmps' k ds') cs w')
  | .exit id => ∃ k', exitTo id k' = exitTo id k ∧ Steps P m (lone (fat b tmps' (.code (.exit id) :: k') ds') cs w')
  | .ret => ∃ k', Steps P m (lone (fat b tmps' (.code .ret :: k') ds') cs w')
def CodeOk [Sy] (E : Env) (P : Program) (code : Code → Tmps → AH → Option (Xt × Tmps × AH)) : Prop := ∀ c T H x T' H', code c T H = some (x, T', H') →
  ∀ (b : Frame) (tmps : Array Value) (it : Item) (k : List Item) (ds : List Deferred) (cs : List Frame) (ρ : Ren) (w : World), Starts c it → (b.roundOf = none ∨ flat c = true) →
    Rel ρ H w → GOk ρ E.g → TR ρ T tmps → Free ρ H.next H'.next →
    ∃ ρ' w' tmps' ms, Post ρ H w ρ' H' w' ∧ TR ρ' T' tmps' ∧ Marks ρ' H' w w' ms ∧ Ends P (lone (fat b tmps (it :: k) ds) cs w) b tmps' k (ms.map markOf ++ ds) cs w' x
section
variable {E : Env} {P : Program} {r : Rec} {ρ ρ' ρ1 ρ2 : Ren} {b : Frame} {tmps : Array Value} {ds : List Deferred} {k : List Item} {cs : List Frame} {w w' w1 w2 : World} {H H' H1 H2 : AH}
theorem Marks.nil : Marks ρ' H' w w' [] := ⟨.nil, by simp⟩
theorem Marks.trans [Sy] {ms1 ms2 : List Nat} (h1 : Marks ρ1 H1 w w1 ms1) (hs : w.heap.size ≤ w1.heap.size) (hp : Post ρ1 H1 w1 ρ2 H2 w2) (h2 : Marks ρ2 H2 w1 w2 ms2) : Marks ρ2 H2 w w2 (ms2 ++ ms1) := by
  have hlt : ∀ r ∈ ms1, r < w1.heap.size := fun r hr => (Array.getElem?_eq_some_iff.1 (h1.2 r hr).2.1).1
  refine ⟨List.nodup_append.2 ⟨h2.1, h1.1, ?_⟩, ?_⟩
  · intro a ha c hc e
    subst e
    have := (h2.2 a ha).1
    have := hlt a hc
    omega
  · intro r hr
    rcases List.mem_append.1 hr with hr | hr
    · obtain ⟨g1, g2, g3⟩ := h2.2 r hr
      exact ⟨by omega, g2, g3⟩
    · obtain ⟨g1, g2, g3⟩ := h1.2 r hr
      exact ⟨g1, by rw [hp.frame r (hlt r hr) g3.idle]; exact g2, hp.vac (hlt r hr) g3⟩
theorem Post.free [Sy] {a : Nat} (h : Post ρ H w ρ1 H1 w1) (hf : Free ρ H.next a) : Free ρ1 H1.next a := by
  intro x h1 h2
  cases hx : ρ x with
  | some q =>
    have := hf x (Nat.le_trans h.next h1) h2
    rw [hx] at this; cases this
  | none =>
    cases hy : ρ1 x with
    | none => rfl
    | some q => have := h.dom x q hx hy; omega
theorem Free.le {x y a : Nat} (h : Free ρ x y) (ha : a ≤ y) : Free ρ x a := fun n h1 h2 => h n h1 (Nat.lt_of_lt_of_le h2 ha)
variable {m m1 : Machine} {tmps' : Array Value} {ds' : List Deferred} {x : Xt}
theorem Ends.steps (h : Steps P m m1) (he : Ends P m1 b tmps' k ds' cs w' x) : Ends P m b tmps' k ds' cs w' x := by
  cases x with
  | normal => exact Steps.trans h he
  | exit id => obtain ⟨k', h1, h2⟩ := he; exact ⟨k', h1, Steps.trans h h2⟩
  | ret => obtain ⟨k', h2⟩ := he; exact ⟨k', Steps.trans h h2⟩
theorem Ends.head [Sy] (h : step P m = .next m1) (he : Ends P m1 b tmps' k ds' cs w' x) : Ends P m b tmps' k ds' cs w' x := he.steps (.one h)
theorem Ends.under {it : Item} (hx : x ≠ .normal) (hi : ∀ id, exitTo id (it :: k) = exitTo id k ∨ x ≠ .exit id) (he : Ends P m b tmps' (it :: k) ds' cs w' x) : Ends P m b tmps' k ds' cs w' x := by
  cases x with
  | normal => exact (hx rfl).elim
  | exit id =>
    obtain ⟨k', h1, h2⟩ := he
    rcases hi id with h | h
    · exact ⟨k', h1.trans h, h2⟩
    · exact (h rfl).elim
  | ret => exact he
theorem starts_code {c : Code} {it : Item} (h : Starts c it) (hc : ∀ body, c ≠ .loop body) : it = .code c := by
  rcases h with h | ⟨body, h, _⟩
  · exact h
  · exact (hc body h).elim
theorem idlePush [Sy] (hR : Rel ρ H w) (x : Obj) : Post ρ H w ρ H { w with heap := w.heap.push x } := by
  refine ⟨Ext.refl _, fun b p a e => (by rw [a] at e; cases e), Nat.le_refl _, fun _ _ _ => rfl, rfl, rfl, rfl, by simp, ?_, fun b p o a e _ => ⟨b, p, o, a, e, id, rfl⟩, ?_⟩
  · intro c hc _; simp only; rw [Array.getElem?_push, if_neg (by omega)]
  · refine ⟨?_, hR.inj, hR.fresh⟩
    intro b p o hb ho
    obtain ⟨ob, g1, g2⟩ := hR.obj b p o hb ho
    have hlt := (Array.getElem?_eq_some_iff.1 g1).1
    exact ⟨ob, by simp only; rw [Array.getElem?_push, if_neg (by omega)]; exact g1, g2⟩
theorem endLoop_sim [Sy] {l : Nat} {p : Pl} {T T' : Tmps} {x : Xt} (hR : Rel ρ H w) (hl : ρ l = some p) (e : endLoopK l T H = some (x, T', H')) :
    T' = T ∧ ∃ w', Post ρ H w ρ H' w' ∧ (∀ c, c ≠ p.c → w'.heap[c]? = w.heap[c]?) ∧ H'.next = H.next ∧ (∀ c, Vac ρ H c → Vac ρ H' c) ∧
      Ends P (lone (fat b tmps (.endRangeFunc p.c :: k) ds) cs w) b tmps k ds cs w' x := by
  unfold endLoopK at e
  split at e
  · rename_i L hg
    obtain ⟨ob, g1, g2⟩ := hR.obj l p _ hl hg
    cases g2 with
    | loop hlr =>
      rename_i lp
      split at e
      · cases e
      · rename_i hnb
        cases hx : xtOf L.pend with
        | none => rw [hx] at e; cases e
        | some y =>
          rw [hx] at e
          simp only [Option.some.injEq, Prod.mk.injEq] at e
          obtain ⟨rfl, rfl, rfl⟩ := e
          have hs : lp.state ≠ .busy := by rw [hlr.state]; exact hnb
          have hp := Post.setObj hR hl hg (o := .loop { L with st := .exhausted }) (ob := .loop { lp with state := .exhausted }) (.loop ⟨hlr.tmps, hlr.params, hlr.assign, hlr.body, rfl, hlr.pend⟩)
          refine ⟨rfl, _, hp, ?_, rfl, ?_, ?_⟩
          · intro c hc
            simp only [Array.getElem?_setIfInBounds]
            rw [if_neg (fun e => hc e.symm)]
          · intro c hi b' p' o' h1 h2
            rw [AH.get_set] at h2
            by_cases eb : b' = l
            · subst eb; exact hi b' p' _ h1 hg
            · rw [if_neg eb] at h2; exact hi b' p' o' h1 h2
          · have hst := step_endLoop (P := P) (b := b) (tmps := tmps) (ds := ds) (k := k) (cs := cs) g1 hs
            rw [show lp.pending.map Item.code = L.pend.map Item.code from by rw [hlr.pend]] at hst
            unfold xtOf at hx
            split at hx
            · rename_i hpend
              cases hx
              rw [hpend] at hst
              exact .one hst
            · rename_i i hpend
              cases hx
              rw [hpend] at hst
              exact ⟨k, rfl, .one hst⟩
            · rename_i hpend
              cases hx
              rw [hpend] at hst
              exact ⟨k, .one hst⟩
            · cases hx
  · cases e
theorem rangeFunc_sim [Sy] (hE : EnvOk E P) (hX : ExtOk E P) (hN : ExtNext E) (hM : Mono r) (hB : Below' E P r) {f : Operand} {ps : Array Tmp} {as body : Code} {T T' : Tmps} {x : Xt} (hr : b.roundOf = none)
    (hR : Rel ρ H w) (hG : GOk ρ E.g) (hT : TR ρ T tmps) (e : rangeFuncK E r f ps.toList as body T H = some (x, T', H')) (hf : Free ρ H.next H'.next) :
    ∃ ρ' w' tmps' ms, Post ρ H w ρ' H' w' ∧ TR ρ' T' tmps' ∧ Marks ρ' H' w w' ms ∧ Ends P (lone (fat b tmps (.code (.rangeFunc f ps as body) :: k) ds) cs w) b tmps' k (ms.map markOf ++ ds) cs w' x := by
  unfold rangeFuncK at e
  cases hfv : evo T f with
  | none => rw [hfv] at e; cases e
  | some fv =>
    rw [hfv] at e
    cases fv <;> simp only [reduceCtorEq] at e
    rename_i fn first captured
    split at e
    · rename_i v2 H2 hcall
      have hv : VR ρ (.func fn ⟨first.toList⟩ ⟨captured.toList⟩) ((⟨tmps, []⟩ : Act).eval f) := evo_sim (a := ⟨tmps, []⟩) hT hfv
      -- the loop's record is laid
      have hnext2 : H2.next ≤ H'.next := endLoopK_next e
      have hnext1 : H.next + 1 ≤ H2.next := callFn_next hN hM hcall
      have hfree : ρ H.next = none := hf _ (Nat.le_refl _) (by omega)
      have hp0 := idlePush hR (.deferred (some []))
      let p : Pl := ⟨w.heap.size + 1, 0, 0, 0⟩
      let L : ALoop := ⟨T, ps.toList, as, body, .ready, none⟩
      have hx1 : Ext ρ (ρ.add H.next p) := Ren.ext_add hfree
      have hlr : OR (ρ.add H.next p) p (.loop L) (.loop { state := .ready, pending := none, fn := b.fn, tmps, params := ps, assign := as, body, defers := w.heap.size }) :=
        .loop ⟨hT.mono hx1, rfl, rfl, rfl, rfl, rfl⟩
      have hp1 : Post ρ H w (ρ.add H.next p) (H.new (.loop L)) (looped w b.fn tmps ps as body) := by
        have := Post.alloc hp0.rel hfree (.loop L) _ p (by simp [p]) w.drawn hlr
        exact hp0.trans this
      have hidle : Vac (ρ.add H.next p) (H.new (.loop L)) w.heap.size := by
        intro b' p' o' h1 h2
        unfold Ren.add at h1
        rw [AH.get_new] at h2
        by_cases eb : b' = H.next
        · rw [if_pos eb] at h1; cases h1; simp [p]
        · rw [if_neg eb] at h1 h2
          obtain ⟨ob, g1, _⟩ := hR.obj b' p' o' h1 h2
          have := (Array.getElem?_eq_some_iff.1 g1).1
          omega
      have hblk : (looped w b.fn tmps ps as body).heap[w.heap.size]? = some (.deferred (some [])) := by
        simp [looped, Array.getElem?_push]
      have hf1 : Free (ρ.add H.next p) (H.new (.loop L)).next H2.next := (hp1.free hf).le hnext2
      have hargs : VRs (ρ.add H.next p) [.func (.yield H.next) #[] #[]] [.func (.yield (w.heap.size + 1)) #[] #[]] := .cons (.yield (p := p) (Ren.add_self _ _ _)) .nil
      have hnx := callFn_sim (r := r) (w := looped w b.fn tmps ps as body) hE hX hp1.rel (hG.mono hx1) (hv.mono hx1) hargs hB.body hB.round hcall hf1
      have hg := stepG_rangeFunc (P := P) (b := b) (tmps := tmps) (ds := ds) (k := k) (cs := cs) (w := w) (f := f) (ps := ps) (as := as) (body := body) hr
      obtain ⟨s1, s2, s3⟩ := step_apply hg (by intro d wr rs sv k' h; simp [fat] at h)
      have hfin : ∀ v, (fat b tmps (.inRangeFunc (w.heap.size + 1) :: k) (markOf w.heap.size :: ds)).finish v = fat b tmps (.endRangeFunc (w.heap.size + 1) :: k) (markOf w.heap.size :: ds) := fun v => rfl
      have hmid : ∃ ρ2 w2, Post (ρ.add H.next p) (H.new (.loop L)) (looped w b.fn tmps ps as body) ρ2 H2 w2 ∧
          Steps P (lone (fat b tmps (.code (.rangeFunc f ps as body) :: k) ds) cs w) (lone (fat b tmps (.endRangeFunc (w.heap.size + 1) :: k) (markOf w.heap.size :: ds)) cs w2) := by
        rcases hnx with ⟨ρ', w', v', h1, h2, h3⟩ | ⟨g, args, args', h1, h2, h3⟩ | ⟨l, args, args', p', lp, h1, h2, h3, h4, h5⟩
        · refine ⟨ρ', w', h2, .one ?_⟩
          have := s1 v' w' h1
          rw [hfin] at this
          exact this
        · obtain ⟨e', w', fr, ⟨ρ', v', rfl, g1, g2⟩, hcomes, hfn, hleave⟩ := hB.call g args _ v2 H2 h3 _ _ args' hp1.rel (hG.mono hx1) h2 hf1 (fat b tmps (.inRangeFunc (w.heap.size + 1) :: k) (markOf w.heap.size :: ds) :: cs)
          refine ⟨ρ', w', g1, .head (s2 _ _ _ h1) (Steps.trans hcomes (.one ?_))⟩
          rw [step_leave_returned hleave, hfin]
        · obtain ⟨lp', g1, _, g3⟩ := hB.round l args _ v2 H2 h5 _ _ args' p' h2 hp1.rel (hG.mono hx1) h4 hf1
          rw [h3] at g1
          cases g1
          obtain ⟨ρ', w', v', k1, k2, k3⟩ := g3 (fat b tmps (.inRangeFunc (w.heap.size + 1) :: k) (markOf w.heap.size :: ds)) cs
          rw [hfin] at k3
          exact ⟨ρ', w', k1, .head (s3 _ _ _ _ _ _ h1) k3⟩
      obtain ⟨ρ2, w2, hp2, hst⟩ := hmid
      have hl2 : ρ2 H.next = some p := hp2.ext _ _ (Ren.add_self _ _ _)
      obtain ⟨rfl, w3, hp3, hoth, hn3, hid3, hends⟩ := endLoop_sim (P := P) (b := b) (tmps := tmps) (ds := markOf w.heap.size :: ds) (k := k) (cs := cs) hp2.rel hl2 e
      have hlt1 : w.heap.size < (looped w b.fn tmps ps as body).heap.size := by simp [looped]; omega
      refine ⟨ρ2, w3, tmps, [w.heap.size], (hp1.trans hp2).trans hp3, (hT.mono hx1).mono hp2.ext, ⟨by simp, ?_⟩, hends.steps hst⟩
      intro q hq
      simp only [List.mem_singleton] at hq
      subst hq
      refine ⟨Nat.le_refl _, ?_, hid3 _ (hp2.vac hlt1 hidle)⟩
      rw [hoth _ (by simp [p]), hp2.frame _ hlt1 hidle.idle]
      exact hblk
    · cases e
theorem flat_seq {a c : Code} (h : b.roundOf = none ∨ flat (.seq a c) = true) : (b.roundOf = none ∨ flat a = true) ∧ (b.roundOf = none ∨ flat c = true) := by
  rcases h with h | h
  · exact ⟨.inl h, .inl h⟩
  · simp only [flat, Bool.and_eq_true] at h; exact ⟨.inr h.1, .inr h.2⟩
theorem stepCode_sim [Sy] (hE : EnvOk E P) (hX : ExtOk E P) (hN : ExtNext E) (hM : Mono r) (hB : Below' E P r) (hC : CodeOk E P r.code) : CodeOk E P (stepCode E r) := by
  intro c T H x T' H' e b tmps it k ds cs ρ w hst hfl hR hG hT hf
  -- a step to one statement
  have pass : ∀ {m : Machine}, (∀ k', step P (lone (fat b tmps (it :: k') ds) cs w) = .next (lone (fat b tmps k' ds) cs w)) → some (Xt.normal, T, H) = some (x, T', H') →
      ∃ ρ' w' tmps' ms, Post ρ H w ρ' H' w' ∧ TR ρ' T' tmps' ∧ Marks ρ' H' w w' ms ∧ Ends P (lone (fat b tmps (it :: k) ds) cs w) b tmps' k (ms.map markOf ++ ds) cs w' x := by
    intro _ h1 h2
    simp only [Option.some.injEq, Prod.mk.injEq] at h2
    obtain ⟨rfl, rfl, rfl⟩ := h2
    exact ⟨ρ, w, tmps, [], Post.refl hR, hT, Marks.nil, .one (h1 k)⟩
  -- one statement after another
  have both : ∀ {a c2 : Code} {it2 : Item} {m : Machine}, Starts c2 it2 → (∀ id, exitTo id (it2 :: k) = exitTo id k) → (b.roundOf = none ∨ flat a = true) → (b.roundOf = none ∨ flat c2 = true) →
      step P (lone (fat b tmps (it :: k) ds) cs w) = .next (lone (fat b tmps (.code a :: it2 :: k) ds) cs w) → seqK (r.code a T H) (r.code c2) = some (x, T', H') →
      ∃ ρ' w' tmps' ms, Post ρ H w ρ' H' w' ∧ TR ρ' T' tmps' ∧ Marks ρ' H' w w' ms ∧ Ends P (lone (fat b tmps (it :: k) ds) cs w) b tmps' k (ms.map markOf ++ ds) cs w' x := by
    intro a c2 it2 _ hs2 hex hfa hfc hstep e
    unfold seqK at e
    split at e
    · rename_i T1 H1 h1
      have hm := hM.code _ _ _ _ _ _ e
      obtain ⟨ρ1, w1, tmps1, ms1, g1, g2, g3, g4⟩ := hC _ _ _ _ _ _ h1 b tmps (.code a) (it2 :: k) ds cs ρ w (.inl rfl) hfa hR hG hT (hf.le hm)
      obtain ⟨ρ2, w2, tmps2, ms2, k1, k2, k3, k4⟩ := hC _ _ _ _ _ _ e b tmps1 it2 k (ms1.map markOf ++ ds) cs ρ1 w1 hs2 hfc g1.rel (hG.mono g1.ext) g2 (g1.free hf)
      refine ⟨ρ2, w2, tmps2, ms2 ++ ms1, g1.trans k1, k2, g3.trans g1.size k1 k3, ?_⟩
      rw [List.map_append, List.append_assoc]
      exact (k4.steps g4).head hstep
    · rename_i hne
      obtain ⟨ρ1, w1, tmps1, ms1, g1, g2, g3, g4⟩ := hC _ _ _ _ _ _ e b tmps (.code a) (it2 :: k) ds cs ρ w (.inl rfl) hfa hR hG hT hf
      refine ⟨ρ1, w1, tmps1, ms1, g1, g2, g3, ?_⟩
      refine (Ends.under ?_ (fun id => .inl (hex id)) g4).head hstep
      intro hx
      subst hx
      exact hne _ _ e
  unfold stepCode at e
  split at e
  · cases starts_code hst (by simp)
    exact pass (m := lone b cs w) (fun k' => step_skip') e
  · cases starts_code hst (by simp)
    exact pass (m := lone b cs w) (fun k' => step_label') e
  · rename_i id ops
    cases starts_code hst (by simp)
    split at e
    · rename_i T1 H1 h1
      simp only [Option.some.injEq, Prod.mk.injEq] at e
      obtain ⟨rfl, rfl, rfl⟩ := e
      obtain ⟨ρ1, w1, tmps1, g1, g2, g3⟩ := runOps_sim (b := b) (ds := ds) (k := k) (cs := cs) hE hX hB ops.toList 0 (by simp) hR hG hT h1 hf (fun h => runOps_next hN hM h)
      refine ⟨ρ1, w1, tmps1, [], g1, g2, Marks.nil, ?_⟩
      have hr : List.range ops.size = List.range' 0 ops.toList.length := by simp [List.range_eq_range']
      exact .head step_region' (by rw [hr]; exact g3)
    · cases e
  · rename_i id ops
    cases starts_code hst (by simp)
    split at e
    · rename_i T1 H1 h1
      simp only [Option.some.injEq, Prod.mk.injEq] at e
      obtain ⟨rfl, rfl, rfl⟩ := e
      obtain ⟨ρ1, w1, tmps1, g1, g2, g3⟩ := drawRegion_sim (b := b) (ds := ds) (k := k) (cs := cs) (id := id) hE hX hN hM hB hR hG hT h1 hf
      exact ⟨ρ1, w1, tmps1, [], g1, g2, Marks.nil, g3⟩
    · cases e
  · rename_i a c2
    cases starts_code hst (by simp)
    obtain ⟨hfa, hfc⟩ := flat_seq hfl
    exact both (m := lone b cs w) (.inl rfl) (fun _ => rfl) hfa hfc step_seq' e
  · rename_i cnd a c2
    cases starts_code hst (by simp)
    cases hc : evo T cnd with
    | none => rw [hc] at e; cases e
    | some v =>
      rw [hc] at e
      cases v <;> simp only [reduceCtorEq] at e
      rename_i t
      have hv := evo_sim (a := ⟨tmps, []⟩) hT hc
      have hcv : (⟨tmps, []⟩ : Act).eval cnd = .bool t := by
        generalize (⟨tmps, []⟩ : Act).eval cnd = u at hv
        cases hv; rfl
      have hstep := step_cond' (P := P) (b := b) (ds := ds) (k := k) (cs := cs) (w := w) (x := a) (y := c2) hcv
      have hfl' : b.roundOf = none ∨ flat (bif t then a else c2) = true := by
        rcases hfl with h | h
        · exact .inl h
        · simp only [flat, Bool.and_eq_true] at h
          cases t
          · exact .inr h.2
          · exact .inr h.1
      obtain ⟨ρ1, w1, tmps1, ms1, g1, g2, g3, g4⟩ := hC _ _ _ _ _ _ e b tmps (.code (bif t then a else c2)) k ds cs ρ w (.inl rfl) hfl' hR hG hT hf
      refine ⟨ρ1, w1, tmps1, ms1, g1, g2, g3, g4.head ?_⟩
      rw [hstep]
      cases t <;> rfl
  · rename_i id body
    cases starts_code hst (by simp)
    have hfl' : b.roundOf = none ∨ flat body = true := hfl
    have hstep := step_block' (P := P) (b := b) (tmps := tmps) (ds := ds) (k := k) (cs := cs) (w := w) (id := id) (c := body)
    unfold blockK at e
    split at e
    · rename_i i T1 H1 h1
      obtain ⟨ρ1, w1, tmps1, ms1, g1, g2, g3, g4⟩ : ∃ ρ' w' tmps' ms, Post ρ H w ρ' H1 w' ∧ TR ρ' T1 tmps' ∧ Marks ρ' H1 w w' ms ∧ Ends P (lone (fat b tmps (.code body :: .inBlock id :: k) ds) cs w) b tmps' (.inBlock id :: k) (ms.map markOf ++ ds) cs w' (.exit i) := by
        refine hC _ _ _ _ _ _ h1 b tmps (.code body) (.inBlock id :: k) ds cs ρ w (.inl rfl) hfl' hR hG hT ?_
        cases hb : Nat.beq i id <;> rw [hb] at e <;> simp only [cond_true, cond_false, Option.some.injEq, Prod.mk.injEq] at e <;> obtain ⟨_, _, rfl⟩ := e <;> exact hf
      cases hb : Nat.beq i id
      · rw [hb] at e
        simp only [cond_false, Option.some.injEq, Prod.mk.injEq] at e
        obtain ⟨rfl, rfl, rfl⟩ := e
        refine ⟨ρ1, w1, tmps1, ms1, g1, g2, g3, (Ends.under (by simp) (fun id' => ?_) g4).head hstep⟩
        by_cases hii : id' = i
        · subst hii
          refine .inl ?_
          have : (id == id') = false := by
            cases h : (id == id') with
            | false => rfl
            | true => have := (beq_iff_eq.1 h); subst this; simp at hb
          simp [exitTo, this]
        · exact .inr (by simp; exact fun h => hii h.symm)
      · rw [hb] at e
        simp only [cond_true, Option.some.injEq, Prod.mk.injEq] at e
        obtain ⟨rfl, rfl, rfl⟩ := e
        have := Nat.eq_of_beq_eq_true hb
        subst this
        obtain ⟨k', h2, h3⟩ := g4
        refine ⟨ρ1, w1, tmps1, ms1, g1, g2, g3, ?_⟩
        refine .head hstep (Steps.trans h3 (.one (step_exit' (k' := k) ?_)))
        rw [h2]; simp [exitTo]
    · rename_i hne
      obtain ⟨ρ1, w1, tmps1, ms1, g1, g2, g3, g4⟩ := hC _ _ _ _ _ _ e b tmps (.code body) (.inBlock id :: k) ds cs ρ w (.inl rfl) hfl' hR hG hT hf
      refine ⟨ρ1, w1, tmps1, ms1, g1, g2, g3, ?_⟩
      cases x with
      | normal => exact .head hstep (Steps.trans g4 (.one step_inBlock'))
      | exit i => exact (hne _ _ _ e).elim
      | ret => exact Ends.head hstep g4
  · rename_i body
    have hstep : step P (lone (fat b tmps (it :: k) ds) cs w) = .next (lone (fat b tmps (.code body :: .inLoop body :: k) ds) cs w) := by
      rcases hst with h | ⟨body', h1, h2⟩
      · subst h; exact step_loop'
      · cases h1; subst h2; exact step_inLoop'
    exact both (a := body) (c2 := .loop body) (m := lone b cs w) (.inr ⟨body, rfl, rfl⟩) (fun _ => rfl) hfl hfl hstep e
  · rename_i body
    cases starts_code hst (by simp)
    have hstep := step_scope' (P := P) (b := b) (tmps := tmps) (ds := ds) (k := k) (cs := cs) (w := w) (c := body)
    obtain ⟨ρ1, w1, tmps1, ms1, g1, g2, g3, g4⟩ := hC _ _ _ _ _ _ e b tmps (.code body) (.inScope body :: k) ds cs ρ w (.inl rfl) hfl hR hG hT hf
    refine ⟨ρ1, w1, tmps1, ms1, g1, g2, g3, ?_⟩
    cases x with
    | normal => exact .head hstep (Steps.trans g4 (.one step_inScope'))
    | exit i => exact Ends.head hstep (Ends.under (by simp) (fun _ => .inl rfl) g4)
    | ret => exact Ends.head hstep g4
  · rename_i id
    cases starts_code hst (by simp)
    simp only [Option.some.injEq, Prod.mk.injEq] at e
    obtain ⟨rfl, rfl, rfl⟩ := e
    exact ⟨ρ, w, tmps, [], Post.refl hR, hT, Marks.nil, k, rfl, .refl _ _⟩
  · cases starts_code hst (by simp)
    simp only [Option.some.injEq, Prod.mk.injEq] at e
    obtain ⟨rfl, rfl, rfl⟩ := e
    exact ⟨ρ, w, tmps, [], Post.refl hR, hT, Marks.nil, k, .refl _ _⟩
  · rename_i f ps as body
    cases starts_code hst (by simp)
    rcases hfl with hfl | hfl
    · exact rangeFunc_sim hE hX hN hM hB hfl hR hG hT e hf
    · simp [flat] at hfl
  · cases e
  · cases e
end
end Go.Ev
