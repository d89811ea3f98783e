/- A region whose order is open: any order ends as the text's. -/
import Derived.Test.YthbphkakekdfkaaGreatDoorEv21
import Derived.Orders
namespace Go.Ev
open Go Go.RowKit
section
variable {E : Env} {P : Program} {r : Rec} {ops : Array Oper} {Ts : Nat → Tmps} {Hs : Nat → AH} {val : Nat → Value} {W : Nat → Bool} {N : Notes} {ρ0 : Ren} {w0 : World} {S : Nat → Prop} {q : Nat} {ρ : Ren} {w : World} {tmps : Array Value}
variable {b : Frame} {ds : List Deferred} {k : List Item} {cs : List Frame}
structure Drawn (E : Env) (ops : List Oper) (n : Nat) (bs : List Nat) : Prop where
  eqn : bs = (befores ops 0 []).reverse
  ssa : SsaR ops bs
  chain : chainOk E bs ops 0 [] = true
  dst : ∀ (i : Nat) (o : Oper) (d : Tmp), ops[i]? = some o → o.dst = some d → d < n
  edge : ∀ (j : Nat) (o : Oper), ops[j]? = some o → ∀ e ∈ o.after.toList, Region.binds .any e = true → e.on < j
def Closed (ops : List Oper) (S : Nat → Prop) : Prop := ∀ j o, ops[j]? = some o → S j → ∀ e ∈ o.after.toList, Region.binds .any e = true → S e.on
theorem Drawn.plt [Sy] {ops : List Oper} {n : Nat} {bs : List Nat} (h : Drawn E ops n bs) : ∀ i j, Pre bs i j → i < j := fun i j hp => by
  rw [h.eqn] at hp; exact pre_lt h.edge j i hp
theorem Drawn.prel [Sy] {ops : List Oper} {n : Nat} {bs : List Nat} (h : Drawn E ops n bs) {i j : Nat} (hp : Pre bs i j) : j < ops.length := by
  rcases Nat.lt_or_ge j ops.length with hj | hj
  · exact hj
  · obtain ⟨out, h1, h2, _⟩ := befores_spec ops 0 [] rfl
    have hb : bs = out := by rw [h.eqn, h1]; simp
    unfold Pre at hp
    rw [hb, List.getD_eq_getElem?_getD, List.getElem?_eq_none (by omega)] at hp
    simp at hp
theorem Drawn.closed [Sy] {ops : List Oper} {n : Nat} {bs : List Nat} (h : Drawn E ops n bs) (hc : Closed ops S) : ∀ i j, S j → Pre bs i j → S i := fun i j hj hp => by
  have hl := h.prel hp
  rw [h.eqn] at hp
  exact pre_closed hc j i _ (List.getElem?_eq_getElem hl) hj hp (fun _ _ => trivial) h.edge
theorem readsOk_mem {bs : List Nat} {hist : List (Nat × AH)} {Tn : Tmps} {j : Nat} {o : Oper} {T : Tmps} : ∀ {rs : List (Nat × Oper × Tmps)}, readsOk E bs hist Tn rs = true → (j, o, T) ∈ rs →
    ∃ d u, o.dst = some d ∧ Tn.get d = some u ∧ readOk E bs hist j o T u = true
  | [], _, h => by cases h
  | (j0, o0, T0) :: rs, h, hm => by
    simp only [readsOk, Bool.and_eq_true] at h
    rcases List.mem_cons.1 hm with he | he
    · cases he
      have h1 := h.1
      cases hd : o.dst with
      | none => rw [hd] at h1; cases h1
      | some d =>
        rw [hd] at h1
        simp only at h1
        cases hu : Tn.get d with
        | none => rw [hu] at h1; cases h1
        | some u => rw [hu] at h1; exact ⟨d, u, rfl, hu, h1⟩
    · exact readsOk_mem h.2 he
theorem Inv.one [Sy] (hE : EnvOk E P) (hX : ExtOk E P) (hB : Below' E P r) (hD : RunD E r ops.toList Ts Hs val W N) (hm : ∀ i, i < ops.toList.length → (Hs i).next ≤ (Hs (i + 1)).next)
    {bs : List Nat} (hW : Drawn E ops.toList (Ts 0).n bs) (hreads : readsOk E bs N.hist (Ts ops.toList.length) N.reads = true)
    (h0 : Inv E r ops.toList Ts Hs val W ρ0 w0 S q ρ w tmps) (hc : Closed ops.toList S) {j : Nat} {o : Oper} (ho : ops.toList[j]? = some o) (hj : ¬ S j)
    (hready : ∀ e ∈ o.after.toList, Region.binds .any e = true → S e.on) (rest : List Nat) :
    ∃ q' ρ' w' tmps', Inv E r ops.toList Ts Hs val W ρ0 w0 (With S j) q' ρ' w' tmps' ∧
      Steps P (lone (fat b tmps (.inRegion ops (j :: rest) :: k) ds) cs w) (lone (fat b tmps' (.inRegion ops rest :: k) ds) cs w') := by
  have hjl : j < ops.toList.length := (List.getElem?_eq_some_iff.1 ho).1
  have hoa : ops[j]? = some o := by simpa using ho
  obtain ⟨p, h, hp⟩ := h0.settle hD hm _ q rfl
  have hcl := hW.closed hc
  -- what comes surely ahead of j is done
  have hpre : ∀ i, Pre bs i j → S i := by
    intro i hpi
    have hl := hW.prel hpi
    rw [hW.eqn] at hpi
    obtain ⟨e, h1, h2, h3⟩ := pre_cases ho hpi
    have hse := hready e h1 h2
    rcases h3 with h3 | ⟨h3, h4⟩
    · rw [← h3]; exact hse
    · rw [← hW.eqn] at h4; exact hcl i e.on hse h4
  have hTR : TR ρ (restr (Ts j) (Go.Ev.looks ops.toList o)) tmps := h.looks hD hW.ssa hW.dst hcl hW.plt ho hj hpre
  have hag := restr_agree (Ts j) (ops := ops.toList) (o := o)
  have hdst : ∀ d, o.dst = some d → d < (Ts 0).n := fun d hd => hW.dst j o d ho hd
  have hdist : ∀ (i : Nat) (oi : Oper) (d : Tmp), ops.toList[i]? = some oi → i ≠ j → o.dst = some d → oi.dst ≠ some d := fun i oi d hi hij hd => hW.ssa.dst i j oi o d hi ho hij hd
  have hwv : wantedv ops.toList (restr (Ts j) (Go.Ev.looks ops.toList o)) o = some (W j) := by
    rw [wantedv_agree (T' := Ts j)]
    · exact hD.wanted j o ho
    · intro t ht; rw [restr_get, if_pos ht]
  have hw := wanted_sim hTR hwv
  -- an effect stands at p
  have heff : cls E o.op = 3 → j = p := by
    intro h3
    have h1 := h.eff j o ho h3
    have h2 : ¬ j < p := fun e => hj (h1.2 e)
    rcases hp with hp | ⟨o2, ho2, hc2⟩
    · omega
    · rcases Nat.lt_or_ge p j with hlt | hge
      · have hch := (chainOk_spec hW.chain j o (by simpa using ho) h3).2 p o2 hlt ho2 hc2
        simp only [Nat.zero_add] at hch
        have := (h.eff p o2 ho2 hc2).1 (hpre p hch)
        omega
      · omega
  have hquiet : ∀ {v' : Value}, VR ρ (val j) v' → cls E o.op ≠ 3 → (cls E o.op = 2 → W j = false) → step P (lone (fat b tmps (.inRegion ops (j :: rest) :: k) ds) cs w) = .next (lone ((fat b tmps (.inRegion ops (j :: rest) :: k) ds).finish v') cs w) →
      ∃ q' ρ' w' tmps', Inv E r ops.toList Ts Hs val W ρ0 w0 (With S j) q' ρ' w' tmps' ∧
      Steps P (lone (fat b tmps (.inRegion ops (j :: rest) :: k) ds) cs w) (lone (fat b tmps' (.inRegion ops rest :: k) ds) cs w') := by
    intro v' hv hn3 hn2 hst
    refine ⟨p, ρ, w, _, h.quiet ho hj hdst hdist hv hn3 hn2, .one ?_⟩
    rw [hst, fat_finish hoa] <;> rfl
  cases hWj : W j with
  | false =>
    rw [hWj] at hw
    obtain ⟨hval, hsame⟩ := hD.skip j o ho hWj
    have hv : VR ρ (val j) undef := by rw [hval]; exact .tuple .nil
    have hst : step P (lone (fat b tmps (.inRegion ops (j :: rest) :: k) ds) cs w) = .next (lone ((fat b tmps (.inRegion ops (j :: rest) :: k) ds).finish undef) cs w) :=
      step_unwanted (by rw [hoa]; simpa using hw)
    by_cases h3 : cls E o.op = 3
    · have hjp := heff h3
      subst hjp
      have hpost : Post ρ (Hs j) w ρ (Hs (j + 1)) w := by rw [hsame]; exact Post.refl h.rel
      refine ⟨j + 1, ρ, w, _, h.effect hD hm ho hdst hdist h3 hpost hv, .one ?_⟩
      rw [hst, fat_finish hoa] <;> rfl
    · exact hquiet hv h3 (fun _ => hWj) hst
  | true =>
    rw [hWj] at hw
    have hrun := hD.run j o ho hWj
    have hrun' : doOp E r o.op (restr (Ts j) (Go.Ev.looks ops.toList o)) (Hs j) = some (val j, Hs (j + 1)) := by rw [doOp_agree hag]; exact hrun
    have hT' : TR ρ (restr (Ts j) (Go.Ev.looks ops.toList o)) (⟨tmps, []⟩ : Act).tmps := hTR
    rcases cls_le (E := E) o.op with h0 | h1 | h2 | h3
    · have hpu : pureOp E (restr (Ts j) (Go.Ev.looks ops.toList o)) o.op = some (val j) := by
        unfold doOp at hrun'
        rw [h0] at hrun'
        simp only at hrun'
        split at hrun'
        · rename_i v hv; simp only [Option.some.injEq, Prod.mk.injEq] at hrun'; rw [hv, hrun'.1]
        · cases hrun'
      obtain ⟨v', g1, g2⟩ := pure_sim hE hT' hpu w
      exact hquiet g2 (by rw [h0]; decide) (by rw [h0]; simp) (step_answers hoa hw (cls_notDefer (H := Hs j) (x := (AObj.map [] 0, Ans.ptr)) (.inl hpu)) (.inl g1))
    · have hmem := hD.reads j o ho h1 hWj
      obtain ⟨d, u, hd, hu, hok⟩ := readsOk_mem hreads hmem
      obtain ⟨t1, _⟩ := text_get hD (fun i hi => (text_n hD i hi).1) hW.dst hW.ssa d ops.toList.length (Nat.le_refl _)
      rw [t1 j o hjl ho hd] at hu
      simp only [Option.some.injEq] at hu
      subst hu
      have hhist : (p, Hs p) ∈ N.hist := by
        rcases hp with hp | ⟨o2, ho2, hc2⟩
        · rw [hp]; exact hD.histN
        · exact hD.histE p o2 ho2 hc2
      have hmay : mayAt bs N.hist j p = true := by
        unfold mayAt
        rw [Bool.and_eq_true]
        constructor
        · cases hb : (bs.getD j 0).testBit p with
          | false => rfl
          | true =>
            have hpj : Pre bs p j := hb
            have hSp := hpre p hpj
            rcases hp with hp | ⟨o2, ho2, hc2⟩
            · have := hW.plt p j hpj; omega
            · have := (h.eff p o2 ho2 hc2).1 hSp; omega
        · refine List.all_eq_true.2 fun x hx => ?_
          cases hble : Nat.ble p x.1 with
          | true => rfl
          | false =>
            have hlt : x.1 < p := by
              refine Nat.lt_of_not_le fun e => ?_
              rw [Nat.ble_eq_true_of_le e] at hble; cases hble
            simp only [cond_false]
            cases hb : (bs.getD x.1 0).testBit j with
            | false => rfl
            | true =>
              have hpj : Pre bs j x.1 := hb
              rcases hD.histIn x hx with hx1 | ⟨o2, ho2, hc2⟩
              · have := h.qle; omega
              · exact (hj (hcl j x.1 ((h.eff x.1 o2 ho2 hc2).2 hlt) hpj)).elim
      have hone := List.all_eq_true.1 hok (p, Hs p) hhist
      simp only [hmay, cond_true] at hone
      rw [← readAny_agree hag] at hone
      cases hra : readAny E (restr (Ts j) (Go.Ev.looks ops.toList o)) (Hs p) o.op with
      | none => rw [hra] at hone; cases hone
      | some v =>
        rw [hra] at hone
        have hvv := veq_eq 20 hone
        subst hvv
        unfold readAny at hra
        split at hra
        · rename_i v2 hv2
          simp only [Option.some.injEq] at hra
          subst hra
          obtain ⟨v', g1, g2⟩ := read_sim hE hT' h.rel hv2
          exact hquiet g2 (by rw [h1]; decide) (by rw [h1]; simp) (step_answers hoa hw (cls_notDefer (H := Hs p) (x := (AObj.map [] 0, Ans.ptr)) (.inr (.inl hv2))) (.inl g1))
        · obtain ⟨v', g1, g2⟩ := pure_sim hE hT' hra w
          exact hquiet g2 (by rw [h1]; decide) (by rw [h1]; simp) (step_answers hoa hw (cls_notDefer (H := Hs p) (x := (AObj.map [] 0, Ans.ptr)) (.inl hra)) (.inl g1))
    · obtain ⟨ob, ans, hn, hval, hH⟩ := cls2_new h2 hrun'
      obtain ⟨v', obj, n, pl, g1, g2, g3, g4, g5⟩ := new_sim hE hT' hn w
      refine ⟨p, ρ.add (Hs j).next pl, _, _, h.news hD hm ho hj hdst hdist h2 hWj hH hval g2 g4 (fun ρ' hp' => g5 _ ρ' hp') n, .one ?_⟩
      rw [step_answers hoa hw (cls_notDefer (H := Hs j) (v := v') (.inr (.inr hn))) (.inl g1), fat_finish hoa] <;> rfl
    · have hjp := heff h3
      subst hjp
      obtain ⟨ρ', w', v', g1, g2, g3⟩ := doOp_sim (b := b) (ds := ds) (k := k) (cs := cs) (rest := rest) hE hX hB h.rel h.glob.1 hTR hoa hw hrun' (h.free j hjl hj)
      refine ⟨j + 1, ρ', w', _, h.effect hD hm ho hdst hdist h3 g1 g2, ?_⟩
      rw [fat_finish hoa] at g3
      exact g3
theorem With.closed (hc : Closed ops.toList S) {j : Nat} {o : Oper} (ho : ops.toList[j]? = some o) (hready : ∀ e ∈ o.after.toList, Region.binds .any e = true → S e.on) : Closed ops.toList (With S j) := by
  intro i oi hi hs e he hb
  rcases hs with hs | hs
  · exact .inl (hc i oi hi hs e he hb)
  · subst hs; rw [ho] at hi; cases hi; exact .inl (hready e he hb)
theorem Inv.all [Sy] (hE : EnvOk E P) (hX : ExtOk E P) (hB : Below' E P r) (hD : RunD E r ops.toList Ts Hs val W N) (hm : ∀ i, i < ops.toList.length → (Hs i).next ≤ (Hs (i + 1)).next)
    {bs : List Nat} (hW : Drawn E ops.toList (Ts 0).n bs) (hreads : readsOk E bs N.hist (Ts ops.toList.length) N.reads = true) :
    ∀ (fuel t : Nat) (listed : Array Bool) {S : Nat → Prop} {q : Nat} {ρ : Ren} {w : World} {tmps : Array Value}, listed.size = ops.size → (∀ i, S i ↔ listed[i]? = some true) → listed.toList.count false ≤ fuel →
      Inv E r ops.toList Ts Hs val W ρ0 w0 S q ρ w tmps → Closed ops.toList S →
      ∃ S' q' ρ' w' tmps', (∀ i, i < ops.size → S' i) ∧ Inv E r ops.toList Ts Hs val W ρ0 w0 S' q' ρ' w' tmps' ∧
        Steps P (lone (fat b tmps (.inRegion ops (Region.linearise.go .any ops fuel t listed []) :: k) ds) cs w) (lone (fat b tmps' (.inRegion ops [] :: k) ds) cs w') := by
  intro fuel
  induction fuel with
  | zero =>
    intro t listed S q ρ w tmps hsz hS hcount h hc
    refine ⟨S, q, ρ, w, tmps, ?_, h, ?_⟩
    · intro i hi
      rw [hS]
      have hnf : false ∉ listed.toList := by
        intro hmem
        have := List.count_pos_iff.2 hmem
        omega
      have hil : i < listed.size := by omega
      rw [Array.getElem?_eq_getElem hil]
      cases hb : listed[i] with
      | true => rfl
      | false => exact (hnf (by rw [← hb]; simp)).elim
    · simp only [Region.linearise.go, List.reverse_nil]; exact .refl _ _
  | succ fuel ih =>
    intro t listed S q ρ w tmps hsz hS hcount h hc
    have hgo : Region.linearise.go .any ops (fuel + 1) t listed [] = (match (Region.ready .any ops listed)[t % (Region.ready .any ops listed).length]? with
      | some i => Region.linearise.go .any ops fuel (t / (Region.ready .any ops listed).length) (listed.setIfInBounds i true) [i]
      | none => [].reverse) := rfl
    rw [hgo]
    cases hi : (Region.ready .any ops listed)[t % (Region.ready .any ops listed).length]? with
    | none =>
      have hnil : Region.ready .any ops listed = [] := by
        cases hr : Region.ready .any ops listed with
        | nil => rfl
        | cons x xs =>
          rw [hr] at hi
          have hlt : t % (x :: xs).length < (x :: xs).length := Nat.mod_lt _ (by simp)
          simp at hi
          simp at hlt
          omega
      refine ⟨S, q, ρ, w, tmps, ?_, h, by simp only [List.reverse_nil]; exact .refl _ _⟩
      intro i
      induction i using Nat.strongRecOn with
      | _ i ihi =>
        intro hil
        rw [hS]
        have hil' : i < listed.size := by omega
        rw [Array.getElem?_eq_getElem hil']
        cases hb : listed[i] with
        | true => rfl
        | false =>
          exfalso
          have : i ∈ Region.ready .any ops listed := by
            unfold Region.ready
            rw [List.mem_filter]
            refine ⟨List.mem_range.2 hil, ?_⟩
            rw [Bool.and_eq_true]
            refine ⟨by simp [Array.getD, hil', hb], ?_⟩
            rw [Array.getElem?_eq_getElem hil]
            simp only [Option.map_some, Option.getD_some]
            rw [Array.all_eq_true']
            intro e he
            cases hbd : Region.binds .any e with
            | false => rfl
            | true =>
              have hlt := hW.edge i ops[i] (by simp [hil]) e (by simpa using he) hbd
              have := (hS e.on).1 (ihi e.on hlt (by omega))
              simp [Array.getD_eq_getD_getElem?, this]
          rw [hnil] at this; cases this
    | some i =>
      simp only []
      rw [linearise_go_acc, List.reverse_singleton, List.singleton_append]
      have hmem : i ∈ Region.ready .any ops listed := List.mem_of_getElem? hi
      unfold Region.ready at hmem
      rw [List.mem_filter, Bool.and_eq_true] at hmem
      obtain ⟨hr, hn, hall⟩ := hmem
      have hil : i < ops.size := List.mem_range.1 hr
      have hil' : i < listed.size := by omega
      have hbi : listed[i] = false := by
        simpa [Array.getD, hil'] using hn
      have ho : ops.toList[i]? = some ops[i] := by simp [hil]
      have hj : ¬ S i := by rw [hS, Array.getElem?_eq_getElem hil', hbi]; simp
      have hready : ∀ e ∈ (ops[i]).after.toList, Region.binds .any e = true → S e.on := by
        intro e he hb
        rw [Array.getElem?_eq_getElem hil] at hall
        simp only [Option.map_some, Option.getD_some] at hall
        rw [Array.all_eq_true'] at hall
        have := hall e (by simpa using he)
        rw [hb] at this
        simp only [Bool.not_true, Bool.false_or] at this
        rw [hS]
        rw [Array.getD_eq_getD_getElem?] at this
        cases hg : listed[e.on]? with
        | none => rw [hg] at this; simp at this
        | some x => rw [hg] at this; simp at this; rw [this]
      obtain ⟨q1, ρ1, w1, tmps1, g1, g2⟩ := Inv.one (b := b) (ds := ds) (k := k) (cs := cs) hE hX hB hD hm hW hreads h hc ho hj hready
        (Region.linearise.go .any ops fuel (t / (Region.ready .any ops listed).length) (listed.setIfInBounds i true) [])
      have hS' : ∀ i', With S i i' ↔ (listed.setIfInBounds i true)[i']? = some true := by
        intro i'
        rw [Array.getElem?_setIfInBounds]
        by_cases hii : i = i'
        · subst hii; simp [With, hil']
        · rw [if_neg hii]
          unfold With
          rw [hS]
          constructor
          · rintro (h1 | h1)
            · exact h1
            · exact (hii h1.symm).elim
          · exact .inl
      have hcount' : (listed.setIfInBounds i true).toList.count false ≤ fuel := by
        rw [Array.toList_setIfInBounds, List.count_set (by simpa using hil')]
        have h1 : listed.toList[i]'(by simpa using hil') = false := by simpa using hbi
        rw [h1]
        simp
        simpa using hcount
      obtain ⟨S', q', ρ', w', tmps', k1, k2, k3⟩ := ih (t / (Region.ready .any ops listed).length) (listed.setIfInBounds i true) (by simpa using hsz) hS' hcount' g1 (With.closed hc ho hready)
      exact ⟨S', q', ρ', w', tmps', k1, k2, Steps.trans g2 k3⟩
end
end Go.Ev
