/- A region whose order is open: the invariant of whatever order is drawn. -/
import Derived.Test.YthbphkakekdfkaaGreatDoorEv19
namespace Go.Ev
open Go Go.RowKit
structure Inv [Sy] (E : Env) (r : Rec) (ops : List Oper) (Ts : Nat → Tmps) (Hs : Nat → AH) (val : Nat → Value) (W : Nat → Bool) (ρ0 : Ren) (w0 : World)
    (S : Nat → Prop) (q : Nat) (ρ : Ren) (w : World) (tmps : Array Value) : Prop where
  size : tmps.size = (Ts 0).n
  glob : GOk ρ E.g ∧ GOk ρ (Ts 0).g
  old : ∀ t v, (∀ i o, ops[i]? = some o → S i → o.dst ≠ some t) → (Ts 0).get t = some v → ∃ v', tmps[t]? = some v' ∧ VR ρ v v'
  done : ∀ (i : Nat) (o : Oper) (d : Tmp), ops[i]? = some o → S i → o.dst = some d → ∃ v', tmps[d]? = some v' ∧ VR ρ (val i) v'
  qle : q ≤ ops.length
  eff : ∀ (i : Nat) (o : Oper), ops[i]? = some o → cls E o.op = 3 → (S i ↔ i < q)
  rel : Rel ρ (Hs q) w
  late : ∀ (i : Nat) (o : Oper) (ob : AObj), i < q → ¬ S i → ops[i]? = some o → cls E o.op = 2 → W i = true → Hs (i + 1) = (Hs i).new ob → (Hs q).get (Hs i).next = some ob
  early : ∀ (i : Nat) (o : Oper) (ob : AObj), q ≤ i → S i → ops[i]? = some o → cls E o.op = 2 → W i = true → Hs (i + 1) = (Hs i).new ob →
    ∃ p x, ρ (Hs i).next = some p ∧ w.heap[p.c]? = some x ∧ OR ρ p ob x ∧ Vac ρ (Hs q) p.c ∧ w0.heap.size ≤ p.c
  apart : ∀ (i j : Nat) (oi oj : Oper) (p p' : Pl), q ≤ i → q ≤ j → S i → S j → ops[i]? = some oi → ops[j]? = some oj → cls E oi.op = 2 → cls E oj.op = 2 → W i = true → W j = true → i ≠ j →
    ρ (Hs i).next = some p → ρ (Hs j).next = some p' → p.c ≠ p'.c
  free : ∀ i, i < ops.length → ¬ S i → Free ρ (Hs i).next (Hs (i + 1)).next
  ext : Ext ρ0 ρ
  dom : ∀ b p, ρ0 b = none → ρ b = some p → (Hs 0).next ≤ b ∧ b < (Hs ops.length).next
  kept : ∀ b, b < (Hs 0).next → ρ0 b = none → (Hs q).get b = (Hs 0).get b
  os : w.os = w0.os
  tape : w.tape = w0.tape
  output : w.output = w0.output
  wsize : w0.heap.size ≤ w.heap.size
  frame : ∀ c, c < w0.heap.size → Idle ρ0 (Hs 0) c → w.heap[c]? = w0.heap[c]?
  img : ∀ b p o, ρ b = some p → (Hs q).get b = some o → p.c < w0.heap.size → ∃ b0 p0 o0, ρ0 b0 = some p0 ∧ (Hs 0).get b0 = some o0 ∧ (o.wr = true → o0.wr = true) ∧ p0.c = p.c
section
variable {E : Env} {P : Program} {r : Rec} {ops : List Oper} {Ts : Nat → Tmps} {Hs : Nat → AH} {val : Nat → Value} {W : Nat → Bool} {N : Notes} {ρ0 : Ren} {w0 : World} {S : Nat → Prop} {q : Nat} {ρ : Ren} {w : World} {tmps : Array Value}
theorem run_next (_ : RunD E r ops Ts Hs val W N) (hm : ∀ i, i < ops.length → (Hs i).next ≤ (Hs (i + 1)).next) : ∀ j, j ≤ ops.length → ∀ i, i ≤ j → (Hs i).next ≤ (Hs j).next := by
  intro j
  induction j with
  | zero => intro _ i hi; have : i = 0 := by omega
            subst this; exact Nat.le_refl _
  | succ j ih =>
    intro hj i hi
    by_cases h : i = j + 1
    · subst h; exact Nat.le_refl _
    · exact Nat.le_trans (ih (by omega) i (by omega)) (hm j (by omega))
theorem Inv.advance [Sy] (hD : RunD E r ops Ts Hs val W N) (hm : ∀ i, i < ops.length → (Hs i).next ≤ (Hs (i + 1)).next) (h : Inv E r ops Ts Hs val W ρ0 w0 S q ρ w tmps) {o : Oper} (ho : ops[q]? = some o) (hc : cls E o.op ≠ 3) :
    Inv E r ops Ts Hs val W ρ0 w0 S (q + 1) ρ w tmps := by
  have hql : q < ops.length := (List.getElem?_eq_some_iff.1 ho).1
  have mono := run_next hD hm
  have heff : ∀ (i : Nat) (o' : Oper), ops[i]? = some o' → cls E o'.op = 3 → (S i ↔ i < q + 1) := by
    intro i o' ho' hc'
    have := h.eff i o' ho' hc'
    have hne : i ≠ q := by intro e; subst e; rw [ho] at ho'; cases ho'; exact hc hc'
    rw [this]; omega
  -- either the heap is the same, or one block is new
  by_cases hnew : cls E o.op = 2 ∧ W q = true
  · obtain ⟨hc2, hw⟩ := hnew
    obtain ⟨ob, ans, hn, hv, hH⟩ := cls2_new hc2 (hD.run q o ho hw)
    have hnext : (Hs (q + 1)).next = (Hs q).next + 1 := by rw [hH]; rfl
    have hne : ∀ i, i < q → ∀ o' ob', ops[i]? = some o' → Hs (i + 1) = (Hs i).new ob' → (Hs i).next ≠ (Hs q).next := by
      intro i hi o' ob' _ hi'
      have h1 : (Hs (i + 1)).next = (Hs i).next + 1 := by rw [hi']; rfl
      have := mono q (by omega) (i + 1) (by omega)
      omega
    have hget : ∀ b, (Hs (q + 1)).get b = if b = (Hs q).next then some ob else (Hs q).get b := by intro b; rw [hH, AH.get_new]
    -- the block's place, where it is there
    have hplace : ∀ p, ρ (Hs q).next = some p → ∃ x, w.heap[p.c]? = some x ∧ OR ρ p ob x ∧ Vac ρ (Hs q) p.c ∧ w0.heap.size ≤ p.c := by
      intro p hp
      by_cases hs : S q
      · obtain ⟨p', x, g1, g2, g3, g4, g5⟩ := h.early q o ob (Nat.le_refl _) hs ho hc2 hw hH
        rw [hp] at g1; cases g1
        exact ⟨x, g2, g3, g4, g5⟩
      · have := h.free q hql hs _ (Nat.le_refl _) (by omega)
        rw [hp] at this; cases this
    refine { h with qle := hql, eff := heff, rel := ?_, late := ?_, early := ?_, apart := ?_, kept := ?_, img := ?_ }
    · refine ⟨?_, ?_, ?_⟩
      · intro b p o' hb hg
        rw [hget] at hg
        by_cases e : b = (Hs q).next
        · rw [if_pos e] at hg; cases hg; subst e
          obtain ⟨x, g2, g3, _, _⟩ := hplace p hb
          exact ⟨x, g2, g3⟩
        · rw [if_neg e] at hg; exact h.rel.obj b p o' hb hg
      · intro b b' p p' o1 o2 hb hb' hg hg' hww hcc
        rw [hget] at hg hg'
        by_cases e : b = (Hs q).next
        · by_cases e' : b' = (Hs q).next
          · omega
          · rw [if_neg e'] at hg'; subst e
            obtain ⟨x, _, _, g4, _⟩ := hplace p hb
            exact (g4 b' p' o2 hb' hg' hcc.symm).elim
        · by_cases e' : b' = (Hs q).next
          · rw [if_neg e] at hg; subst e'
            obtain ⟨x, _, _, g4, _⟩ := hplace p' hb'
            exact (g4 b p o1 hb hg hcc).elim
          · rw [if_neg e] at hg; rw [if_neg e'] at hg'
            exact h.rel.inj b b' p p' o1 o2 hb hb' hg hg' hww hcc
      · intro b hb
        rw [hget, if_neg (by omega)]
        exact h.rel.fresh b (by omega)
    · intro i o' ob' hi hs ho' hc' hw' hH'
      by_cases hiq : i = q
      · subst hiq
        rw [hget, if_pos rfl]
        have := hH'.symm.trans hH
        have h2 : (Hs i).new ob' = (Hs i).new ob := this
        have h3 := congrArg (fun H => H.get (Hs i).next) h2
        simp only [AH.get_new, if_true, Option.some.injEq] at h3
        rw [h3]
      · have hlt : i < q := by omega
        rw [hget, if_neg (hne i hlt o' ob' ho' hH')]
        exact h.late i o' ob' hlt hs ho' hc' hw' hH'
    · intro i o' ob' hi hs ho' hc' hw' hH'
      obtain ⟨p, x, g1, g2, g3, g4, g5⟩ := h.early i o' ob' (by omega) hs ho' hc' hw' hH'
      refine ⟨p, x, g1, g2, g3, ?_, g5⟩
      intro b p' o2 hb hg
      rw [hget] at hg
      by_cases e : b = (Hs q).next
      · subst e
        by_cases hsq : S q
        · exact (h.apart i q o' o p p' (by omega) (Nat.le_refl _) hs hsq ho' ho hc' hc2 hw' hw (by omega) g1 hb).symm
        · have := h.free q hql hsq _ (Nat.le_refl _) (by omega)
          rw [hb] at this; cases this
      · rw [if_neg e] at hg; exact g4 b p' o2 hb hg
    · intro i j oi oj p p' hi hj; exact h.apart i j oi oj p p' (by omega) (by omega)
    · intro b hb hn'
      rw [hget, if_neg]
      · exact h.kept b hb hn'
      · have := mono q (by omega) 0 (by omega); omega
    · intro b p o' hb hg hc'
      rw [hget] at hg
      by_cases e : b = (Hs q).next
      · subst e
        obtain ⟨x, _, _, _, g5⟩ := hplace p hb
        omega
      · rw [if_neg e] at hg; exact h.img b p o' hb hg hc'
  · have hsame : Hs (q + 1) = Hs q := by
      cases hw : W q with
      | false => exact (hD.skip q o ho hw).2
      | true =>
        refine cls01_same ?_ (hD.run q o ho hw)
        rcases cls_le (E := E) o.op with h1 | h1 | h1 | h1
        · exact .inl h1
        · exact .inr h1
        · exact (hnew ⟨h1, hw⟩).elim
        · exact (hc h1).elim
    refine { h with qle := hql, eff := heff, rel := by rw [hsame]; exact h.rel, late := ?_, early := ?_, apart := ?_, kept := by rw [hsame]; exact h.kept, img := by rw [hsame]; exact h.img }
    · intro i o' ob' hi hs ho' hc' hw' hH'
      by_cases hiq : i = q
      · subst hiq; rw [ho] at ho'; cases ho'; exact (hnew ⟨hc', hw'⟩).elim
      · rw [hsame]; exact h.late i o' ob' (by omega) hs ho' hc' hw' hH'
    · intro i o' ob' hi hs ho' hc' hw' hH'
      rw [hsame]; exact h.early i o' ob' (by omega) hs ho' hc' hw' hH'
    · intro i j oi oj p p' hi hj; exact h.apart i j oi oj p p' (by omega) (by omega)
theorem Inv.settle [Sy] (hD : RunD E r ops Ts Hs val W N) (hm : ∀ i, i < ops.length → (Hs i).next ≤ (Hs (i + 1)).next) : ∀ (d q : Nat), ops.length - q = d → Inv E r ops Ts Hs val W ρ0 w0 S q ρ w tmps →
    ∃ p, Inv E r ops Ts Hs val W ρ0 w0 S p ρ w tmps ∧ (p = ops.length ∨ ∃ o, ops[p]? = some o ∧ cls E o.op = 3) := by
  intro d
  induction d with
  | zero => intro q hd h; exact ⟨q, h, .inl (by have := h.qle; omega)⟩
  | succ d ih =>
    intro q hd h
    have hlt : q < ops.length := by omega
    have ho : ops[q]? = some ops[q] := List.getElem?_eq_getElem hlt
    by_cases hc : cls E (ops[q]).op = 3
    · exact ⟨q, h, .inr ⟨_, ho, hc⟩⟩
    · exact ih (q + 1) (by omega) (h.advance hD hm ho hc)
theorem pre_lt [Sy] {ops : List Oper} (he : ∀ (j : Nat) (o : Oper), ops[j]? = some o → ∀ e ∈ o.after.toList, Region.binds .any e = true → e.on < j) :
    ∀ (j i : Nat), Pre (befores ops 0 []).reverse i j → i < j := by
  intro j
  induction j using Nat.strongRecOn with
  | _ j ih =>
    intro i h
    by_cases hj : j < ops.length
    · obtain ⟨e, h1, h2, h3⟩ := pre_cases (List.getElem?_eq_getElem hj) h
      have hlt := he j _ (List.getElem?_eq_getElem hj) e h1 h2
      rcases h3 with h3 | ⟨h3, h4⟩
      · omega
      · have := ih e.on h3 i h4; omega
    · obtain ⟨out, h1, h2, _⟩ := befores_spec ops 0 [] rfl
      have hb : (befores ops 0 []).reverse = out := by rw [h1]; simp
      unfold Pre at h
      rw [hb, List.getD_eq_getElem?_getD, List.getElem?_eq_none (by omega)] at h
      simp at h
theorem Inv.looks [Sy] (hD : RunD E r ops Ts Hs val W N) (h : Inv E r ops Ts Hs val W ρ0 w0 S q ρ w tmps) {bs : List Nat} (hS : SsaR ops bs) (hdst : ∀ (i : Nat) (o : Oper) (d : Tmp), ops[i]? = some o → o.dst = some d → d < (Ts 0).n)
    (hclosed : ∀ i j, S j → Pre bs i j → S i) (hplt : ∀ i j, Pre bs i j → i < j) {j : Nat} {o : Oper} (ho : ops[j]? = some o) (hj : ¬ S j) (hpre : ∀ i, Pre bs i j → S i) : TR ρ (restr (Ts j) (looks ops o)) tmps := by
  have hjl : j < ops.length := (List.getElem?_eq_some_iff.1 ho).1
  obtain ⟨hn, hg⟩ := text_n hD j (by omega)
  refine ⟨?_, ?_, ?_⟩
  · show GOk ρ (Ts j).g
    rw [hg]; exact h.glob.2
  · show tmps.size = (Ts j).n
    rw [hn]; exact h.size
  · intro t v e
    rw [restr_get] at e
    split at e
    · rename_i hl
      obtain ⟨t1, t2⟩ := text_get hD (fun i hi => (text_n hD i hi).1) hdst hS t j (by omega)
      by_cases hw : ∃ (k : Nat) (ok : Oper), ops[k]? = some ok ∧ ok.dst = some t
      · obtain ⟨k, ok, hk, hd⟩ := hw
        have uniq : ∀ (i : Nat) (oi : Oper), ops[i]? = some oi → oi.dst = some t → i = k := by
          intro i oi hi hdi
          by_cases e : i = k
          · exact e
          · exact (hS.dst i k oi ok t hi hk e hd hdi).elim
        by_cases hkS : S k
        · have hkj : k ≠ j := fun e => hj (e ▸ hkS)
          have hp : Pre bs k j := by
            rcases hS.look j k o ok t ho hk (fun e => hkj e.symm) hd hl with hp | hp
            · exact hp
            · exact (hj (hclosed j k hkS hp)).elim
          have hlt : k < j := hplt k j hp
          rw [t1 k ok hlt hk hd] at e
          cases e
          exact h.done k ok t hk hkS hd
        · have hnot : ∀ (i : Nat) (o' : Oper), i < j → ops[i]? = some o' → o'.dst ≠ some t := by
            intro i o' hij ho' hd'
            have := uniq i o' ho' hd'
            subst this
            rcases hS.look j i o o' t ho ho' (by omega) hd' hl with hp | hp
            · exact hkS (hpre i hp)
            · have := hplt j i hp; omega
          rw [t2 hnot] at e
          exact h.old t v (fun i o' ho' hs hd' => hkS (uniq i o' ho' hd' ▸ hs)) e
      · have hnot : ∀ (i : Nat) (o' : Oper), ops[i]? = some o' → o'.dst ≠ some t := fun i o' ho' hd' => hw ⟨i, o', ho', hd'⟩
        rw [t2 (fun i o' _ ho' => hnot i o' ho')] at e
        exact h.old t v (fun i o' ho' _ => hnot i o' ho') e
    · cases e
end
end Go.Ev
