/- A region whose order is open: one operation more. -/
import Derived.Test.YthbphkakekdfkaaGreatDoorEv20
namespace Go.Ev
open Go Go.RowKit
section
variable {E : Env} {P : Program} {r : Rec} {ops : Array Oper} {Ts : Nat → Tmps} {Hs : Nat → AH} {val : Nat → Value} {W : Nat → Bool} {N : Notes} {ρ0 : Ren} {w0 : World} {S : Nat → Prop} {q : Nat} {ρ : Ren} {w : World} {tmps : Array Value}
variable {b : Frame} {ds : List Deferred} {k : List Item} {cs : List Frame}
def With (S : Nat → Prop) (j : Nat) : Nat → Prop := fun i => S i ∨ i = j
theorem Inv.answer [Sy] {w' : World} {ρ' : Ren} {q' : Nat} (h : Inv E r ops.toList Ts Hs val W ρ0 w0 S q ρ w tmps) {j : Nat} {o : Oper} (ho : ops.toList[j]? = some o) (hj : ¬ S j) (hdst : ∀ d, o.dst = some d → d < (Ts 0).n)
    (hdist : ∀ (i : Nat) (oi : Oper) (d : Tmp), ops.toList[i]? = some oi → i ≠ j → o.dst = some d → oi.dst ≠ some d)
    {v' : Value} (hx : Ext ρ ρ') (hv : VR ρ' (val j) v') (qle : q' ≤ ops.toList.length)
    (eff : ∀ (i : Nat) (o : Oper), ops.toList[i]? = some o → cls E o.op = 3 → (With S j i ↔ i < q')) (rel : Rel ρ' (Hs q') w')
    (late : ∀ (i : Nat) (o : Oper) (ob : AObj), i < q' → ¬ With S j i → ops.toList[i]? = some o → cls E o.op = 2 → W i = true → Hs (i + 1) = (Hs i).new ob → (Hs q').get (Hs i).next = some ob)
    (early : ∀ (i : Nat) (o : Oper) (ob : AObj), q' ≤ i → With S j i → ops.toList[i]? = some o → cls E o.op = 2 → W i = true → Hs (i + 1) = (Hs i).new ob →
      ∃ p x, ρ' (Hs i).next = some p ∧ w'.heap[p.c]? = some x ∧ OR ρ' p ob x ∧ Vac ρ' (Hs q') p.c ∧ w0.heap.size ≤ p.c)
    (apart : ∀ (i j' : Nat) (oi oj : Oper) (p p' : Pl), q' ≤ i → q' ≤ j' → With S j i → With S j j' → ops.toList[i]? = some oi → ops.toList[j']? = some oj → cls E oi.op = 2 → cls E oj.op = 2 → W i = true → W j' = true → i ≠ j' →
      ρ' (Hs i).next = some p → ρ' (Hs j').next = some p' → p.c ≠ p'.c)
    (free : ∀ i, i < ops.toList.length → ¬ With S j i → Free ρ' (Hs i).next (Hs (i + 1)).next)
    (dom : ∀ b p, ρ0 b = none → ρ' b = some p → (Hs 0).next ≤ b ∧ b < (Hs ops.toList.length).next)
    (kept : ∀ b, b < (Hs 0).next → ρ0 b = none → (Hs q').get b = (Hs 0).get b)
    (os : w'.os = w0.os) (tape : w'.tape = w0.tape) (output : w'.output = w0.output) (wsize : w0.heap.size ≤ w'.heap.size)
    (frame : ∀ c, c < w0.heap.size → Idle ρ0 (Hs 0) c → w'.heap[c]? = w0.heap[c]?)
    (img : ∀ b p o, ρ' b = some p → (Hs q').get b = some o → p.c < w0.heap.size → ∃ b0 p0 o0, ρ0 b0 = some p0 ∧ (Hs 0).get b0 = some o0 ∧ (o.wr = true → o0.wr = true) ∧ p0.c = p.c) :
    Inv E r ops.toList Ts Hs val W ρ0 w0 (With S j) q' ρ' w' (match o.dst with | some d => tmps.setIfInBounds d v' | none => tmps) where
  size := by cases o.dst <;> simp [h.size]
  glob := ⟨h.glob.1.mono hx, h.glob.2.mono hx⟩
  old := by
    intro t v hall hg
    have h1 : ∀ (i : Nat) (o' : Oper), ops.toList[i]? = some o' → S i → o'.dst ≠ some t := fun i o' ho' hs => hall i o' ho' (.inl hs)
    have h2 : o.dst ≠ some t := hall j o ho (.inr rfl)
    obtain ⟨u, g1, g2⟩ := h.old t v h1 hg
    refine ⟨u, ?_, g2.mono hx⟩
    cases hd : o.dst with
    | none => exact g1
    | some d =>
      simp only
      rw [Array.getElem?_setIfInBounds_ne]
      · exact g1
      · intro e; rw [hd, e] at h2; exact h2 rfl
  done := by
    intro i o' d ho' hs hd'
    by_cases hij : i = j
    · subst hij
      rw [ho] at ho'; cases ho'
      refine ⟨v', ?_, hv⟩
      have hlt : d < tmps.size := by rw [h.size]; exact hdst d hd'
      rw [hd']
      simp only
      rw [Array.getElem?_setIfInBounds]; simp [hlt]
    · have hs' : S i := by rcases hs with hs | hs; exact hs; exact (hij hs).elim
      obtain ⟨u, g1, g2⟩ := h.done i o' d ho' hs' hd'
      refine ⟨u, ?_, g2.mono hx⟩
      cases hd : o.dst with
      | none => exact g1
      | some d' =>
        simp only
        rw [Array.getElem?_setIfInBounds_ne]
        · exact g1
        · intro e; subst e; exact hdist i o' d' ho' hij hd hd'
  qle := qle
  eff := eff
  rel := rel
  late := late
  early := early
  apart := apart
  free := free
  ext := h.ext.trans hx
  dom := dom
  kept := kept
  os := os
  tape := tape
  output := output
  wsize := wsize
  frame := frame
  img := img
theorem Inv.quiet [Sy] (h : Inv E r ops.toList Ts Hs val W ρ0 w0 S q ρ w tmps) {j : Nat} {o : Oper} (ho : ops.toList[j]? = some o) (hj : ¬ S j) (hdst : ∀ d, o.dst = some d → d < (Ts 0).n)
    (hdist : ∀ (i : Nat) (oi : Oper) (d : Tmp), ops.toList[i]? = some oi → i ≠ j → o.dst = some d → oi.dst ≠ some d)
    {v' : Value} (hv : VR ρ (val j) v') (hc : cls E o.op ≠ 3) (hno : cls E o.op = 2 → W j = false) :
    Inv E r ops.toList Ts Hs val W ρ0 w0 (With S j) q ρ w (match o.dst with | some d => tmps.setIfInBounds d v' | none => tmps) := by
  have hnj : ∀ {i : Nat} {o' : Oper}, ops.toList[i]? = some o' → cls E o'.op = 2 → W i = true → With S j i → S i ∧ i ≠ j := by
    intro i o' ho' hc' hw' hs
    have hij : i ≠ j := by intro e; subst e; rw [ho] at ho'; cases ho'; rw [hno hc'] at hw'; cases hw'
    rcases hs with hs | hs
    · exact ⟨hs, hij⟩
    · exact (hij hs).elim
  refine h.answer ho hj hdst hdist (Ext.refl _) hv h.qle ?_ h.rel ?_ ?_ ?_ ?_ h.dom h.kept h.os h.tape h.output h.wsize h.frame h.img
  · intro i o' ho' hc'
    rw [← h.eff i o' ho' hc']
    constructor
    · rintro (hs | hs)
      · exact hs
      · subst hs; rw [ho] at ho'; cases ho'; exact (hc hc').elim
    · exact .inl
  · intro i o' ob hi hs ho' hc' hw' hH
    exact h.late i o' ob hi (fun e => hs (.inl e)) ho' hc' hw' hH
  · intro i o' ob hi hs ho' hc' hw' hH
    exact h.early i o' ob hi (hnj ho' hc' hw' hs).1 ho' hc' hw' hH
  · intro i j' oi oj p p' hi hj' hs hs' ho1 ho2 hc1 hc2 hw1 hw2
    exact h.apart i j' oi oj p p' hi hj' (hnj ho1 hc1 hw1 hs).1 (hnj ho2 hc2 hw2 hs').1 ho1 ho2 hc1 hc2 hw1 hw2
  · intro i hi hs
    exact h.free i hi (fun e => hs (.inl e))
theorem Inv.news [Sy] (hD : RunD E r ops.toList Ts Hs val W N) (hm : ∀ i, i < ops.toList.length → (Hs i).next ≤ (Hs (i + 1)).next) (h : Inv E r ops.toList Ts Hs val W ρ0 w0 S q ρ w tmps) {j : Nat} {o : Oper} (ho : ops.toList[j]? = some o) (hj : ¬ S j) (hdst : ∀ d, o.dst = some d → d < (Ts 0).n)
    (hdist : ∀ (i : Nat) (oi : Oper) (d : Tmp), ops.toList[i]? = some oi → i ≠ j → o.dst = some d → oi.dst ≠ some d)
    (hc : cls E o.op = 2) (hw : W j = true) {ob : AObj} {ans : Ans} (hH : Hs (j + 1) = (Hs j).new ob) (hval : val j = ans.val (Hs j).next) {v' : Value} {x : Obj} {p : Pl} (hp : p.c = w.heap.size) (hor : OR ρ p ob x)
    (hv : ∀ ρ', ρ' (Hs j).next = some p → VR ρ' (ans.val (Hs j).next) v') (n : Nat) :
    Inv E r ops.toList Ts Hs val W ρ0 w0 (With S j) q (ρ.add (Hs j).next p) { w with heap := w.heap.push x, drawn := n } (match o.dst with | some d => tmps.setIfInBounds d v' | none => tmps) := by
  have hjl : j < ops.toList.length := (List.getElem?_eq_some_iff.1 ho).1
  have mono := run_next hD hm
  have hnext : (Hs (j + 1)).next = (Hs j).next + 1 := by rw [hH]; rfl
  have hfree : ρ (Hs j).next = none := h.free j hjl hj _ (Nat.le_refl _) (by omega)
  have hx : Ext ρ (ρ.add (Hs j).next p) := Ren.ext_add hfree
  have hadd : ∀ b' p', (ρ.add (Hs j).next p) b' = some p' → (b' = (Hs j).next ∧ p' = p) ∨ (b' ≠ (Hs j).next ∧ ρ b' = some p') := by
    intro b' p' e
    unfold Ren.add at e
    by_cases hb : b' = (Hs j).next
    · rw [if_pos hb] at e; cases e; exact .inl ⟨hb, rfl⟩
    · rw [if_neg hb] at e; exact .inr ⟨hb, e⟩
  have hne : ∀ i, i ≠ j → ∀ o' ob', ops.toList[i]? = some o' → Hs (i + 1) = (Hs i).new ob' → (Hs i).next ≠ (Hs j).next := by
    intro i hij o' ob' ho' hi'
    have hil : i < ops.toList.length := (List.getElem?_eq_some_iff.1 ho').1
    have h1 : (Hs (i + 1)).next = (Hs i).next + 1 := by rw [hi']; rfl
    rcases Nat.lt_or_ge i j with h2 | h2
    · have := mono j (by omega) (i + 1) (by omega); omega
    · have := mono i (by omega) (j + 1) (by omega); omega
  have hold : ∀ c, c < w.heap.size → ({ w with heap := w.heap.push x, drawn := n } : World).heap[c]? = w.heap[c]? := by
    intro c hc'; simp only; rw [Array.getElem?_push, if_neg (by omega)]
  have hlive : ∀ b' p' o', ρ b' = some p' → (Hs q).get b' = some o' → p'.c < w.heap.size := by
    intro b' p' o' h1 h2
    obtain ⟨ob', g1, _⟩ := h.rel.obj b' p' o' h1 h2
    exact (Array.getElem?_eq_some_iff.1 g1).1
  refine h.answer ho hj hdst hdist hx (by rw [hval]; exact hv _ (Ren.add_self _ _ _)) h.qle ?_ ?_ ?_ ?_ ?_ ?_ ?_ h.kept h.os h.tape h.output ?_ ?_ ?_
  · intro i o' ho' hc'
    rw [← h.eff i o' ho' hc']
    constructor
    · rintro (hs | hs)
      · exact hs
      · subst hs; rw [ho] at ho'; cases ho'; rw [hc] at hc'; cases hc'
    · exact .inl
  · refine ⟨?_, ?_, h.rel.fresh⟩
    · intro b' p' o' h1 h2
      rcases hadd b' p' h1 with ⟨rfl, rfl⟩ | ⟨hb, h1⟩
      · -- it is there already: it stands ahead in the text
        have hjq : j < q := by
          rcases Nat.lt_or_ge j q with h3 | h3
          · exact h3
          · have := h.rel.fresh (Hs j).next (mono j (by omega) q h3)
            rw [this] at h2; cases h2
        have := h.late j o ob hjq hj ho hc hw hH
        rw [this] at h2; cases h2
        exact ⟨x, by simp [hp], hor.mono hx⟩
      · obtain ⟨ob', g1, g2⟩ := h.rel.obj b' p' o' h1 h2
        exact ⟨ob', by rw [hold _ (hlive b' p' o' h1 h2)]; exact g1, g2.mono hx⟩
    · intro b1 b2 p1 p2 o1 o2 h1 h2 g1 g2 hww hcc
      rcases hadd b1 p1 h1 with ⟨e1, e2⟩ | ⟨hb1, h1'⟩
      · rcases hadd b2 p2 h2 with ⟨e3, e4⟩ | ⟨hb2, h2'⟩
        · rw [e1, e3]
        · have := hlive b2 p2 o2 h2' g2; rw [e2] at hcc; omega
      · rcases hadd b2 p2 h2 with ⟨e3, e4⟩ | ⟨hb2, h2'⟩
        · have := hlive b1 p1 o1 h1' g1; rw [e4] at hcc; omega
        · exact h.rel.inj b1 b2 p1 p2 o1 o2 h1' h2' g1 g2 hww hcc
  · intro i o' ob' hi hs ho' hc' hw' hH'
    exact h.late i o' ob' hi (fun e => hs (.inl e)) ho' hc' hw' hH'
  · intro i o' ob' hi hs ho' hc' hw' hH'
    by_cases hij : i = j
    · subst hij
      rw [ho] at ho'; cases ho'
      have hob : ob' = ob := by
        have h2 : (Hs i).new ob' = (Hs i).new ob := hH'.symm.trans hH
        have h3 := congrArg (fun H => H.get (Hs i).next) h2
        simpa [AH.get_new] using h3
      subst hob
      refine ⟨p, x, Ren.add_self _ _ _, by simp [hp], hor.mono hx, ?_, by rw [hp]; exact h.wsize⟩
      intro b' p' o2 h1 h2
      rcases hadd b' p' h1 with ⟨rfl, rfl⟩ | ⟨hb, h1⟩
      · have := h.rel.fresh (Hs i).next (mono i (by omega) q hi)
        rw [this] at h2; cases h2
      · have := hlive b' p' o2 h1 h2; omega
    · have hs' : S i := by rcases hs with hs | hs; exact hs; exact (hij hs).elim
      obtain ⟨p', x', g1, g2, g3, g4, g5⟩ := h.early i o' ob' hi hs' ho' hc' hw' hH'
      have hlt := (Array.getElem?_eq_some_iff.1 g2).1
      refine ⟨p', x', hx _ _ g1, by rw [hold _ hlt]; exact g2, g3.mono hx, ?_, g5⟩
      intro b' p2 o2 h1 h2
      rcases hadd b' p2 h1 with ⟨rfl, rfl⟩ | ⟨hb, h1⟩
      · omega
      · exact g4 b' p2 o2 h1 h2
  · intro i j' oi oj p1 p2 hi hj' hs hs' ho1 ho2 hc1 hc2 hw1 hw2 hij h1 h2
    have early' : ∀ (i : Nat) (oi : Oper) (p1 : Pl), q ≤ i → S i → ops.toList[i]? = some oi → cls E oi.op = 2 → W i = true → ρ (Hs i).next = some p1 → p1.c < w.heap.size := by
      intro i oi p1 hi hs ho1 hc1 hw1 h1
      obtain ⟨ob', ans', hn', hv', hH'⟩ := cls2_new hc1 (hD.run i oi ho1 hw1)
      obtain ⟨p', x', g1, g2, _⟩ := h.early i oi ob' hi hs ho1 hc1 hw1 hH'
      rw [h1] at g1; cases g1
      exact (Array.getElem?_eq_some_iff.1 g2).1
    by_cases e1 : i = j
    · subst e1
      have hs2 : S j' := by rcases hs' with hs' | hs'; exact hs'; exact (hij hs'.symm).elim
      rcases hadd _ _ h1 with ⟨_, ep⟩ | ⟨hb, _⟩
      · obtain ⟨ob', ans', hn', hv', hH'⟩ := cls2_new hc2 (hD.run j' oj ho2 hw2)
        rcases hadd _ _ h2 with ⟨hb2, _⟩ | ⟨_, h2'⟩
        · exact (hne j' (fun e => hij e.symm) oj ob' ho2 hH' hb2).elim
        · have := early' j' oj p2 hj' hs2 ho2 hc2 hw2 h2'; rw [ep]; omega
      · exact (hb rfl).elim
    · have hs1 : S i := by rcases hs with hs | hs; exact hs; exact (e1 hs).elim
      obtain ⟨ob', ans', hn', hv', hH'⟩ := cls2_new hc1 (hD.run i oi ho1 hw1)
      rcases hadd _ _ h1 with ⟨hb1, _⟩ | ⟨_, h1'⟩
      · exact (hne i e1 oi ob' ho1 hH' hb1).elim
      · by_cases e2 : j' = j
        · subst e2
          rcases hadd _ _ h2 with ⟨_, ep⟩ | ⟨hb, _⟩
          · have := early' i oi p1 hi hs1 ho1 hc1 hw1 h1'; rw [ep]; omega
          · exact (hb rfl).elim
        · have hs2 : S j' := by rcases hs' with hs' | hs'; exact hs'; exact (e2 hs').elim
          obtain ⟨ob2, ans2, hn2, hv2, hH2⟩ := cls2_new hc2 (hD.run j' oj ho2 hw2)
          rcases hadd _ _ h2 with ⟨hb2, _⟩ | ⟨_, h2'⟩
          · exact (hne j' e2 oj ob2 ho2 hH2 hb2).elim
          · exact h.apart i j' oi oj p1 p2 hi hj' hs1 hs2 ho1 ho2 hc1 hc2 hw1 hw2 hij h1' h2'
  · intro i hi hs y hy1 hy2
    have hij : i ≠ j := fun e => hs (.inr e)
    have hy := h.free i hi (fun e => hs (.inl e)) y hy1 hy2
    unfold Ren.add
    rw [if_neg]
    · exact hy
    · intro e
      subst e
      rcases Nat.lt_or_ge i j with h2 | h2
      · have := mono j (by omega) (i + 1) (by omega); omega
      · have := mono i (by omega) (j + 1) (by omega); omega
  · intro b' p' h1 h2
    rcases hadd b' p' h2 with ⟨rfl, rfl⟩ | ⟨_, h2⟩
    · refine ⟨mono j (by omega) 0 (by omega), ?_⟩
      have := mono ops.toList.length (Nat.le_refl _) (j + 1) hjl
      omega
    · exact h.dom b' p' h1 h2
  · simp only [Array.size_push]; have := h.wsize; omega
  · intro c hc' hi
    rw [hold c (by have := h.wsize; omega)]
    exact h.frame c hc' hi
  · intro b' p' o' h1 h2 hc'
    rcases hadd b' p' h1 with ⟨rfl, rfl⟩ | ⟨_, h1⟩
    · have := h.wsize; omega
    · exact h.img b' p' o' h1 h2 hc'
theorem Inv.effect [Sy] (hD : RunD E r ops.toList Ts Hs val W N) (hm : ∀ i, i < ops.toList.length → (Hs i).next ≤ (Hs (i + 1)).next) (h : Inv E r ops.toList Ts Hs val W ρ0 w0 S q ρ w tmps) {o : Oper} (ho : ops.toList[q]? = some o) (hdst : ∀ d, o.dst = some d → d < (Ts 0).n)
    (hdist : ∀ (i : Nat) (oi : Oper) (d : Tmp), ops.toList[i]? = some oi → i ≠ q → o.dst = some d → oi.dst ≠ some d)
    (hc : cls E o.op = 3) {ρ' : Ren} {w' : World} {v' : Value} (hpost : Post ρ (Hs q) w ρ' (Hs (q + 1)) w') (hv : VR ρ' (val q) v') :
    Inv E r ops.toList Ts Hs val W ρ0 w0 (With S q) (q + 1) ρ' w' (match o.dst with | some d => tmps.setIfInBounds d v' | none => tmps) := by
  have hql : q < ops.toList.length := (List.getElem?_eq_some_iff.1 ho).1
  have mono := run_next hD hm
  have hj : ¬ S q := fun e => by have := (h.eff q o ho hc).1 e; omega
  have hnone : ∀ i, i < ops.toList.length → ¬ With S q i → Free ρ' (Hs i).next (Hs (i + 1)).next := by
    intro i hi hs y hy1 hy2
    have hiq : i ≠ q := fun e => hs (.inr e)
    have hy := h.free i hi (fun e => hs (.inl e)) y hy1 hy2
    cases hy' : ρ' y with
    | none => rfl
    | some p =>
      have hd := hpost.dom y p hy hy'
      rcases Nat.lt_or_ge i q with h2 | h2
      · have := mono q (by omega) (i + 1) (by omega); omega
      · have := mono i (by omega) (q + 1) (by omega); omega
  have hnq : ∀ {i : Nat}, With S q i → i ≠ q → S i := by
    rintro i (hs | hs) hne
    · exact hs
    · exact (hne hs).elim
  refine h.answer ho hj hdst hdist hpost.ext hv hql ?_ hpost.rel ?_ ?_ ?_ hnone ?_ ?_ (hpost.os.trans h.os) (hpost.tape.trans h.tape) (hpost.output.trans h.output) (Nat.le_trans h.wsize hpost.size) ?_ ?_
  · intro i o' ho' hc'
    have := h.eff i o' ho' hc'
    constructor
    · rintro (hs | hs)
      · have := this.1 hs; omega
      · omega
    · intro hi
      by_cases e : i = q
      · exact .inr e
      · exact .inl (this.2 (by omega))
  · intro i o' ob hi hs ho' hc' hw' hH
    have hiq : i ≠ q := fun e => hs (.inr e)
    have hlt : i < q := by omega
    have hns : ¬ S i := fun e => hs (.inl e)
    have h1 : (Hs (i + 1)).next = (Hs i).next + 1 := by rw [hH]; rfl
    have hlq := mono q (by omega) (i + 1) (by omega)
    have hun : ρ (Hs i).next = none := h.free i (by omega) hns _ (Nat.le_refl _) (by omega)
    rw [hpost.kept _ (by omega) hun]
    exact h.late i o' ob hlt hns ho' hc' hw' hH
  · intro i o' ob hi hs ho' hc' hw' hH
    have hs' := hnq hs (by omega)
    obtain ⟨p, x, g1, g2, g3, g4, g5⟩ := h.early i o' ob (by omega) hs' ho' hc' hw' hH
    have hlt := (Array.getElem?_eq_some_iff.1 g2).1
    exact ⟨p, x, hpost.ext _ _ g1, by rw [hpost.frame p.c hlt g4.idle]; exact g2, g3.mono hpost.ext, hpost.vac hlt g4, g5⟩
  · intro i j' oi oj p p' hi hj' hs hs' ho1 ho2 hc1 hc2 hw1 hw2 hij h1 h2
    have s1 := hnq hs (by omega)
    have s2 := hnq hs' (by omega)
    obtain ⟨ob1, ans1, _, _, hH1⟩ := cls2_new hc1 (hD.run i oi ho1 hw1)
    obtain ⟨ob2, ans2, _, _, hH2⟩ := cls2_new hc2 (hD.run j' oj ho2 hw2)
    obtain ⟨q1, x1, g1, _⟩ := h.early i oi ob1 (by omega) s1 ho1 hc1 hw1 hH1
    obtain ⟨q2, x2, g2, _⟩ := h.early j' oj ob2 (by omega) s2 ho2 hc2 hw2 hH2
    have e1 := hpost.ext _ _ g1
    have e2 := hpost.ext _ _ g2
    rw [h1] at e1; cases e1
    rw [h2] at e2; cases e2
    exact h.apart i j' oi oj p p' (by omega) (by omega) s1 s2 ho1 ho2 hc1 hc2 hw1 hw2 hij g1 g2
  · intro b' p h1 h2
    cases h3 : ρ b' with
    | some p3 => exact h.dom b' p3 h1 h3
    | none =>
      have hd := hpost.dom b' p h3 h2
      have := mono q (by omega) 0 (by omega)
      have := mono ops.toList.length (Nat.le_refl _) (q + 1) hql
      omega
  · intro b' hb hn'
    have hun : ρ b' = none := by
      cases h3 : ρ b' with
      | none => rfl
      | some p3 => have := h.dom b' p3 hn' h3; omega
    rw [hpost.kept b' (by have := mono q (by omega) 0 (by omega); omega) hun]
    exact h.kept b' hb hn'
  · intro c hc' hi
    have hidle : Idle ρ (Hs q) c := by
      intro b' p o' h1 h2 hww e
      obtain ⟨b0, p0, o0, g1, g2, g2w, g3⟩ := h.img b' p o' h1 h2 (by omega)
      exact hi b0 p0 o0 g1 g2 (g2w hww) (by omega)
    rw [hpost.frame c (by have := h.wsize; omega) hidle]
    exact h.frame c hc' hi
  · intro b' p o' h1 h2 hc'
    obtain ⟨b1, p1, o1, g1, g2, gw, g3⟩ := hpost.img b' p o' h1 h2 (by have := h.wsize; omega)
    obtain ⟨b0, p0, o0, k1, k2, kw, k3⟩ := h.img b1 p1 o1 g1 g2 (by omega)
    exact ⟨b0, p0, o0, k1, k2, fun e => kw (gw e), by omega⟩
end
end Go.Ev
