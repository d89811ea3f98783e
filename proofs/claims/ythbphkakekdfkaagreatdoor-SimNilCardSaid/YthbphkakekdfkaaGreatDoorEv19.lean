/- A region whose order is open: whatever order is drawn, it comes to what it comes to in the order of the text. -/
import Derived.Test.YthbphkakekdfkaaGreatDoorEv18
namespace Go.Ev
open Go Go.RowKit
section
variable {E : Env} {P : Program} {r : Rec}
/-! ### The run in the order of the text -/
def stAt (E : Env) (r : Rec) (ops : List Oper) (T : Tmps) (H : AH) : Nat → Tmps × AH
  | 0 => (T, H)
  | i + 1 => match ops[i]? with
    | some o => (runOp E r ops o (stAt E r ops T H i).1 (stAt E r ops T H i).2).getD (stAt E r ops T H i)
    | none => stAt E r ops T H i
structure RunD (E : Env) (r : Rec) (ops : List Oper) (Ts : Nat → Tmps) (Hs : Nat → AH) (val : Nat → Value) (W : Nat → Bool) (N : Notes) : Prop where
  wanted : ∀ i o, ops[i]? = some o → wantedv ops (Ts i) o = some (W i)
  put : ∀ i o, ops[i]? = some o → Ts (i + 1) = (Ts i).put o.dst (val i)
  skip : ∀ i o, ops[i]? = some o → W i = false → val i = undefV ∧ Hs (i + 1) = Hs i
  run : ∀ i o, ops[i]? = some o → W i = true → doOp E r o.op (Ts i) (Hs i) = some (val i, Hs (i + 1))
  histE : ∀ i o, ops[i]? = some o → cls E o.op = 3 → (i, Hs i) ∈ N.hist
  histN : (ops.length, Hs ops.length) ∈ N.hist
  histIn : ∀ q ∈ N.hist, q.1 = ops.length ∨ ∃ o, ops[q.1]? = some o ∧ cls E o.op = 3
  reads : ∀ i o, ops[i]? = some o → cls E o.op = 1 → W i = true → (i, o, Ts i) ∈ N.reads
theorem note_hist {ops : List Oper} {j : Nat} {o : Oper} {T : Tmps} {H : AH} {N : Notes} : (∀ q ∈ N.hist, q ∈ (note E ops j o T H N).hist) ∧ (∀ q ∈ N.reads, q ∈ (note E ops j o T H N).reads) ∧
    (cls E o.op = 3 → (j, H) ∈ (note E ops j o T H N).hist) ∧ (cls E o.op = 1 → wantedv ops T o = some true → (j, o, T) ∈ (note E ops j o T H N).reads) ∧
    (∀ q ∈ (note E ops j o T H N).hist, q ∈ N.hist ∨ (q.1 = j ∧ cls E o.op = 3)) := by
  unfold note
  split
  · rename_i h; rw [h]; exact ⟨fun q hq => by simp [hq], fun q hq => hq, fun _ => by simp, fun h => by simp at h, fun q hq => by simp at hq; rcases hq with rfl | hq; exact .inr ⟨rfl, rfl⟩; exact .inl hq⟩
  · rename_i h; rw [h]
    split
    · exact ⟨fun q hq => hq, fun q hq => by simp [hq], fun h => by simp at h, fun _ _ => by simp, fun q hq => .inl hq⟩
    · rename_i hw; exact ⟨fun q hq => hq, fun q hq => hq, fun h => by simp at h, fun _ h2 => (hw h2).elim, fun q hq => .inl hq⟩
  · rename_i h3 h1; exact ⟨fun q hq => hq, fun q hq => hq, fun h => (h3 h).elim, fun h => (h1 h).elim, fun q hq => .inl hq⟩
theorem runDraw_spec [Sy] {ops : List Oper} {T0 : Tmps} {H0 : AH} : ∀ (os : List Oper) (j : Nat) {N N' : Notes} {T' : Tmps} {H' : AH}, ops.drop j = os →
    runDraw E r ops os j (stAt E r ops T0 H0 j).1 (stAt E r ops T0 H0 j).2 N = some (T', H', N') → j ≤ ops.length →
    (∀ q ∈ N.hist, q ∈ N'.hist) ∧ (∀ q ∈ N.reads, q ∈ N'.reads) ∧
    (T', H') = stAt E r ops T0 H0 ops.length ∧
    (∀ i o, j ≤ i → ops[i]? = some o → runOp E r ops o (stAt E r ops T0 H0 i).1 (stAt E r ops T0 H0 i).2 = some (stAt E r ops T0 H0 (i + 1))) ∧
    (∀ i o, j ≤ i → ops[i]? = some o → cls E o.op = 3 → (i, (stAt E r ops T0 H0 i).2) ∈ N'.hist) ∧ (ops.length, (stAt E r ops T0 H0 ops.length).2) ∈ N'.hist ∧
    (∀ q ∈ N'.hist, q ∈ N.hist ∨ q.1 = ops.length ∨ ∃ o, ops[q.1]? = some o ∧ cls E o.op = 3) ∧
    (∀ i o, j ≤ i → ops[i]? = some o → cls E o.op = 1 → wantedv ops (stAt E r ops T0 H0 i).1 o = some true → (i, o, (stAt E r ops T0 H0 i).1) ∈ N'.reads)
  | [], j, N, N', T', H', hd, e, hj => by
    simp only [runDraw, Option.some.injEq, Prod.mk.injEq] at e
    obtain ⟨rfl, rfl, rfl⟩ := e
    have hl : j = ops.length := by
      have := congrArg List.length hd; simp at this; omega
    subst hl
    refine ⟨fun q hq => by simp [hq], fun q hq => hq, rfl, ?_, ?_, by simp, fun q hq => ?_, ?_⟩
    · intro i o hi ho; have := (List.getElem?_eq_some_iff.1 ho).1; omega
    · intro i o hi ho; have := (List.getElem?_eq_some_iff.1 ho).1; omega
    · simp at hq; rcases hq with rfl | hq; exact .inr (.inl rfl); exact .inl hq
    · intro i o hi ho; have := (List.getElem?_eq_some_iff.1 ho).1; omega
  | o :: os, j, N, N', T', H', hd, e, hj => by
    have ho : ops[j]? = some o := by
      have := congrArg (·[0]?) hd
      simpa using this
    have hjl := (List.getElem?_eq_some_iff.1 ho).1
    simp only [runDraw] at e
    split at e
    · rename_i T1 H1 h1
      have hst : stAt E r ops T0 H0 (j + 1) = (T1, H1) := by
        simp only [stAt, ho]; rw [h1]; rfl
      have e' : runDraw E r ops os (j + 1) (stAt E r ops T0 H0 (j + 1)).1 (stAt E r ops T0 H0 (j + 1)).2 (note E ops j o (stAt E r ops T0 H0 j).1 (stAt E r ops T0 H0 j).2 N) = some (T', H', N') := by rw [hst]; exact e
      obtain ⟨g1, g2, g3, g4, g5, g6, g7, g8⟩ := runDraw_spec os (j + 1) (by rw [← List.drop_drop, hd]; rfl) e' hjl
      obtain ⟨n1, n2, n3, n4, n5⟩ := note_hist (E := E) (ops := ops) (j := j) (o := o) (T := (stAt E r ops T0 H0 j).1) (H := (stAt E r ops T0 H0 j).2) (N := N)
      refine ⟨fun q hq => g1 q (n1 q hq), fun q hq => g2 q (n2 q hq), g3, ?_, ?_, g6, ?_, ?_⟩
      · intro i o' hi ho'
        by_cases hij : i = j
        · subst hij; rw [ho] at ho'; cases ho'; rw [hst]; exact h1
        · exact g4 i o' (by omega) ho'
      · intro i o' hi ho' hc
        by_cases hij : i = j
        · subst hij; rw [ho] at ho'; cases ho'; exact g1 _ (n3 hc)
        · exact g5 i o' (by omega) ho' hc
      · intro q hq
        rcases g7 q hq with h | h
        · rcases n5 q h with h | ⟨h, hc⟩
          · exact .inl h
          · exact .inr (.inr ⟨o, by rw [h]; exact ho, hc⟩)
        · exact .inr h
      · intro i o' hi ho' hc hw
        by_cases hij : i = j
        · subst hij; rw [ho] at ho'; cases ho'; exact g2 _ (n4 hc hw)
        · exact g8 i o' (by omega) ho' hc hw
    · cases e
theorem runDraw_run [Sy] {ops : List Oper} {T0 T' : Tmps} {H0 H' : AH} {N : Notes} (e : runDraw E r ops ops 0 T0 H0 ⟨[], []⟩ = some (T', H', N)) :
    ∃ Ts Hs val W, RunD E r ops Ts Hs val W N ∧ Ts 0 = T0 ∧ Hs 0 = H0 ∧ Ts ops.length = T' ∧ Hs ops.length = H' := by
  obtain ⟨_, _, g3, g4, g5, g6, g7, g8⟩ := runDraw_spec (E := E) (r := r) (T0 := T0) (H0 := H0) ops 0 (by simp) e (Nat.zero_le _)
  let st := stAt E r ops T0 H0
  have key : ∀ i o, ops[i]? = some o → ∃ q v, wantedv ops (st i).1 o = some q ∧ (st (i + 1)).1 = (st i).1.put o.dst v ∧ (q = false → v = undefV ∧ (st (i + 1)).2 = (st i).2) ∧ (q = true → doOp E r o.op (st i).1 (st i).2 = some (v, (st (i + 1)).2)) := by
    intro i o ho
    have h := g4 i o (Nat.zero_le _) ho
    unfold runOp at h
    split at h
    · rename_i hw
      split at h
      · rename_i v H2 hdo
        simp only [Option.some.injEq] at h
        refine ⟨true, v, hw, ?_, by simp, fun _ => ?_⟩
        · show (stAt E r ops T0 H0 (i + 1)).1 = _; rw [← h]
        · show _ = some (v, (stAt E r ops T0 H0 (i + 1)).2); rw [← h]; exact hdo
      · cases h
    · rename_i hw
      simp only [Option.some.injEq] at h
      refine ⟨false, undefV, hw, ?_, fun _ => ⟨rfl, ?_⟩, by simp⟩
      · show (stAt E r ops T0 H0 (i + 1)).1 = _; rw [← h]
      · show (stAt E r ops T0 H0 (i + 1)).2 = _; rw [← h]
    · cases h
  have key2 : ∀ i, ∃ qv : Bool × Value, ∀ o, ops[i]? = some o → wantedv ops (st i).1 o = some qv.1 ∧ (st (i + 1)).1 = (st i).1.put o.dst qv.2 ∧ (qv.1 = false → qv.2 = undefV ∧ (st (i + 1)).2 = (st i).2) ∧ (qv.1 = true → doOp E r o.op (st i).1 (st i).2 = some (qv.2, (st (i + 1)).2)) := by
    intro i
    cases ho : ops[i]? with
    | none => exact ⟨(false, undefV), by simp⟩
    | some o =>
      obtain ⟨q, v, h⟩ := key i o ho
      exact ⟨(q, v), fun o' ho' => by cases ho'; exact h⟩
  refine ⟨fun i => (st i).1, fun i => (st i).2, fun i => (Classical.choose (key2 i)).2, fun i => (Classical.choose (key2 i)).1, ?_, rfl, rfl, ?_, ?_⟩
  · refine ⟨fun i o ho => (Classical.choose_spec (key2 i) o ho).1, fun i o ho => (Classical.choose_spec (key2 i) o ho).2.1, fun i o ho => (Classical.choose_spec (key2 i) o ho).2.2.1,
      fun i o ho => (Classical.choose_spec (key2 i) o ho).2.2.2, fun i o ho hc => g5 i o (Nat.zero_le _) ho hc, g6, fun q hq => ?_, fun i o ho hc hw => ?_⟩
    · rcases g7 q hq with h | h
      · simp at h
      · exact h
    · refine g8 i o (Nat.zero_le _) ho hc ?_
      have := (Classical.choose_spec (key2 i) o ho).1
      rw [this, hw]
  · exact (congrArg Prod.fst g3).symm
  · exact (congrArg Prod.snd g3).symm
theorem cls2_new {o : Oper} {T : Tmps} {H H' : AH} {v : Value} (hc : cls E o.op = 2) (e : doOp E r o.op T H = some (v, H')) : ∃ ob ans, newOp E T o.op = some (ob, ans) ∧ v = ans.val H.next ∧ H' = H.new ob := by
  unfold doOp at e
  rw [hc] at e
  simp only at e
  split at e
  · rename_i ob ans hn
    simp only [Option.some.injEq, Prod.mk.injEq] at e
    exact ⟨ob, ans, hn, e.1.symm, e.2.symm⟩
  · cases e
theorem cls01_same {o : Oper} {T : Tmps} {H H' : AH} {v : Value} (hc : cls E o.op = 0 ∨ cls E o.op = 1) (e : doOp E r o.op T H = some (v, H')) : H' = H := by
  unfold doOp at e
  rcases hc with hc | hc
  · rw [hc] at e
    simp only at e
    split at e
    · simp only [Option.some.injEq, Prod.mk.injEq] at e; exact e.2.symm
    · cases e
  · rw [hc] at e
    simp only at e
    split at e
    · simp only [Option.some.injEq, Prod.mk.injEq] at e; exact e.2.symm
    · split at e
      · simp only [Option.some.injEq, Prod.mk.injEq] at e; exact e.2.symm
      · cases e
theorem cls_le (op : Op) : cls E op = 0 ∨ cls E op = 1 ∨ cls E op = 2 ∨ cls E op = 3 := by
  cases op <;> simp only [cls] <;> first
    | (simp; done)
    | (repeat' split) <;> simp
theorem text_get {ops : List Oper} {Ts : Nat → Tmps} {Hs : Nat → AH} {val : Nat → Value} {W : Nat → Bool} {N : Notes} (hD : RunD E r ops Ts Hs val W N) (hn : ∀ i, i ≤ ops.length → (Ts i).n = (Ts 0).n) (hdst : ∀ (i : Nat) (o : Oper) (d : Tmp), ops[i]? = some o → o.dst = some d → d < (Ts 0).n)
    {bs : List Nat} (hS : SsaR ops bs) (t : Tmp) : ∀ j, j ≤ ops.length → (∀ k o, k < j → ops[k]? = some o → o.dst = some t → (Ts j).get t = some (val k)) ∧ ((∀ k o, k < j → ops[k]? = some o → o.dst ≠ some t) → (Ts j).get t = (Ts 0).get t) := by
  intro j
  induction j with
  | zero => intro _; exact ⟨fun k o hk => by omega, fun _ => rfl⟩
  | succ j ih =>
    intro hj
    obtain ⟨ih1, ih2⟩ := ih (by omega)
    have hoj : ops[j]? = some ops[j] := List.getElem?_eq_getElem (by omega)
    have hput := hD.put j _ hoj
    have hget : ∀ d, (ops[j]).dst = some d → (Ts (j + 1)).get t = if t = d then some (val j) else (Ts j).get t := by
      intro d hd
      rw [hput, hd]
      have hlt : Nat.blt d (Ts j).n = true := by rw [hn j (by omega)]; simpa [Nat.blt_eq] using hdst j _ d hoj hd
      simp only [Tmps.put, hlt, cond_true, Tmps.get, Tr.get_set]
    have hget0 : (ops[j]).dst ≠ some t → (Ts (j + 1)).get t = (Ts j).get t := by
      intro hne
      cases hd : (ops[j]).dst with
      | none => rw [hput, hd]; rfl
      | some d => rw [hget d hd, if_neg]; intro e; subst e; exact hne hd
    constructor
    · intro k o hk ho hd
      by_cases hkj : k = j
      · subst hkj
        rw [hoj] at ho; cases ho
        rw [hget t hd, if_pos rfl]
      · have hne : (ops[j]).dst ≠ some t := hS.dst j k _ o t hoj ho (fun e => hkj e.symm) hd
        rw [hget0 hne]
        exact ih1 k o (by omega) ho hd
    · intro hall
      rw [hget0 (hall j _ (by omega) hoj)]
      exact ih2 fun k o hk ho => hall k o (by omega) ho
theorem put_n (T : Tmps) (d : Option Tmp) (v : Value) : (T.put d v).n = T.n ∧ (T.put d v).g = T.g := by
  cases d with
  | none => exact ⟨rfl, rfl⟩
  | some d => simp only [Tmps.put]; cases Nat.blt d T.n <;> exact ⟨rfl, rfl⟩
theorem text_n [Sy] {ops : List Oper} {Ts : Nat → Tmps} {Hs : Nat → AH} {val : Nat → Value} {W : Nat → Bool} {N : Notes} (hD : RunD E r ops Ts Hs val W N) : ∀ i, i ≤ ops.length → (Ts i).n = (Ts 0).n ∧ (Ts i).g = (Ts 0).g := by
  intro i
  induction i with
  | zero => intro _; exact ⟨rfl, rfl⟩
  | succ i ih =>
    intro hi
    have hoi : ops[i]? = some ops[i] := List.getElem?_eq_getElem (by omega)
    rw [hD.put i _ hoi]
    obtain ⟨h1, h2⟩ := put_n (Ts i) (ops[i]).dst (val i)
    obtain ⟨g1, g2⟩ := ih (by omega)
    exact ⟨h1.trans g1, h2.trans g2⟩
theorem veqL_eq {f : Value → Value → Bool} (hf : ∀ x y, f x y = true → x = y) : ∀ {l m : List Value}, veqL f l m = true → l = m
  | [], [], _ => rfl
  | [], _ :: _, h => by simp [veqL] at h
  | _ :: _, [], h => by simp [veqL] at h
  | x :: l, y :: m, h => by
    simp only [veqL, Bool.and_eq_true] at h
    rw [hf x y h.1, veqL_eq hf h.2]
theorem veq_eq [Sy] : ∀ (d : Nat) {x y : Value}, veq d x y = true → x = y := by
  intro d
  induction d with
  | zero => intro x y h; simp [veq] at h
  | succ d ih =>
    intro x y h
    have hl : ∀ {l m : List Value}, veqL (veq d) l m = true → l = m := fun h => veqL_eq (fun x y h => ih h) h
    have ha : ∀ {l m : Array Value}, veqL (veq d) l.toList m.toList = true → l = m := fun h => Array.ext' (hl h)
    unfold veq at h
    split at h
    · simp at h; rw [h]
    · simp at h; rw [h.1, h.2]
    · rename_i a b
      have : a.data.toList = b.data.toList := by simpa using h
      have : a = b := by apply ByteArray.ext; exact Array.ext' this
      rw [this]
    · rfl
    · simp only [Bool.and_eq_true, decide_eq_true_eq] at h
      have := Nat.eq_of_beq_eq_true h.2
      simp_all
    · rfl
    · have := Nat.eq_of_beq_eq_true h
      rw [this]
    · rename_i a b
      simp only [Bool.and_eq_true, decide_eq_true_eq] at h
      obtain ⟨⟨h1, h2⟩, h3⟩ := h
      obtain ⟨a1, a2, a3⟩ := a
      obtain ⟨b1, b2, b3⟩ := b
      have := Nat.eq_of_beq_eq_true h1
      have := Nat.eq_of_beq_eq_true h2
      simp at h3 this
      simp_all
    · simp only [Bool.and_eq_true] at h
      have := Nat.eq_of_beq_eq_true h.1
      have := Nat.eq_of_beq_eq_true h.2
      simp_all
    · rename_i a l c b m e
      simp only [Bool.and_eq_true, decide_eq_true_eq] at h
      obtain ⟨⟨⟨⟨h1, h2⟩, h3⟩, h5⟩, h6⟩ := h
      obtain ⟨a1, a2, a3⟩ := a
      obtain ⟨b1, b2, b3⟩ := b
      have := Nat.eq_of_beq_eq_true h1
      have := Nat.eq_of_beq_eq_true h2
      have := Nat.eq_of_beq_eq_true h5
      have := Nat.eq_of_beq_eq_true h6
      simp at h3
      simp_all
    · rfl
    · have := Nat.eq_of_beq_eq_true h
      rw [this]
    · rfl
    · rfl
    · simp only [Bool.and_eq_true] at h
      have := Nat.eq_of_beq_eq_true h.1.1
      have := ha h.1.2
      have := ha h.2
      simp_all
    · simp only [Bool.and_eq_true] at h
      have := Nat.eq_of_beq_eq_true h.1
      have := ih h.2
      simp_all
    · rw [ha h]
    · rw [ha h]
    · cases h
end
end Go.Ev
