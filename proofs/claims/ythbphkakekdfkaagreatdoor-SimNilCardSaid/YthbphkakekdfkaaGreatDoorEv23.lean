/- The evaluator gives out block numbers in order. -/
import Derived.Test.YthbphkakekdfkaaGreatDoorEv22
namespace Go.Ev
open Go Go.RowKit
structure ExtNext (E : Env) : Prop where
  ext : ∀ f g, E.ext.get f = some g → ∀ a H v H', g a H = some (v, H') → H.next ≤ H'.next
  sum : ∀ f g, E.sum.get f = some g → ∀ a H v H', g a H = some (v, H') → H.next ≤ H'.next
structure Mono (r : Rec) : Prop where
  code : ∀ c T H x T' H', r.code c T H = some (x, T', H') → H.next ≤ H'.next
  call : ∀ f a H v H', r.call f a H = some (v, H') → H.next ≤ H'.next
  round : ∀ l a H v H', r.round l a H = some (v, H') → H.next ≤ H'.next
section
variable {E : Env} {P : Program} {r : Rec} {H H' : AH}
theorem storeCellsv_next {b off : Nat} {vs : List Value} (e : storeCellsv H b off vs = some H') : H.next ≤ H'.next := by
  unfold storeCellsv at e
  simp only [Bool.cond_eq_ite] at e
  (repeat' split at e) <;> first
    | (cases e; done)
    | (simp only [Option.some.injEq] at e; subst e; exact Nat.le_refl _)
theorem storev_next [Sy] {t : TypeId} {x v : Value} (e : storev E H t x v = some H') : H.next ≤ H'.next := by
  unfold storev at e
  simp only [Bool.cond_eq_ite] at e
  (repeat' split at e) <;> first | (cases e; done) | exact storeCellsv_next e
theorem appendv_next [Sy] {ats : List TypeId} {s x v : Value} (e : appendv E H ats s x = some (v, H')) : H.next ≤ H'.next := by
  unfold appendv at e
  simp only [Bool.cond_eq_ite] at e
  (repeat' split at e) <;> first
    | (cases e; done)
    | (rename_i h; simp only [Option.some.injEq, Prod.mk.injEq] at e; obtain ⟨_, rfl⟩ := e; exact storeCellsv_next h)
    | (simp only [growv, Option.some.injEq, Prod.mk.injEq] at e; obtain ⟨_, rfl⟩ := e; simp [AH.new, AH.kill])
theorem copyv_next [Sy] {ats : List TypeId} {s x v : Value} (e : copyv E H ats s x = some (v, H')) : H.next ≤ H'.next := by
  unfold copyv at e
  simp only [Bool.cond_eq_ite] at e
  (repeat' split at e) <;> first
    | (cases e; done)
    | (rename_i h; simp only [Option.some.injEq, Prod.mk.injEq] at e; obtain ⟨_, rfl⟩ := e; exact storeCellsv_next h)
    | (simp only [Option.some.injEq, Prod.mk.injEq] at e; obtain ⟨_, rfl⟩ := e; exact Nat.le_refl _)
theorem clearv_next [Sy] {ats : List TypeId} {x v : Value} (e : clearv E H ats x = some (v, H')) : H.next ≤ H'.next := by
  unfold clearv at e
  simp only [Bool.cond_eq_ite] at e
  (repeat' split at e) <;> first
    | (cases e; done)
    | (rename_i h; simp only [Option.some.injEq, Prod.mk.injEq] at e; obtain ⟨_, rfl⟩ := e; exact storeCellsv_next h)
    | (simp only [Option.some.injEq, Prod.mk.injEq] at e; obtain ⟨_, rfl⟩ := e; exact Nat.le_refl _)
theorem updatev_next {t : TypeId} {m k x : Value} (e : updatev E H t m k x = some H') : H.next ≤ H'.next := by
  unfold updatev at e
  simp only [Bool.cond_eq_ite] at e
  (repeat' split at e) <;> first
    | (cases e; done)
    | (simp only [Option.some.injEq] at e; subst e; exact Nat.le_refl _)
theorem deletev_next {ats : List TypeId} {m k v : Value} (e : deletev E H ats m k = some (v, H')) : H.next ≤ H'.next := by
  unfold deletev at e
  simp only [Bool.cond_eq_ite] at e
  (repeat' split at e) <;> first
    | (cases e; done)
    | (simp only [Option.some.injEq, Prod.mk.injEq] at e; obtain ⟨_, rfl⟩ := e; exact Nat.le_refl _)
theorem rangev_next {t : TypeId} {x v : Value} (e : rangev E H t x = some (v, H')) : H.next ≤ H'.next := by
  unfold rangev at e
  (repeat' split at e) <;> first
    | (cases e; done)
    | (simp only [Option.some.injEq, Prod.mk.injEq] at e; obtain ⟨_, rfl⟩ := e; simp [AH.new])
theorem nextv_next {x v : Value} {s : Bool} (e : nextv H x s = some (v, H')) : H.next ≤ H'.next := by
  unfold nextv at e
  simp only [Bool.cond_eq_ite] at e
  (repeat' split at e) <;> first
    | (cases e; done)
    | (simp only [Option.some.injEq, Prod.mk.injEq] at e; obtain ⟨_, rfl⟩ := e; exact Nat.le_refl _)
theorem callFn_next (hX : ExtNext E) (hM : Mono r) {fn : Fn} {cs args : List Value} {v : Value} (e : callFn E r fn cs args H = some (v, H')) : H.next ≤ H'.next := by
  unfold callFn at e
  (repeat' split at e) <;> first
    | (cases e; done)
    | exact hM.call _ _ _ _ _ e
    | exact hM.round _ _ _ _ _ e
    | (rename_i g hg; exact hX.ext _ _ hg _ _ _ _ e)
theorem callOp_next [Sy] (hX : ExtNext E) (hM : Mono r) {c : Call} {T : Tmps} {v : Value} (e : callOp E r c T H = some (v, H')) : H.next ≤ H'.next := by
  unfold callOp at e
  (repeat' split at e) <;> first
    | (cases e; done)
    | exact callFn_next hX hM e
    | exact appendv_next e
    | exact copyv_next e
    | exact clearv_next e
    | exact deletev_next e
theorem effOp_next [Sy] (hX : ExtNext E) (hM : Mono r) {op : Op} {T : Tmps} {v : Value} (e : effOp E r T H op = some (v, H')) : H.next ≤ H'.next := by
  cases op <;> simp only [effOp, reduceCtorEq] at e
  case store t a x =>
    (repeat' split at e) <;> first
      | (cases e; done)
      | (rename_i h; simp only [Option.some.injEq, Prod.mk.injEq] at e; obtain ⟨_, rfl⟩ := e; exact storev_next h)
  case mapUpdate t a k x =>
    (repeat' split at e) <;> first
      | (cases e; done)
      | (rename_i h; simp only [Option.some.injEq, Prod.mk.injEq] at e; obtain ⟨_, rfl⟩ := e; exact updatev_next h)
  case insert t a k x =>
    (repeat' split at e) <;> first
      | (cases e; done)
      | (rename_i h; simp only [Option.some.injEq, Prod.mk.injEq] at e; obtain ⟨_, rfl⟩ := e; exact updatev_next h)
  case range t x =>
    split at e
    · exact rangev_next e
    · cases e
  case next it s =>
    split at e
    · exact nextv_next e
    · cases e
  case call c => exact callOp_next hX hM e
theorem doOp_next [Sy] (hX : ExtNext E) (hM : Mono r) {op : Op} {T : Tmps} {v : Value} (e : doOp E r op T H = some (v, H')) : H.next ≤ H'.next := by
  unfold doOp at e
  (repeat' split at e) <;> first
    | (cases e; done)
    | (simp only [Option.some.injEq, Prod.mk.injEq] at e; obtain ⟨_, rfl⟩ := e; first | exact Nat.le_refl _ | exact Nat.le_succ _)
    | exact effOp_next hX hM e
theorem runOp_next [Sy] (hX : ExtNext E) (hM : Mono r) {ops : List Oper} {o : Oper} {T T' : Tmps} (e : runOp E r ops o T H = some (T', H')) : H.next ≤ H'.next := by
  unfold runOp at e
  (repeat' split at e) <;> first
    | (cases e; done)
    | (rename_i h; simp only [Option.some.injEq, Prod.mk.injEq] at e; obtain ⟨_, rfl⟩ := e; exact doOp_next hX hM h)
    | (simp only [Option.some.injEq, Prod.mk.injEq] at e; obtain ⟨_, rfl⟩ := e; exact Nat.le_refl _)
theorem runOps_next [Sy] (hX : ExtNext E) (hM : Mono r) {ops : List Oper} : ∀ {os : List Oper} {H H' : AH} {T T' : Tmps}, runOps E r ops os T H = some (T', H') → H.next ≤ H'.next
  | [], H, H', T, T', e => by simp only [runOps, Option.some.injEq, Prod.mk.injEq] at e; obtain ⟨_, rfl⟩ := e; exact Nat.le_refl _
  | o :: os, H, H', T, T', e => by
    simp only [runOps] at e
    split at e
    · rename_i h; exact Nat.le_trans (runOp_next hX hM h) (runOps_next hX hM e)
    · cases e
theorem runDraw_next [Sy] (hX : ExtNext E) (hM : Mono r) {ops : List Oper} : ∀ {os : List Oper} {j : Nat} {H H' : AH} {T T' : Tmps} {N N' : Notes}, runDraw E r ops os j T H N = some (T', H', N') → H.next ≤ H'.next
  | [], j, H, H', T, T', N, N', e => by simp only [runDraw, Option.some.injEq, Prod.mk.injEq] at e; obtain ⟨_, rfl, _⟩ := e; exact Nat.le_refl _
  | o :: os, j, H, H', T, T', N, N', e => by
    simp only [runDraw] at e
    split at e
    · rename_i h; exact Nat.le_trans (runOp_next hX hM h) (runDraw_next hX hM e)
    · cases e
theorem drawRegion_next [Sy] (hX : ExtNext E) (hM : Mono r) {ops : List Oper} {T T' : Tmps} (e : drawRegion E r ops T H = some (T', H')) : H.next ≤ H'.next := by
  unfold drawRegion at e
  simp only [Bool.cond_eq_ite] at e
  (repeat' split at e) <;> first
    | (cases e; done)
    | (simp only [Option.some.injEq, Prod.mk.injEq] at e; obtain ⟨_, rfl⟩ := e; refine runDraw_next hX hM (by assumption))
theorem endLoopK_next {l : Nat} {T T' : Tmps} {x : Xt} (e : endLoopK l T H = some (x, T', H')) : H.next ≤ H'.next := by
  unfold endLoopK at e
  (repeat' split at e) <;> first
    | (cases e; done)
    | (simp only [Option.some.injEq, Prod.mk.injEq] at e; obtain ⟨_, _, rfl⟩ := e; exact Nat.le_refl _)
theorem rangeFuncK_next [Sy] (hX : ExtNext E) (hM : Mono r) {f : Operand} {ps : List Tmp} {a b : Code} {T T' : Tmps} {x : Xt} (e : rangeFuncK E r f ps a b T H = some (x, T', H')) : H.next ≤ H'.next := by
  unfold rangeFuncK at e
  (repeat' split at e) <;> first
    | (cases e; done)
    | (rename_i h; exact Nat.le_trans (Nat.le_succ _) (Nat.le_trans (callFn_next hX hM h) (endLoopK_next e)))
theorem seqK_next {o : Option (Xt × Tmps × AH)} {k : Tmps → AH → Option (Xt × Tmps × AH)} {T' : Tmps} {x : Xt} (h1 : ∀ x T1 H1, o = some (x, T1, H1) → H.next ≤ H1.next)
    (h2 : ∀ T1 H1 x T2 H2, k T1 H1 = some (x, T2, H2) → H1.next ≤ H2.next) (e : seqK o k = some (x, T', H')) : H.next ≤ H'.next := by
  unfold seqK at e
  split at e
  · exact Nat.le_trans (h1 _ _ _ rfl) (h2 _ _ _ _ _ e)
  · exact h1 _ _ _ e
theorem blockK_next {o : Option (Xt × Tmps × AH)} {id : Nat} {T' : Tmps} {x : Xt} (h1 : ∀ x T1 H1, o = some (x, T1, H1) → H.next ≤ H1.next)
    (e : blockK id o = some (x, T', H')) : H.next ≤ H'.next := by
  unfold blockK at e
  simp only [Bool.cond_eq_ite] at e
  (repeat' split at e) <;> first
    | (simp only [Option.some.injEq, Prod.mk.injEq] at e; obtain ⟨_, _, rfl⟩ := e; exact h1 _ _ _ rfl)
    | exact h1 _ _ _ e
theorem stepCode_next [Sy] (hX : ExtNext E) (hM : Mono r) {c : Code} {T T' : Tmps} {x : Xt} (e : stepCode E r c T H = some (x, T', H')) : H.next ≤ H'.next := by
  unfold stepCode at e
  split at e
  · simp only [Option.some.injEq, Prod.mk.injEq] at e; obtain ⟨_, _, rfl⟩ := e; exact Nat.le_refl _
  · simp only [Option.some.injEq, Prod.mk.injEq] at e; obtain ⟨_, _, rfl⟩ := e; exact Nat.le_refl _
  · split at e
    · rename_i h; simp only [Option.some.injEq, Prod.mk.injEq] at e; obtain ⟨_, _, rfl⟩ := e; exact runOps_next hX hM h
    · cases e
  · split at e
    · rename_i h; simp only [Option.some.injEq, Prod.mk.injEq] at e; obtain ⟨_, _, rfl⟩ := e; exact drawRegion_next hX hM h
    · cases e
  · exact seqK_next (fun _ _ _ h => hM.code _ _ _ _ _ _ h) (fun _ _ _ _ _ h => hM.code _ _ _ _ _ _ h) e
  · split at e
    · exact hM.code _ _ _ _ _ _ e
    · cases e
  · exact blockK_next (fun _ _ _ h => hM.code _ _ _ _ _ _ h) e
  · exact seqK_next (fun _ _ _ h => hM.code _ _ _ _ _ _ h) (fun _ _ _ _ _ h => hM.code _ _ _ _ _ _ h) e
  · exact hM.code _ _ _ _ _ _ e
  · simp only [Option.some.injEq, Prod.mk.injEq] at e; obtain ⟨_, _, rfl⟩ := e; exact Nat.le_refl _
  · simp only [Option.some.injEq, Prod.mk.injEq] at e; obtain ⟨_, _, rfl⟩ := e; exact Nat.le_refl _
  · exact rangeFuncK_next hX hM e
  · cases e
  · cases e
theorem retK_next {rs : List ResultVar} {o : Option (Xt × Tmps × AH)} {v : Value} (h1 : ∀ x T1 H1, o = some (x, T1, H1) → H.next ≤ H1.next) (e : retK E rs o = some (v, H')) : H.next ≤ H'.next := by
  unfold retK at e
  (repeat' split at e) <;> first
    | (cases e; done)
    | (simp only [Option.some.injEq, Prod.mk.injEq] at e; obtain ⟨_, rfl⟩ := e; exact h1 _ _ _ rfl)
theorem stepCall_next [Sy] (hX : ExtNext E) (hM : Mono r) {f : FuncId} {a : List Value} {v : Value} (e : stepCall E r f a H = some (v, H')) : H.next ≤ H'.next := by
  unfold stepCall at e
  simp only [Bool.cond_eq_ite] at e
  (repeat' split at e) <;> first
    | (cases e; done)
    | exact retK_next (fun _ _ _ h => hM.code _ _ _ _ _ _ h) e
    | exact hX.sum _ _ (by assumption) _ _ _ _ e
theorem endRoundK_next {l : Nat} {o : Option (Xt × Tmps × AH)} {v : Value} (h1 : ∀ x T1 H1, o = some (x, T1, H1) → H.next ≤ H1.next) (e : endRoundK l o = some (v, H')) : H.next ≤ H'.next := by
  unfold endRoundK at e
  split at e
  · rename_i x T1 H1
    have := h1 x T1 H1 rfl
    (repeat' split at e) <;> first
      | (cases e; done)
      | (simp only [Option.some.injEq, Prod.mk.injEq] at e; obtain ⟨_, rfl⟩ := e; exact this)
  · cases e
theorem beginRoundK_next [Sy] (hM : Mono r) {l : Nat} {body : Code} {o : Option (Xt × Tmps × AH)} {v : Value} (h1 : ∀ x T1 H1, o = some (x, T1, H1) → H.next ≤ H1.next) (e : beginRoundK r l body o = some (v, H')) : H.next ≤ H'.next := by
  unfold beginRoundK at e
  (repeat' split at e) <;> first
    | (cases e; done)
    | (refine Nat.le_trans (h1 _ _ _ rfl) (endRoundK_next (fun _ _ _ h => ?_) e); have := hM.code _ _ _ _ _ _ h; exact this)
theorem stepRound_next [Sy] (hM : Mono r) {l : Nat} {a : List Value} {v : Value} (e : stepRound r l a H = some (v, H')) : H.next ≤ H'.next := by
  unfold stepRound at e
  simp only [Bool.cond_eq_ite] at e
  (repeat' split at e) <;> first
    | (cases e; done)
    | exact beginRoundK_next hM (fun _ _ _ h => hM.code _ _ _ _ _ _ h) e
theorem evalN_mono [Sy] (hX : ExtNext E) : ∀ n, Mono (evalN E n) := by
  intro n
  induction n with
  | zero => exact { code := fun _ _ _ _ _ _ e => by simp [evalN] at e, call := fun _ _ _ _ _ e => by simp [evalN] at e, round := fun _ _ _ _ _ e => by simp [evalN] at e }
  | succ n ih => exact { code := fun _ _ _ _ _ _ e => stepCode_next hX ih e, call := fun _ _ _ _ _ e => stepCall_next hX ih e, round := fun _ _ _ _ _ e => stepRound_next ih e }
end
end Go.Ev
