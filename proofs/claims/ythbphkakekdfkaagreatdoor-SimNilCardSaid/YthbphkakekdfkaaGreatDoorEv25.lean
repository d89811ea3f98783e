/- Steps of the machine: a frame's end, rounds, loops over functions. -/
import Derived.Test.YthbphkakekdfkaaGreatDoorEv24
namespace Go.Ev
open Go Go.RowKit
section
variable {P : Program} {b : Frame} {tmps : Array Value} {ds : List Deferred} {k : List Item} {cs : List Frame} {w : World}
def markOf (r : Nat) : Deferred := { target := .collected r, args := #[] }
theorem step_endNil (h : b.roundOf = none) : step P (lone (fat b tmps [] ds) cs w) = .next (lone { fat b tmps [] ds with mode := .returning } cs w) :=
  step_lone_go (by simp [stepG, stepG.exec, fat, h])
theorem step_endRet (h : b.roundOf = none) : step P (lone (fat b tmps (.code .ret :: k) ds) cs w) = .next (lone { fat b tmps (.code .ret :: k) ds with mode := .returning } cs w) :=
  step_lone_go (by simp [stepG, stepG.exec, fat, h])
theorem step_mark [Sy] {fr : Frame} {r : Nat} (hm : fr.mode = .returning) (hd : fr.defers = markOf r :: ds) (hr : w.heap[r]? = some (.deferred (some []))) :
    step P (lone fr cs w) = .next (lone { fr with defers := ds } cs { w with heap := w.heap.setIfInBounds r (.deferred none) }) := by
  have hrun : (Instr.takeDeferred r).run P w = .ok [] { w with heap := w.heap.setIfInBounds r (.deferred none) } := by
    unfold Instr.takeDeferred
    rw [bind_ok (run_getObj hr (by intro c t f h; cases h))]
    simp only
    rw [bind_ok (run_setObj hr (by intro c t f h; cases h))]
    rfl
  exact step_lone_go (by simp [stepG, unwind, hm, hd, markOf, hrun])
theorem run_getLoop [Sy] {l : Nat} {lp : Loop} (h : w.heap[l]? = some (.loop lp)) : (Instr.getLoop l).run P w = .ok lp w := by
  unfold Instr.getLoop
  rw [bind_ok (run_getObj h (by intro c t f h; cases h))]
  rfl
theorem run_endRound [Sy] {l : Nat} {lp : Loop} (h : w.heap[l]? = some (.loop lp)) (j : Option Code) :
    (Instr.endRound l j).run P w = .ok (.bool j.isNone) { w with heap := w.heap.setIfInBounds l (.loop { lp with state := if j.isNone then .ready else .done, pending := j }) } := by
  unfold Instr.endRound
  rw [bind_ok (run_getLoop h)]
  rw [bind_ok (run_setObj h (by intro c t f h; cases h))]
  rfl
theorem run_beginRound [Sy] {l : Nat} {lp : Loop} (h : w.heap[l]? = some (.loop lp)) (hs : lp.state = .ready) :
    (Instr.beginRound l).run P w = .ok () { w with heap := w.heap.setIfInBounds l (.loop { lp with state := .busy }) } := by
  unfold Instr.beginRound
  rw [bind_ok (run_getLoop h)]
  rw [bind_ok (run_setObj h (by intro c t f h; cases h))]
  rw [hs]
  rfl
theorem run_endLoop [Sy] {l : Nat} {lp : Loop} (h : w.heap[l]? = some (.loop lp)) (hs : lp.state ≠ .busy) :
    (Instr.endLoop l).run P w = .ok lp.pending { w with heap := w.heap.setIfInBounds l (.loop { lp with state := .exhausted }) } := by
  unfold Instr.endLoop
  rw [bind_ok (run_getLoop h)]
  simp only
  have : (lp.state == LoopState.busy) = false := by
    cases hl : lp.state <;> first | rfl | (exact (hs hl).elim)
  rw [this]
  simp only [Bool.false_eq_true, if_false]
  rw [bind_ok (run_setObj h (by intro c t f h; cases h))]
  rfl
theorem step_roundNil [Sy] {l : Nat} {lp : Loop} {c : Frame} (h : b.roundOf = some l) (hk : b.kind = .normal) (hl : w.heap[l]? = some (.loop lp)) :
    step P (lone (fat b tmps [] ds) (c :: cs) w) = .next (lone (c.finish (.bool true)) cs { w with heap := w.heap.setIfInBounds l (.loop { lp with state := .ready, pending := none }) }) := by
  have hr := run_endRound (P := P) hl none
  exact step_lone_go (by simp [stepG, stepG.exec, fat, h, hr, doReturn, hk])
theorem step_roundRet [Sy] {l : Nat} {lp : Loop} {c : Frame} (h : b.roundOf = some l) (hk : b.kind = .normal) (hl : w.heap[l]? = some (.loop lp)) :
    step P (lone (fat b tmps (.code .ret :: k) ds) (c :: cs) w) = .next (lone (c.finish (.bool false)) cs { w with heap := w.heap.setIfInBounds l (.loop { lp with state := .done, pending := some .ret }) }) := by
  have hr := run_endRound (P := P) hl (some .ret)
  exact step_lone_go (by simp [stepG, stepG.exec, fat, h, hr, doReturn, hk])
theorem step_roundExit [Sy] {l id : Nat} {lp : Loop} {c : Frame} (h : b.roundOf = some l) (hk : b.kind = .normal) (hl : w.heap[l]? = some (.loop lp)) (he : exitTo id k = none) :
    step P (lone (fat b tmps (.code (.exit id) :: k) ds) (c :: cs) w) = .next (lone (c.finish (.bool false)) cs { w with heap := w.heap.setIfInBounds l (.loop { lp with state := .done, pending := some (.exit id) }) }) := by
  have hr := run_endRound (P := P) hl (some (.exit id))
  exact step_lone_go (by simp [stepG, stepG.exec, fat, h, hr, doReturn, hk, he])
theorem step_begin [Sy] {l : Nat} {lp : Loop} (h : b.roundOf = some l) (hl : w.heap[l]? = some (.loop lp)) (hs : lp.state = .ready) :
    step P (lone (fat b tmps (.beginRound :: k) ds) cs w) = .next (lone (fat b tmps k ds) cs { w with heap := w.heap.setIfInBounds l (.loop { lp with state := .busy }) }) := by
  have hr := run_beginRound (P := P) hl hs
  exact step_lone_go (by simp [stepG, stepG.exec, stepG.apply, fat, h, hr, Frame.finish])
theorem step_endLoop [Sy] {l : Nat} {lp : Loop} (hl : w.heap[l]? = some (.loop lp)) (hs : lp.state ≠ .busy) :
    step P (lone (fat b tmps (.endRangeFunc l :: k) ds) cs w) = .next (lone (fat b tmps ((lp.pending.map Item.code).toList ++ k) ds) cs { w with heap := w.heap.setIfInBounds l (.loop { lp with state := .exhausted }) }) := by
  have hr := run_endLoop (P := P) hl hs
  exact step_lone_go (by simp [stepG, stepG.exec, fat, hr])
def looped (w : World) (fn : FuncId) (tmps : Array Value) (ps : Array Tmp) (as body : Code) : World :=
  { w with heap := (w.heap.push (.deferred (some []))).push (.loop { state := .ready, pending := none, fn, tmps, params := ps, assign := as, body, defers := w.heap.size }) }
theorem run_enter (fn : FuncId) (ps : Array Tmp) (as body : Code) : (Instr.enterLoop fn tmps ps as body none).run P w = .ok (w.heap.size + 1, [markOf w.heap.size]) (looped w fn tmps ps as body) := by
  unfold Instr.enterLoop
  simp [Sem.run_bind, run_newObj, Result.andThen_ok, looped, markOf]
  rfl
theorem stepG_rangeFunc [Sy] {f : Operand} {ps : Array Tmp} {as body : Code} (h : b.roundOf = none) :
    (stepG P true { frame := fat b tmps (.code (.rangeFunc f ps as body) :: k) ds, callers := cs, status := .running, dying := none } w).bare =
      (stepG.apply P true (fat b tmps (.inRangeFunc (w.heap.size + 1) :: k) (markOf w.heap.size :: ds)) cs none
        (do let d ← Deferred.ofValue ((⟨tmps, []⟩ : Act).eval f) #[.func (.yield (w.heap.size + 1)) #[] #[]]; invoke d.target d.args) (looped w b.fn tmps ps as body)).bare := by
  have hr := run_enter (P := P) (w := w) (tmps := tmps) b.fn ps as body
  have he : ∀ (fr : Frame), fr.tmps = tmps → fr.eval f = (⟨tmps, []⟩ : Act).eval f := by
    intro fr hf
    cases f <;> simp [Frame.eval, Act.eval, hf]
  have he2 := he (fat b tmps (.inRangeFunc (w.heap.size + 1) :: k) (markOf w.heap.size :: ds)) rfl
  simp only [fat] at he2
  simp [stepG, stepG.exec, fat, h, hr, resolve]
  rfl
theorem step_apply {fr F : Frame} {s : Sem Next} {w1 : World} (hg : (stepG P true { frame := fr, callers := cs, status := .running, dying := none } w).bare = (stepG.apply P true F cs none s w1).bare)
    (hF : ∀ d wr rs sv k, F.todo ≠ .call d wr rs sv :: k) :
    (∀ v w', s.run P w1 = .ok (.value v) w' → step P (lone fr cs w) = .next (lone (F.finish v) cs w')) ∧
    (∀ g args w', s.run P w1 = .ok (.enter g args) w' → step P (lone fr cs w) = .next (lone (Frame.enter P g args .normal) (F :: cs) w')) ∧
    (∀ l g ts as bd w', s.run P w1 = .ok (.round l g ts as bd) w' → step P (lone fr cs w) = .next (lone (Frame.round l g ts as bd .normal) (F :: cs) w')) := by
  refine ⟨fun v w' h => step_lone_go ?_, fun g args w' h => step_lone_go ?_, fun l g ts as bd w' h => step_lone_go ?_⟩ <;> rw [hg]
  · simp [stepG.apply, h]
  · simp [stepG.apply, h]
    split
    · exact (hF _ _ _ _ _ (by assumption)).elim
    · rfl
  · simp [stepG.apply, h]
end
end Go.Ev
