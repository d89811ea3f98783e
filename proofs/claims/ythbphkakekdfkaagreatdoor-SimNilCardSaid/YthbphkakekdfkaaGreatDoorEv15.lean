/- Steps of the machine: frames at work, whether of a call or of a round. -/
import Derived.Test.YthbphkakekdfkaaGreatDoorEv14
namespace Go.Ev
open Go Go.RowKit
def fat (b : Frame) (tmps : Array Value) (todo : List Item) (ds : List Deferred) : Frame := { b with tmps, todo, defers := ds, mode := .run }
section
variable {P : Program} {b : Frame} {tmps : Array Value} {ds : List Deferred} {k : List Item} {cs : List Frame} {w : World}
theorem step_skip' : step P (lone (fat b tmps (.code .skip :: k) ds) cs w) = .next (lone (fat b tmps k ds) cs w) := step_lone_go (by simp [stepG, stepG.exec, fat])
theorem step_label' {l : Nat} : step P (lone (fat b tmps (.code (.label l) :: k) ds) cs w) = .next (lone (fat b tmps k ds) cs w) := step_lone_go (by simp [stepG, stepG.exec, fat])
theorem step_inBlock' {id : Nat} : step P (lone (fat b tmps (.inBlock id :: k) ds) cs w) = .next (lone (fat b tmps k ds) cs w) := step_lone_go (by simp [stepG, stepG.exec, fat])
theorem step_inScope' {c : Code} : step P (lone (fat b tmps (.inScope c :: k) ds) cs w) = .next (lone (fat b tmps k ds) cs w) := step_lone_go (by simp [stepG, stepG.exec, fat])
theorem step_seq' {x y : Code} : step P (lone (fat b tmps (.code (.seq x y) :: k) ds) cs w) = .next (lone (fat b tmps (.code x :: .code y :: k) ds) cs w) := step_lone_go (by simp [stepG, stepG.exec, fat])
theorem step_cond' {c : Operand} {x y : Code} {t : Bool} (h : (⟨tmps, []⟩ : Act).eval c = .bool t) :
    step P (lone (fat b tmps (.code (.cond c x y) :: k) ds) cs w) = .next (lone (fat b tmps (.code (if t then x else y) :: k) ds) cs w) :=
  step_lone_go (by
    have he : ∀ (fr : Frame), fr.tmps = tmps → fr.eval c = .bool t := by
      intro fr hf
      rw [← h]
      cases c <;> simp [Frame.eval, Act.eval, hf]
    simp only [stepG, stepG.exec, fat]
    rw [he _ rfl]
    rfl)
theorem step_block' {id : Nat} {c : Code} : step P (lone (fat b tmps (.code (.block id c) :: k) ds) cs w) = .next (lone (fat b tmps (.code c :: .inBlock id :: k) ds) cs w) := step_lone_go (by simp [stepG, stepG.exec, fat])
theorem step_loop' {c : Code} : step P (lone (fat b tmps (.code (.loop c) :: k) ds) cs w) = .next (lone (fat b tmps (.code c :: .inLoop c :: k) ds) cs w) := step_lone_go (by simp [stepG, stepG.exec, fat])
theorem step_inLoop' {c : Code} : step P (lone (fat b tmps (.inLoop c :: k) ds) cs w) = .next (lone (fat b tmps (.code c :: .inLoop c :: k) ds) cs w) := step_lone_go (by simp [stepG, stepG.exec, fat])
theorem step_scope' {c : Code} : step P (lone (fat b tmps (.code (.scope c) :: k) ds) cs w) = .next (lone (fat b tmps (.code c :: .inScope c :: k) ds) cs w) := step_lone_go (by simp [stepG, stepG.exec, fat])
theorem step_exit' {id : Nat} {k' : List Item} (h : exitTo id k = some k') : step P (lone (fat b tmps (.code (.exit id) :: k) ds) cs w) = .next (lone (fat b tmps k' ds) cs w) :=
  step_lone_go (by simp [stepG, stepG.exec, fat, h])
theorem step_region' {id : Nat} {ops : Array Oper} : step P (lone (fat b tmps (.code (.region id ops false) :: k) ds) cs w) = .next (lone (fat b tmps (.inRegion ops (List.range ops.size) :: k) ds) cs w) :=
  step_lone_go (by simp [stepG, stepG.exec, fat])
theorem step_draw' {id : Nat} {ops : Array Oper} (hm : P.follows .mixedOrders = true) : ∃ t, step P (lone (fat b tmps (.code (.region id ops true) :: k) ds) cs w) =
    .next (lone (fat b tmps (.inRegion ops (Region.linearise .any ops t) :: k) ds) cs { w with drawn := w.drawn + 1 }) :=
  ⟨w.tape w.drawn (.order b.fn id), step_lone_go (by simp [stepG, stepG.exec, fat, choose, Sem.run, Question.forced, Question.cut, Region.schedule, hm])⟩
theorem step_regionEnd' {ops : Array Oper} : step P (lone (fat b tmps (.inRegion ops [] :: k) ds) cs w) = .next (lone (fat b tmps k ds) cs w) := step_lone_go (by simp [stepG, stepG.exec, fat])
theorem step_unwanted {ops : Array Oper} {i : Nat} {rest : List Nat} (h : ((ops[i]?).map (Region.wanted · (yielded ops tmps))).getD false = false) :
    step P (lone (fat b tmps (.inRegion ops (i :: rest) :: k) ds) cs w) = .next (lone ((fat b tmps (.inRegion ops (i :: rest) :: k) ds).finish undef) cs w) :=
  step_lone_go (by
    have h' := h
    simp [stepG, stepG.exec, fat, h'])
theorem fat_finish {ops : Array Oper} {i : Nat} {rest : List Nat} {o : Oper} (ho : ops[i]? = some o) (v : Value) :
    (fat b tmps (.inRegion ops (i :: rest) :: k) ds).finish v = fat b (match o.dst with | some d => tmps.setIfInBounds d v | none => tmps) (.inRegion ops rest :: k) ds := by
  cases hd : o.dst <;> simp [Frame.finish, fat, ho, hd]
def notDefer : Op → Bool
  | .defer _ => false
  | _ => true
theorem stepG_wanted {ops : Array Oper} {i : Nat} {rest : List Nat} {o : Oper} (ho : ops[i]? = some o) (hw : Region.wanted o (yielded ops tmps) = true) (hd : notDefer o.op = true) :
    stepG P true { frame := fat b tmps (.inRegion ops (i :: rest) :: k) ds, callers := cs, status := .running, dying := none } w =
      stepG.apply P true (fat b tmps (.inRegion ops (i :: rest) :: k) ds) cs none (execOp (⟨tmps, []⟩ : Act).eval o) w := by
  have he : (fat b tmps (.inRegion ops (i :: rest) :: k) ds).eval = (⟨tmps, []⟩ : Act).eval := by
    funext x; cases x <;> simp [Frame.eval, Act.eval, fat]
  have hor : (fat b tmps (.inRegion ops (i :: rest) :: k) ds).oper? = some o := by simp [Frame.oper?, fat, ho]
  rw [← he]
  have h1 : stepG P true { frame := fat b tmps (.inRegion ops (i :: rest) :: k) ds, callers := cs, status := .running, dying := none } w =
      stepG.oper P true (fat b tmps (.inRegion ops (i :: rest) :: k) ds) cs none w := by
    simp [stepG, stepG.exec, fat, ho, hw]
  rw [h1]
  unfold stepG.oper
  rw [hor]
  simp only
  cases hr : (fat b tmps (.inRegion ops (i :: rest) :: k) ds).roundOf with
  | none => rfl
  | some l =>
    generalize hop : o.op = op at hd
    cases op <;> first | rfl | (simp [notDefer] at hd)
theorem step_answers [Sy] {ops : Array Oper} {i : Nat} {rest : List Nat} {o : Oper} {v : Value} {w' : World} (ho : ops[i]? = some o) (hw : Region.wanted o (yielded ops tmps) = true) (hd : notDefer o.op = true)
    (hrun : (execOp (⟨tmps, []⟩ : Act).eval o).run P w = .ok (.value v) w' ∨ ((execOp (⟨tmps, []⟩ : Act).eval o).run P w = .ok .skip w' ∧ v = undef)) :
    step P (lone (fat b tmps (.inRegion ops (i :: rest) :: k) ds) cs w) = .next (lone ((fat b tmps (.inRegion ops (i :: rest) :: k) ds).finish v) cs w') := by
  refine step_lone_go ?_
  rw [stepG_wanted ho hw hd]
  rcases hrun with h | ⟨h, rfl⟩ <;> simp [stepG.apply, h]
theorem step_enters [Sy] {ops : Array Oper} {i : Nat} {rest : List Nat} {o : Oper} {f : FuncId} {args : Array Value} {w' : World} (ho : ops[i]? = some o) (hw : Region.wanted o (yielded ops tmps) = true) (hd : notDefer o.op = true)
    (hrun : (execOp (⟨tmps, []⟩ : Act).eval o).run P w = .ok (.enter f args) w') :
    step P (lone (fat b tmps (.inRegion ops (i :: rest) :: k) ds) cs w) = .next (lone (Frame.enter P f args .normal) (fat b tmps (.inRegion ops (i :: rest) :: k) ds :: cs) w') := by
  refine step_lone_go ?_
  rw [stepG_wanted ho hw hd]
  simp [stepG.apply, hrun, fat]
theorem step_rounds [Sy] {ops : Array Oper} {i : Nat} {rest : List Nat} {o : Oper} {l : Nat} {f : FuncId} {ts : Array Value} {as body : Code} {w' : World} (ho : ops[i]? = some o) (hw : Region.wanted o (yielded ops tmps) = true) (hd : notDefer o.op = true)
    (hrun : (execOp (⟨tmps, []⟩ : Act).eval o).run P w = .ok (.round l f ts as body) w') :
    step P (lone (fat b tmps (.inRegion ops (i :: rest) :: k) ds) cs w) = .next (lone (Frame.round l f ts as body .normal) (fat b tmps (.inRegion ops (i :: rest) :: k) ds :: cs) w') := by
  refine step_lone_go ?_
  rw [stepG_wanted ho hw hd]
  simp [stepG.apply, hrun, fat]
end
end Go.Ev
