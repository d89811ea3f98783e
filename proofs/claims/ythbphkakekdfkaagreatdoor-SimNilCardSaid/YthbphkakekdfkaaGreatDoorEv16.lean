/- Calls: what the evaluator's answer says of the machine; one operation. -/
import Derived.Test.YthbphkakekdfkaaGreatDoorEv15
namespace Go.Ev
open Go Go.RowKit
def ExtOk [Sy] (E : Env) (P : Program) : Prop := ∀ f g, E.ext.get f = some g → ∀ ρ H w args args' v H', Rel ρ H w → GOk ρ E.g → VRs ρ args args' → g args H = some (v, H') → Free ρ H.next H'.next →
  ∃ ρ' w' v', (callFunc f ⟨args'⟩).run P w = .ok (.value v') w' ∧ Post ρ H w ρ' H' w' ∧ VR ρ' v v'
def CallOk [Sy] (E : Env) (P : Program) (call : FuncId → List Value → AH → Option (Value × AH)) : Prop := ∀ f args H v H', call f args H = some (v, H') → ∀ ρ w args', Rel ρ H w → GOk ρ E.g → VRs ρ args args' → Free ρ H.next H'.next →
  Calls P f ⟨args'⟩ w fun e w' => ∃ ρ' v', e = .returned v' ∧ Post ρ H w ρ' H' w' ∧ VR ρ' v v'
def roundOf (c : Nat) (lp : Loop) (args : List Value) : Frame :=
  Frame.round c lp.fn ((lp.params.zip ⟨args⟩).foldl (fun tmps (t, a) => tmps.setIfInBounds t a) lp.tmps) lp.assign lp.body .normal
def RoundOk [Sy] (E : Env) (P : Program) (round : Nat → List Value → AH → Option (Value × AH)) : Prop := ∀ l args H v H', round l args H = some (v, H') → ∀ ρ w args' p, ρ l = some p → Rel ρ H w → GOk ρ E.g → VRs ρ args args' → Free ρ H.next H'.next →
  ∃ lp : Loop, w.heap[p.c]? = some (.loop lp) ∧ args'.length = lp.params.size ∧
    ∀ (c : Frame) (cs : List Frame), ∃ ρ' w' v', Post ρ H w ρ' H' w' ∧ VR ρ' v v' ∧ Steps P (lone (roundOf p.c lp args') (c :: cs) w) (lone (c.finish v') cs w')
section
variable {E : Env} {P : Program} {ρ : Ren}
def NextR [Sy] (_ : Env) (P : Program) (ρ : Ren) (H : AH) (w : World) (r : Rec) (s : Sem Next) (v : Value) (H' : AH) : Prop :=
  (∃ ρ' w' v', s.run P w = .ok (.value v') w' ∧ Post ρ H w ρ' H' w' ∧ VR ρ' v v') ∨
  (∃ f args args', s.run P w = .ok (.enter f ⟨args'⟩) w ∧ VRs ρ args args' ∧ r.call f args H = some (v, H')) ∨
  (∃ l args args' p lp, s.run P w = .ok (.round p.c lp.fn ((lp.params.zip ⟨args'⟩).foldl (fun tmps (t, a) => tmps.setIfInBounds t a) lp.tmps) lp.assign lp.body) w ∧ ρ l = some p ∧ w.heap[p.c]? = some (.loop lp) ∧ VRs ρ args args' ∧ r.round l args H = some (v, H'))
theorem callFunc_sim [Sy] (hE : EnvOk E P) (hX : ExtOk E P) {r : Rec} {H H' : AH} {w : World} (hR : Rel ρ H w) (hG : GOk ρ E.g) {f : FuncId} {args args' : List Value} {v : Value} (ha : VRs ρ args args')
    (hbody : ∀ a H v H', r.call f a H = some (v, H') → ∃ fn c, E.fn.get f = some fn ∧ fn.body = some c)
    (e : (match E.ext.get f with | some g => g args H | none => r.call f args H) = some (v, H')) (hf : Free ρ H.next H'.next) :
    NextR E P ρ H w r (callFunc f ⟨args'⟩) v H' := by
  split at e
  · rename_i g hg
    exact .inl (hX f g hg ρ H w args args' v H' hR hG ha e hf)
  · obtain ⟨fn, c, h1, h2⟩ := hbody _ _ _ _ e
    refine .inr (.inl ⟨f, args, args', ?_, ha, e⟩)
    have h3 := hE.fn f fn h1
    have h4 := hE.name f fn h1
    unfold callFunc
    simp only [Sem.run_bind, run_program, Result.andThen_ok, h3, h4, h2, Option.isNone_some, Bool.false_eq_true, if_false, Sem.run_pure]
theorem recvOf_sim [Sy] (hE : EnvOk E P) {H : AH} {w : World} (hR : Rel ρ H w) {t : TypeId} {v v' : Value} {name : String} {f : FuncId} {x : Value} (hv : VR ρ v v') (e : recvOf E H t v name = some (f, x)) :
    ∃ x', (do let (f, receiver) ← method ((← program).types.size + Made.depth) t v' name; pure (f, receiver) : Sem (FuncId × Value)).run P w = .ok (f, x') w ∧ VR ρ x x' := by
  unfold recvOf at e
  cases hi : E.ty.get t with
  | none => rw [hi] at e; cases e
  | some i =>
    rw [hi] at e
    simp only at e
    cases hm : i.ms.find? (·.name == name) with
    | none => rw [hm] at e; cases e
    | some m =>
      rw [hm] at e
      simp only at e
      obtain ⟨inf, hinf, _, hms, _⟩ := hE.info hi
      obtain ⟨n, hn⟩ : ∃ n, P.types.size + Made.depth = n + 1 := ⟨P.types.size + Made.depth - 1, by unfold Made.depth; omega⟩
      have hfind : inf.methods.find? (·.name == name) = some m := by rw [← Array.find?_toList, hms]; exact hm
      have start : ∀ {fx : FuncId × Value} , (∀ (hp : m.path.toList = []), True) → m.path.toList = [] → (∃ fp, m.func = some fp ∧ (receiverAt t (.val v') fp.2 (if m.path.isEmpty then some ((name.splitOn ".").getLastD name) else none)).run P w = .ok fx.2 w ∧ fp.1 = fx.1) →
          (do let (f, receiver) ← method ((← program).types.size + Made.depth) t v' name; pure (f, receiver) : Sem (FuncId × Value)).run P w = .ok fx w := by
        rintro ⟨f0, x0⟩ _ hp ⟨⟨f1, pr⟩, hfn, hrun, hff⟩
        simp only at hff hrun
        subst hff
        simp only [Sem.run_bind, run_program, Result.andThen_ok, hn, method, run_typeInfo w hinf, hfind, hp, follow, Sem.run_pure, hfn, hrun]
      split at e
      · rename_i f0 el hp hfn hu
        simp only [Option.some.injEq, Prod.mk.injEq] at e
        obtain ⟨rfl, rfl⟩ := e
        refine ⟨v', start (fx := (f0, v')) (fun _ => trivial) hp ⟨_, hfn, ?_, rfl⟩, hv⟩
        unfold receiverAt
        rw [bind_ok (hE.under hi w), hu]
        rfl
      · rename_i f0 el hp hfn hu
        cases hl : loadv E H el v with
        | none => rw [hl] at e; cases e
        | some y =>
          rw [hl] at e
          simp only [Option.some.injEq, Prod.mk.injEq] at e
          obtain ⟨rfl, rfl⟩ := e
          obtain ⟨y', h1, h2⟩ := loadv_sim hE hR hv hl
          refine ⟨y', start (fx := (f0, y')) (fun _ => trivial) hp ⟨_, hfn, ?_, rfl⟩, h2⟩
          have hem : m.path.isEmpty = true := by
            have : m.path = #[] := by apply Array.ext'; simpa using hp
            rw [this]; rfl
          unfold receiverAt
          rw [bind_ok (hE.under hi w), hu]
          simp only [hem, if_true]
          cases hv <;> simp only [loadv, reduceCtorEq] at hl
          rename_i b o p hb
          simp only [Instr.loadAt, Instr.sureAddr, pure_bind] at h1
          have hwrap : ∀ (xt : TypeId) (a : Addr) (s1 s2 : ByteArray), Builtin.ssaWrapNilChk_ #[xt] xt #[.pointer (some a), .string s1, .string s2] = pure (.pointer (some a)) := fun _ _ _ _ => rfl
          simp only [Place.get, pure_bind, strVal, hwrap, asAddr]
          exact h1
      · rename_i f0 hp hfn hne
        simp only [Option.some.injEq, Prod.mk.injEq] at e
        obtain ⟨rfl, rfl⟩ := e
        refine ⟨v', start (fx := (f0, v')) (fun _ => trivial) hp ⟨_, hfn, ?_, rfl⟩, hv⟩
        unfold receiverAt
        rw [bind_ok (hE.under hi w)]
        cases hu : i.u <;> first
          | (exact (hne _ hu).elim)
          | rfl
      · cases e
theorem callMethod_sim [Sy] (hE : EnvOk E P) {r : Rec} {H H' : AH} {w : World} (hR : Rel ρ H w) {x x' : Value} {name : String} {args args' : List Value} {v : Value} (hx : VR ρ x x') (ha : VRs ρ args args')
    (hbody : ∀ f a H v H', r.call f a H = some (v, H') → ∃ fn c, E.fn.get f = some fn ∧ fn.body = some c)
    (e : callFn E r (.method name) [] (x :: args) H = some (v, H')) :
    NextR E P ρ H w r (callMethod x' name ⟨args'⟩) v H' := by
  cases hx <;> simp only [callFn, reduceCtorEq] at e
  rename_i t u u' hu
  cases hr : recvOf E H t u name with
  | none => rw [hr] at e; cases e
  | some fx =>
    obtain ⟨f, y⟩ := fx
    rw [hr] at e
    simp only at e
    cases hx : E.ext.get f with
    | some g => rw [hx] at e; cases e
    | none =>
      rw [hx] at e
      simp only at e
      obtain ⟨y', h1, h2⟩ := recvOf_sim hE hR hu hr
      obtain ⟨fn, c, g1, g2⟩ := hbody _ _ _ _ _ e
      refine .inr (.inl ⟨f, y :: args, y' :: args', ?_, .cons h2 ha, e⟩)
      have h3 := hE.fn f fn g1
      have h4 := hE.name f fn g1
      have hm : (method (P.types.size + Made.depth) t u' name).run P w = .ok (f, y') w := by
        simp only [Sem.run_bind, run_program, Result.andThen_ok] at h1
        revert h1
        generalize (method (P.types.size + Made.depth) t u' name).run P w = q
        intro h1
        cases q with
        | ok a w2 => obtain ⟨a1, a2⟩ := a; simpa using h1
        | halt a w2 => cases h1
      unfold callMethod
      simp only [Sem.run_bind, run_program, Result.andThen_ok, hm]
      unfold callFunc
      simp only [Sem.run_bind, run_program, Result.andThen_ok, h3, h4, g2, Option.isNone_some, Bool.false_eq_true, if_false, Sem.run_pure]
      simp
theorem callFn_sim [Sy] (hE : EnvOk E P) (hX : ExtOk E P) {r : Rec} {H H' : AH} {w : World} (hR : Rel ρ H w) (hG : GOk ρ E.g) {fn : Fn} {fs cs args args' : List Value} {fv' v : Value}
    (hfv : VR ρ (.func fn ⟨fs⟩ ⟨cs⟩) fv') (ha : VRs ρ args args')
    (hbody : ∀ f a H v H', r.call f a H = some (v, H') → ∃ fn c, E.fn.get f = some fn ∧ fn.body = some c) (hround : RoundOk E P r.round)
    (e : callFn E r fn cs (fs ++ args) H = some (v, H')) (hf : Free ρ H.next H'.next) :
    NextR E P ρ H w r (do let d ← Deferred.ofValue fv' ⟨args'⟩; invoke d.target d.args) v H' := by
  generalize hval : Value.func fn ⟨fs⟩ ⟨cs⟩ = val at hfv
  cases hfv <;> first
    | (simp only [reduceCtorEq] at hval; done)
    | skip
  · rename_i fn0 fs0 fs' cs0 cs' hn hfs hcs
    simp only [Value.func.injEq, Array.mk.injEq] at hval
    obtain ⟨rfl, rfl, rfl⟩ := hval
    have hall := hfs.append ha
    have hstart : (do let d ← Deferred.ofValue (.func fn ⟨fs'⟩ ⟨cs'⟩) ⟨args'⟩; invoke d.target d.args : Sem Next) = invoke (.fn fn ⟨cs'⟩) ⟨fs' ++ args'⟩ := by
      simp only [Deferred.ofValue, pure_bind]
      congr 1
      apply Array.ext'; simp
    rw [hstart]
    cases fn with
    | func f =>
      have := callFunc_sim hE hX hR hG (hall.append hcs) (hbody f) (by unfold callFn at e; exact e) hf
      unfold invoke
      have harr : (⟨fs' ++ args'⟩ : Array Value) ++ ⟨cs'⟩ = ⟨fs' ++ args' ++ cs'⟩ := by apply Array.ext'; simp
      simp only [harr]
      exact this
    | yield l => exact (hn l rfl).elim
    | method name =>
      cases hall' : fs ++ args with
      | nil => rw [hall'] at e; simp [callFn] at e
      | cons x rest =>
        rw [hall'] at e hall
        have e' : callFn E r (.method name) [] (x :: rest) H = some (v, H') := by
          cases x <;> first | exact e | (simp [callFn] at e; done)
        generalize hl : fs' ++ args' = l' at hall
        cases hall with
        | cons hx hrest =>
          rename_i x' rest'
          have := callMethod_sim hE hR hx hrest hbody e'
          unfold invoke
          simp only [List.getElem?_toArray, List.getElem?_cons_zero]
          have harr : (⟨x' :: rest'⟩ : Array Value).extract 1 (⟨x' :: rest'⟩ : Array Value).size = ⟨rest'⟩ := by
            apply Array.ext'; simp [List.extract_eq_take_drop]
          rw [harr]
          exact this
    | methodOf t name => simp [callFn] at e
    | via t p f b => simp [callFn] at e
  · rename_i l p hp
    simp only [Value.func.injEq] at hval
    obtain ⟨rfl, h1, h2⟩ := hval
    have h1' : fs = [] := by have := congrArg Array.toList h1; simpa using this
    have h2' : cs = [] := by have := congrArg Array.toList h2; simpa using this
    subst h1'; subst h2'
    simp only [callFn, List.nil_append] at e
    obtain ⟨lp, g1, g2, _⟩ := hround l args H v H' e ρ w args' p hp hR hG ha hf
    refine .inr (.inr ⟨l, args, args', p, lp, ?_, hp, g1, ha, e⟩)
    have hgl : (Instr.getLoop p.c).run P w = .ok lp w := by
      unfold Instr.getLoop
      rw [bind_ok (run_getObj g1 (by intro c t f h; cases h))]
      rfl
    have harr : (#[] : Array Value) ++ ⟨args'⟩ = ⟨args'⟩ := by simp
    simp only [Deferred.ofValue, pure_bind, harr]
    unfold invoke
    simp only
    unfold Instr.yield
    rw [bind_ok hgl]
    have hsz : ¬ ((⟨args'⟩ : Array Value).size ≠ lp.params.size) := by simp [g2]
    rw [if_neg hsz]
    rfl
end
end Go.Ev
