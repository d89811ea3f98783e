/- One operation, and a region that is carried out in the order of its text. -/
import Derived.Test.YthbphkakekdfkaaGreatDoorEv16
namespace Go.Ev
open Go Go.RowKit
structure Below' [Sy] (E : Env) (P : Program) (r : Rec) : Prop where
  call : CallOk E P r.call
  round : RoundOk E P r.round
  body : ∀ f a H v H', r.call f a H = some (v, H') → ∃ fn c, E.fn.get f = some fn ∧ fn.body = some c
section
variable {E : Env} {P : Program} {ρ : Ren} {r : Rec}
def OpTo [Sy] (P : Program) (ρ : Ren) (H : AH) (w : World) (F : Frame) (cs : List Frame) (v : Value) (H' : AH) : Prop :=
  ∃ ρ' w' v', Post ρ H w ρ' H' w' ∧ VR ρ' v v' ∧ Steps P (lone F cs w) (lone (F.finish v') cs w')
variable {b : Frame} {tmps : Array Value} {ds : List Deferred} {k : List Item} {cs : List Frame} {w : World}
theorem next_steps [Sy] (hB : Below' E P r) {H H' : AH} (hR : Rel ρ H w) (hG : GOk ρ E.g) {ops : Array Oper} {i : Nat} {rest : List Nat} {o : Oper} {v : Value} (ho : ops[i]? = some o)
    (hw : Region.wanted o (yielded ops tmps) = true) (hd : notDefer o.op = true) (hf : Free ρ H.next H'.next)
    (h : NextR E P ρ H w r (execOp (⟨tmps, []⟩ : Act).eval o) v H') : OpTo P ρ H w (fat b tmps (.inRegion ops (i :: rest) :: k) ds) cs v H' := by
  rcases h with ⟨ρ', w', v', h1, h2, h3⟩ | ⟨f, args, args', h1, h2, h3⟩ | ⟨l, args, args', p, lp, h1, h2, h3, h4, h5⟩
  · exact ⟨ρ', w', v', h2, h3, .one (step_answers ho hw hd (.inl h1))⟩
  · obtain ⟨e, w', fr, ⟨ρ', v', rfl, g1, g2⟩, hcomes, hfn, hleave⟩ := hB.call f args H v H' h3 ρ w args' hR hG h2 hf (fat b tmps (.inRegion ops (i :: rest) :: k) ds :: cs)
    exact ⟨ρ', w', v', g1, g2, .head (step_enters ho hw hd h1) (Steps.trans hcomes (.one (step_leave_returned hleave)))⟩
  · obtain ⟨lp', g1, _, g3⟩ := hB.round l args H v H' h5 ρ w args' p h2 hR hG h4 hf
    rw [h3] at g1
    cases g1
    obtain ⟨ρ', w', v', k1, k2, k3⟩ := g3 (fat b tmps (.inRegion ops (i :: rest) :: k) ds) cs
    exact ⟨ρ', w', v', k1, k2, .head (step_rounds ho hw hd h1) k3⟩
theorem eff_value [Sy] {H H' : AH} {ops : Array Oper} {i : Nat} {rest : List Nat} {o : Oper} {v : Value} {s : Sem Value} (ho : ops[i]? = some o)
    (hw : Region.wanted o (yielded ops tmps) = true) (hd : notDefer o.op = true) (hs : execOp (⟨tmps, []⟩ : Act).eval o = (do pure (.value (← s)))) (h : EffR ρ H w P s v H') :
    OpTo P ρ H w (fat b tmps (.inRegion ops (i :: rest) :: k) ds) cs v H' := by
  obtain ⟨ρ', w', v', h1, h2, h3⟩ := h
  refine ⟨ρ', w', v', h2, h3, .one (step_answers ho hw hd (.inl ?_))⟩
  rw [hs]; simp [h1]
theorem callOp_sim [Sy] (hE : EnvOk E P) (hX : ExtOk E P) (hB : Below' E P r) {H H' : AH} (hR : Rel ρ H w) (hG : GOk ρ E.g) {T : Tmps} (hT : TR ρ T tmps) {ops : Array Oper} {i : Nat} {rest : List Nat} {o : Oper} {c : Call} {v : Value} (ho : ops[i]? = some o)
    (hw : Region.wanted o (yielded ops tmps) = true) (hop : o.op = .call c) (e : callOp E r c T H = some (v, H')) (hf : Free ρ H.next H'.next) :
    OpTo P ρ H w (fat b tmps (.inRegion ops (i :: rest) :: k) ds) cs v H' := by
  have hd : notDefer o.op = true := by rw [hop]; rfl
  have hT' : TR ρ T (⟨tmps, []⟩ : Act).tmps := hT
  unfold callOp at e
  cases hargs : evs T c.args.toList with
  | none => rw [hargs] at e; cases e
  | some args =>
    rw [hargs] at e
    simp only at e
    have hav := evs_sim hT' hargs
    have harr : c.args.map (⟨tmps, []⟩ : Act).eval = ⟨c.args.toList.map (⟨tmps, []⟩ : Act).eval⟩ := by apply Array.ext'; simp
    have hexec : execOp (⟨tmps, []⟩ : Act).eval o = (do let d ← resolve (⟨tmps, []⟩ : Act).eval c o.type; invoke d.target d.args) := by
      unfold execOp; rw [hop]
    obtain ⟨callee, cargs, ats⟩ := c
    simp only at e hargs hav harr hexec hop
    split at e
    · rename_i f
      cases hfv : evo T f with
      | none => rw [hfv] at e; cases e
      | some fv =>
        rw [hfv] at e
        cases fv <;> simp only [reduceCtorEq] at e
        rename_i fn fs cps
        have hv := evo_sim hT' hfv
        refine next_steps hB hR hG ho hw hd hf ?_
        rw [hexec]
        unfold resolve
        simp only [harr]
        exact callFn_sim (fs := fs.toList) (cs := cps.toList) hE hX hR hG hv hav hB.body hB.round e hf
    · rename_i rcv name
      cases hrv : evo T rcv with
      | none => rw [hrv] at e; cases e
      | some rv =>
        rw [hrv] at e
        simp only at e
        have hv := evo_sim hT' hrv
        refine next_steps hB hR hG ho hw hd hf ?_
        rw [hexec]
        unfold resolve
        simp only [harr, pure_bind]
        unfold invoke
        have h0 : ((#[(⟨tmps, []⟩ : Act).eval rcv] : Array Value) ++ ⟨cargs.toList.map (⟨tmps, []⟩ : Act).eval⟩)[0]? = some ((⟨tmps, []⟩ : Act).eval rcv) := by
          rw [Array.getElem?_append_left (by simp)]; rfl
        have h1 : ((#[(⟨tmps, []⟩ : Act).eval rcv] : Array Value) ++ ⟨cargs.toList.map (⟨tmps, []⟩ : Act).eval⟩).extract 1 ((#[(⟨tmps, []⟩ : Act).eval rcv] : Array Value) ++ ⟨cargs.toList.map (⟨tmps, []⟩ : Act).eval⟩).size = ⟨cargs.toList.map (⟨tmps, []⟩ : Act).eval⟩ := by
          apply Array.ext'; simp [List.extract_eq_take_drop]; exact List.take_of_length_le (by simp)
        simp only [h0, h1]
        exact callMethod_sim hE hR hv hav hB.body e
    · split at e
      · rename_i s x
        generalize hl : cargs.toList.map (⟨tmps, []⟩ : Act).eval = l at *
        cases hav with
        | cons h1 t => cases t with
          | cons h2 t => cases t
                         refine eff_value ho hw hd ?_ (appendv_post hE hR h1 h2 e hf o.type)
                         rw [hexec]; simp only [resolve, pure_bind, invoke, builtin, harr]
      · cases e
    · split at e
      · rename_i s x
        generalize hl : cargs.toList.map (⟨tmps, []⟩ : Act).eval = l at *
        cases hav with
        | cons h1 t => cases t with
          | cons h2 t => cases t
                         refine eff_value ho hw hd ?_ (copyv_post hE hR h1 h2 e o.type)
                         rw [hexec]; simp only [resolve, pure_bind, invoke, builtin, harr]
      · cases e
    · split at e
      · rename_i s
        generalize hl : cargs.toList.map (⟨tmps, []⟩ : Act).eval = l at *
        cases hav with
        | cons h1 t => cases t
                       refine eff_value ho hw hd ?_ (clearv_post hE hR h1 e o.type)
                       rw [hexec]; simp only [resolve, pure_bind, invoke, builtin, harr]
      · cases e
    · split at e
      · rename_i s x
        generalize hl : cargs.toList.map (⟨tmps, []⟩ : Act).eval = l at *
        cases hav with
        | cons h1 t => cases t with
          | cons h2 t => cases t
                         refine eff_value ho hw hd ?_ (deletev_post hE hR h1 h2 e o.type)
                         rw [hexec]; simp only [resolve, pure_bind, invoke, builtin, harr]
      · cases e
    · cases e
theorem effOp_sim [Sy] (hE : EnvOk E P) (hX : ExtOk E P) (hB : Below' E P r) {H H' : AH} (hR : Rel ρ H w) (hG : GOk ρ E.g) {T : Tmps} (hT : TR ρ T tmps) {ops : Array Oper} {i : Nat} {rest : List Nat} {o : Oper} {v : Value} (ho : ops[i]? = some o)
    (hw : Region.wanted o (yielded ops tmps) = true) (e : effOp E r T H o.op = some (v, H')) (hf : Free ρ H.next H'.next) :
    OpTo P ρ H w (fat b tmps (.inRegion ops (i :: rest) :: k) ds) cs v H' := by
  have hT' : TR ρ T (⟨tmps, []⟩ : Act).tmps := hT
  have skip : ∀ {s : Sem Unit} {w' : World}, execOp (⟨tmps, []⟩ : Act).eval o = (do s; pure .skip) → s.run P w = .ok () w' → notDefer o.op = true → Post ρ H w ρ H' w' → v = undefV →
      OpTo P ρ H w (fat b tmps (.inRegion ops (i :: rest) :: k) ds) cs v H' := by
    rintro s w' h1 h2 h3 h4 rfl
    exact ⟨ρ, w', undef, h4, .tuple .nil, .one (step_answers ho hw h3 (.inr ⟨by rw [h1]; simp [h2], rfl⟩))⟩
  cases hop : o.op <;> rw [hop] at e <;> simp only [effOp, reduceCtorEq] at e
  case store t a x =>
    split at e
    · rename_i u1 u2 h1 h2
      cases hs : storev E H t u1 u2 with
      | none => rw [hs] at e; cases e
      | some H2 =>
        rw [hs] at e
        simp only [Option.some.injEq, Prod.mk.injEq] at e
        obtain ⟨rfl, rfl⟩ := e
        obtain ⟨w', k1, k2⟩ := storev_post (P := P) hE hR (evo_sim hT' h1) (evo_sim hT' h2) hs
        exact skip (by unfold execOp; rw [hop]) k1 (by rw [hop]; rfl) k2 rfl
    · cases e
  case mapUpdate t m kk x =>
    split at e
    · rename_i u1 u2 u3 h1 h2 h3
      cases hs : updatev E H t u1 u2 u3 with
      | none => rw [hs] at e; cases e
      | some H2 =>
        rw [hs] at e
        simp only [Option.some.injEq, Prod.mk.injEq] at e
        obtain ⟨rfl, rfl⟩ := e
        obtain ⟨w', k1, k2⟩ := updatev_post (P := P) hE hR (evo_sim hT' h1) (evo_sim hT' h2) (evo_sim hT' h3) hs
        exact skip (by unfold execOp; rw [hop]) k1 (by rw [hop]; rfl) k2 rfl
    · cases e
  case insert t m kk x =>
    split at e
    · rename_i u1 u2 u3 h1 h2 h3
      cases hs : updatev E H t u1 u2 u3 with
      | none => rw [hs] at e; cases e
      | some H2 =>
        rw [hs] at e
        simp only [Option.some.injEq, Prod.mk.injEq] at e
        obtain ⟨rfl, rfl⟩ := e
        obtain ⟨w', k1, k2⟩ := updatev_post (P := P) hE hR (evo_sim hT' h1) (evo_sim hT' h2) (evo_sim hT' h3) hs
        exact skip (by unfold execOp; rw [hop]) k1 (by rw [hop]; rfl) k2 rfl
    · cases e
  case range t x =>
    cases hx : evo T x with
    | none => rw [hx] at e; cases e
    | some u =>
      rw [hx] at e
      exact eff_value ho hw (by rw [hop]; rfl) (by unfold execOp; rw [hop]) (rangev_post hE hR (evo_sim hT' hx) e hf)
  case next it s =>
    cases hx : evo T it with
    | none => rw [hx] at e; cases e
    | some u =>
      rw [hx] at e
      exact eff_value ho hw (by rw [hop]; rfl) (by unfold execOp; rw [hop]) (nextv_post (ty := o.type) hR (evo_sim hT' hx) e)
  case call c => exact callOp_sim hE hX hB hR hG hT ho hw hop e hf
theorem cls_notDefer {op : Op} {T : Tmps} {H : AH} {v : Value} {x : AObj × Ans} (h : pureOp E T op = some v ∨ readOp E T H op = some v ∨ newOp E T op = some x) : notDefer op = true := by
  cases op <;> first | rfl | (rcases h with h | h | h <;> simp [pureOp, readOp, newOp] at h)
theorem doOp_sim [Sy] (hE : EnvOk E P) (hX : ExtOk E P) (hB : Below' E P r) {H H' : AH} (hR : Rel ρ H w) (hG : GOk ρ E.g) {T : Tmps} (hT : TR ρ T tmps) {ops : Array Oper} {i : Nat} {rest : List Nat} {o : Oper} {v : Value} (ho : ops[i]? = some o)
    (hw : Region.wanted o (yielded ops tmps) = true) (e : doOp E r o.op T H = some (v, H')) (hf : Free ρ H.next H'.next) :
    OpTo P ρ H w (fat b tmps (.inRegion ops (i :: rest) :: k) ds) cs v H' := by
  have hT' : TR ρ T (⟨tmps, []⟩ : Act).tmps := hT
  unfold doOp at e
  split at e
  · cases hp : pureOp E T o.op with
    | none => rw [hp] at e; cases e
    | some u =>
      rw [hp] at e
      simp only [Option.some.injEq, Prod.mk.injEq] at e
      obtain ⟨rfl, rfl⟩ := e
      obtain ⟨v', h1, h2⟩ := pure_sim hE hT' hp w
      exact ⟨ρ, w, v', Post.refl hR, h2, .one (step_answers ho hw (cls_notDefer (H := H) (x := (AObj.map [] 0, Ans.ptr)) (.inl hp)) (.inl h1))⟩
  · cases hp : readOp E T H o.op with
    | some u =>
      rw [hp] at e
      simp only [Option.some.injEq, Prod.mk.injEq] at e
      obtain ⟨rfl, rfl⟩ := e
      obtain ⟨v', h1, h2⟩ := read_sim hE hT' hR hp
      exact ⟨ρ, w, v', Post.refl hR, h2, .one (step_answers ho hw (cls_notDefer (H := H) (x := (AObj.map [] 0, Ans.ptr)) (.inr (.inl hp))) (.inl h1))⟩
    | none =>
      rw [hp] at e
      simp only at e
      cases hp : pureOp E T o.op with
      | none => rw [hp] at e; cases e
      | some u =>
        rw [hp] at e
        simp only [Option.some.injEq, Prod.mk.injEq] at e
        obtain ⟨rfl, rfl⟩ := e
        obtain ⟨v', h1, h2⟩ := pure_sim hE hT' hp w
        exact ⟨ρ, w, v', Post.refl hR, h2, .one (step_answers ho hw (cls_notDefer (H := H) (x := (AObj.map [] 0, Ans.ptr)) (.inl hp)) (.inl h1))⟩
  · cases hn : newOp E T o.op with
    | none => rw [hn] at e; cases e
    | some x =>
      obtain ⟨ob, ans⟩ := x
      rw [hn] at e
      simp only [Option.some.injEq, Prod.mk.injEq] at e
      obtain ⟨rfl, rfl⟩ := e
      obtain ⟨v', obj, n, p, h1, h2, h3, h4, h5⟩ := new_sim hE hT' hn w
      have hfree : ρ H.next = none := hf _ (Nat.le_refl _) (by simp [AH.new])
      refine ⟨ρ.add H.next p, _, v', Post.alloc hR hfree ob obj p h2 n (h4.mono (Ren.ext_add hfree)), h5 _ _ (Ren.add_self _ _ _), .one (step_answers ho hw (cls_notDefer (H := H) (v := v') (.inr (.inr hn))) (.inl h1))⟩
  · exact effOp_sim hE hX hB hR hG hT ho hw e hf
theorem wanted_sim [Sy] {T : Tmps} (hT : TR ρ T tmps) {ops : Array Oper} {o : Oper} {q : Bool} (e : wantedv ops.toList T o = some q) : Region.wanted o (yielded ops tmps) = q := by
  unfold wantedv at e
  unfold Region.wanted
  cases hg : o.guard with
  | none => rw [hg] at e; simpa using e
  | some jw =>
    obtain ⟨j, want⟩ := jw
    rw [hg] at e
    simp only at e ⊢
    cases hj : ops.toList[j]? with
    | none => rw [hj] at e; cases e
    | some g =>
      rw [hj] at e
      simp only at e
      cases hd : g.dst with
      | none => rw [hd] at e; cases e
      | some d =>
        rw [hd] at e
        simp only at e
        have hj' : ops[j]? = some g := by simpa using hj
        cases ht : T.get d with
        | none => rw [ht] at e; cases e
        | some u =>
          rw [ht] at e
          obtain ⟨u', h1, h2⟩ := hT.get d u ht
          have hy : yielded ops tmps j = (match (some u' : Option Value) with | some (.bool b) => some b | _ => none) := by
            unfold yielded
            simp only [hj', Option.bind_some, hd, h1]
            cases u' <;> rfl
          rw [hy]
          cases h2 <;> simp only [Option.some.injEq, reduceCtorEq] at e <;> subst e <;> simp
theorem runOp_sim [Sy] (hE : EnvOk E P) (hX : ExtOk E P) (hB : Below' E P r) {H H' : AH} (hR : Rel ρ H w) (hG : GOk ρ E.g) {T T' : Tmps} (hT : TR ρ T tmps) {ops : Array Oper} {i : Nat} {rest : List Nat} {o : Oper} (ho : ops[i]? = some o)
    (e : runOp E r ops.toList o T H = some (T', H')) (hf : Free ρ H.next H'.next) :
    ∃ ρ' w' tmps', Post ρ H w ρ' H' w' ∧ TR ρ' T' tmps' ∧ Steps P (lone (fat b tmps (.inRegion ops (i :: rest) :: k) ds) cs w) (lone (fat b tmps' (.inRegion ops rest :: k) ds) cs w') := by
  unfold runOp at e
  split at e
  · rename_i hwv
    have hw := wanted_sim hT hwv
    split at e
    · rename_i v H2 hdo
      simp only [Option.some.injEq, Prod.mk.injEq] at e
      obtain ⟨rfl, rfl⟩ := e
      obtain ⟨ρ', w', v', h1, h2, h3⟩ := doOp_sim (b := b) (ds := ds) (k := k) (cs := cs) (rest := rest) hE hX hB hR hG hT ho hw hdo hf
      rw [fat_finish ho] at h3
      exact ⟨ρ', w', _, h1, (hT.mono h1.ext).put h2 o.dst, h3⟩
    · cases e
  · rename_i hwv
    have hw := wanted_sim hT hwv
    simp only [Option.some.injEq, Prod.mk.injEq] at e
    obtain ⟨rfl, rfl⟩ := e
    refine ⟨ρ, w, _, Post.refl hR, hT.put (v' := undef) (.tuple .nil) o.dst, .one ?_⟩
    rw [step_unwanted (by rw [ho]; simpa using hw), fat_finish ho]
    rfl
  · cases e
theorem runOps_sim [Sy] (hE : EnvOk E P) (hX : ExtOk E P) (hB : Below' E P r) {ops : Array Oper} : ∀ (os : List Oper) (i : Nat) {ρ : Ren} {H H' : AH} {w : World} {T T' : Tmps} {tmps : Array Value}, ops.toList.drop i = os → Rel ρ H w → GOk ρ E.g → TR ρ T tmps →
    runOps E r ops.toList os T H = some (T', H') → Free ρ H.next H'.next →
    (∀ {T T' : Tmps} {H H' : AH} {os : List Oper}, runOps E r ops.toList os T H = some (T', H') → H.next ≤ H'.next) →
    ∃ ρ' w' tmps', Post ρ H w ρ' H' w' ∧ TR ρ' T' tmps' ∧ Steps P (lone (fat b tmps (.inRegion ops (List.range' i os.length) :: k) ds) cs w) (lone (fat b tmps' k ds) cs w')
  | [], i, ρ, H, H', w, T, T', tmps, hdrop, hR, hG, hT, e, hf, hmono => by
    simp only [runOps, Option.some.injEq, Prod.mk.injEq] at e
    obtain ⟨rfl, rfl⟩ := e
    exact ⟨ρ, w, tmps, Post.refl hR, hT, .one step_regionEnd'⟩
  | o :: os, i, ρ, H, H', w, T, T', tmps, hdrop, hR, hG, hT, e, hf, hmono => by
    have ho : ops[i]? = some o := by
      have := congrArg (·[0]?) hdrop
      simpa using this
    simp only [runOps] at e
    split at e
    · rename_i T1 H1 h1
      have hm1 := hmono e
      obtain ⟨ρ1, w1, tmps1, g1, g2, g3⟩ := runOp_sim (b := b) (ds := ds) (k := k) (cs := cs) (rest := List.range' (i + 1) os.length) hE hX hB hR hG hT ho h1 (fun x a b => hf x a (Nat.lt_of_lt_of_le b hm1))
      have hf1 : Free ρ1 H1.next H'.next := by
        intro x a b'
        cases hx : ρ x with
        | some q =>
          have := hf x (Nat.le_trans g1.next a) b'
          rw [hx] at this; cases this
        | none =>
          cases hy : ρ1 x with
          | none => rfl
          | some q => have := g1.dom x q hx hy; omega
      obtain ⟨ρ2, w2, tmps2, k1, k2, k3⟩ := runOps_sim hE hX hB os (i + 1) (by rw [← List.drop_drop, hdrop]; rfl) g1.rel (hG.mono g1.ext) g2 e hf1 hmono
      exact ⟨ρ2, w2, tmps2, g1.trans k1, k2, by rw [List.length_cons, List.range'_succ]; exact Steps.trans g3 k3⟩
    · cases e
end
end Go.Ev
