/- What an operation comes to hangs on what it looks at alone. -/
import Derived.Test.YthbphkakekdfkaaGreatDoorEv17
namespace Go.Ev
open Go Go.RowKit
section
variable {E : Env} {P : Program} {ρ : Ren} {r : Rec}
def Agree (T T' : Tmps) (xs : List Operand) : Prop := T.g = T'.g ∧ ∀ t, Operand.tmp t ∈ xs → T.get t = T'.get t
theorem evo_agree {T T' : Tmps} {x : Operand} {xs : List Operand} (h : Agree T T' xs) (hx : x ∈ xs) : evo T x = evo T' x := by
  cases x with
  | tmp t => exact h.2 t hx
  | const v => rfl
  | global k => simp only [evo, h.1]
  | func f => rfl
theorem evs_agree [Sy] {T T' : Tmps} {xs : List Operand} (h : Agree T T' xs) : ∀ {ys : List Operand}, (∀ y ∈ ys, y ∈ xs) → evs T ys = evs T' ys
  | [], _ => rfl
  | y :: ys, hy => by
    simp only [evs, evo_agree h (hy y (by simp)), evs_agree h (ys := ys) (fun z hz => hy z (List.mem_cons_of_mem _ hz))]
theorem evps_agree [Sy] {T T' : Tmps} {xs : List Operand} (h : Agree T T' xs) : ∀ {ys : List (Nat × Operand)}, (∀ y ∈ ys, y.2 ∈ xs) → evps T ys = evps T' ys
  | [], _ => rfl
  | (i, y) :: ys, hy => by
    simp only [evps, evo_agree h (hy (i, y) (by simp)), evps_agree h (ys := ys) (fun z hz => hy z (List.mem_cons_of_mem _ hz))]
theorem Call.args_mem {c : Call} {x : Operand} (h : x ∈ c.args.toList) : x ∈ c.operands.toList := by
  unfold Call.operands
  simp at h
  cases c.callee <;> simp [h]
theorem pureOp_agree [Sy] {T T' : Tmps} {op : Op} (h : Agree T T' op.operands.toList) : pureOp E T op = pureOp E T' op := by
  have m := fun {x : Operand} (hx : x ∈ op.operands.toList) => evo_agree h hx
  cases op <;> simp only [pureOp]
  case move x => exact m (by simp [Op.operands])
  case assign x => exact m (by simp [Op.operands])
  case pick c a b => rw [m (x := c) (by simp [Op.operands]), m (x := a) (by simp [Op.operands]), m (x := b) (by simp [Op.operands])]
  case build t ps => rw [evps_agree h (ys := ps.toList) (fun y hy => by simp [Op.operands]; exact ⟨y.1, by simpa using hy⟩)]
  case nilCheck x => rw [m (x := x) (by simp [Op.operands])]
  case binOp o t x y yt => rw [m (x := x) (by simp [Op.operands]), m (x := y) (by simp [Op.operands])]
  case unOp o t x => rw [m (x := x) (by simp [Op.operands])]
  case convert s d x => rw [m (x := x) (by simp [Op.operands])]
  case makeInterface t x => rw [m (x := x) (by simp [Op.operands])]
  case makeFunc fn a b => rw [evs_agree h (ys := a.toList) (fun y hy => by simp [Op.operands]; simp at hy; exact .inl hy), evs_agree h (ys := b.toList) (fun y hy => by simp [Op.operands]; simp at hy; exact .inr hy)]
  case fieldAddr t x f => rw [m (x := x) (by simp [Op.operands])]
  case field t x f => rw [m (x := x) (by simp [Op.operands])]
  case indexAddr t x i => rw [m (x := x) (by simp [Op.operands]), m (x := i) (by simp [Op.operands])]
  case index t x i => rw [m (x := x) (by simp [Op.operands]), m (x := i) (by simp [Op.operands])]
  case typeAssert x xt t ok => rw [m (x := x) (by simp [Op.operands])]
  case extract x i => rw [m (x := x) (by simp [Op.operands])]
  case call c => rw [evs_agree h (ys := c.args.toList) (fun y hy => Call.args_mem hy)]
theorem readOp_agree [Sy] {T T' : Tmps} {H : AH} {op : Op} (h : Agree T T' op.operands.toList) : readOp E T H op = readOp E T' H op := by
  have m := fun {x : Operand} (hx : x ∈ op.operands.toList) => evo_agree h hx
  cases op <;> simp only [readOp]
  case load t x => rw [m (x := x) (by simp [Op.operands])]
  case lookup t x y ok => rw [m (x := x) (by simp [Op.operands]), m (x := y) (by simp [Op.operands])]
  case slice t x lo hi mx =>
    rw [m (x := x) (by simp [Op.operands]), evs_agree h (ys := lo.toList) (fun y hy => by simp [Op.operands]; simp at hy; simp [hy]),
      evs_agree h (ys := hi.toList) (fun y hy => by simp [Op.operands]; simp at hy; simp [hy]), evs_agree h (ys := mx.toList) (fun y hy => by simp [Op.operands]; simp at hy; simp [hy])]
  case convert s d x => rw [m (x := x) (by simp [Op.operands])]
  case entry x => rw [m (x := x) (by simp [Op.operands])]
  case call c => rw [evs_agree h (ys := c.args.toList) (fun y hy => Call.args_mem hy)]
theorem newOp_agree [Sy] {T T' : Tmps} {op : Op} (h : Agree T T' op.operands.toList) : newOp E T op = newOp E T' op := by
  have m := fun {x : Operand} (hx : x ∈ op.operands.toList) => evo_agree h hx
  cases op <;> simp only [newOp]
  case box t x => rw [m (x := x) (by simp [Op.operands])]
  case buildSlice t n ps => rw [evps_agree h (ys := ps.toList) (fun y hy => by simp [Op.operands]; exact ⟨y.1, by simpa using hy⟩)]
  case convert s d x => rw [m (x := x) (by simp [Op.operands])]
  case makeMap t r => rw [evs_agree h (ys := r.toList) (fun y hy => by simp [Op.operands]; simp at hy; exact hy)]
  case makeSlice t l c => rw [m (x := l) (by simp [Op.operands]), m (x := c) (by simp [Op.operands])]
theorem effOp_agree [Sy] {T T' : Tmps} {H : AH} {op : Op} (h : Agree T T' op.operands.toList) : effOp E r T H op = effOp E r T' H op := by
  have m := fun {x : Operand} (hx : x ∈ op.operands.toList) => evo_agree h hx
  cases op <;> simp only [effOp]
  case store t x y => rw [m (x := x) (by simp [Op.operands]), m (x := y) (by simp [Op.operands])]
  case mapUpdate t x y z => rw [m (x := x) (by simp [Op.operands]), m (x := y) (by simp [Op.operands]), m (x := z) (by simp [Op.operands])]
  case insert t x y z => rw [m (x := x) (by simp [Op.operands]), m (x := y) (by simp [Op.operands]), m (x := z) (by simp [Op.operands])]
  case range t x => rw [m (x := x) (by simp [Op.operands])]
  case next it s => rw [m (x := it) (by simp [Op.operands])]
  case call c =>
    unfold callOp
    rw [evs_agree h (ys := c.args.toList) (fun y hy => Call.args_mem hy)]
    obtain ⟨callee, cargs, ats⟩ := c
    cases callee with
    | value f => simp only; rw [m (x := f) (by simp [Op.operands, Call.operands])]
    | invoke x name => simp only; rw [m (x := x) (by simp [Op.operands, Call.operands])]
    | builtin b => cases evs T' cargs.toList with
      | none => rfl
      | some l => cases b <;> rfl
theorem doOp_agree [Sy] {T T' : Tmps} {H : AH} {op : Op} (h : Agree T T' op.operands.toList) : doOp E r op T H = doOp E r op T' H := by
  unfold doOp
  rw [pureOp_agree h, readOp_agree h, newOp_agree h, effOp_agree h]
theorem readAny_agree [Sy] {T T' : Tmps} {H : AH} {op : Op} (h : Agree T T' op.operands.toList) : readAny E T H op = readAny E T' H op := by
  unfold readAny
  rw [pureOp_agree h, readOp_agree h]
theorem looks_operand {ops : List Oper} {o : Oper} {t : Tmp} (h : Operand.tmp t ∈ o.op.operands.toList) : t ∈ looks ops o := by
  unfold looks
  refine List.mem_append_left _ (List.mem_filterMap.2 ⟨_, h, rfl⟩)
theorem looks_guard {ops : List Oper} {o g : Oper} {t : Tmp} {j : Nat} {q : Bool} (hg : o.guard = some (j, q)) (hj : ops[j]? = some g) (hd : g.dst = some t) : t ∈ looks ops o := by
  unfold looks
  refine List.mem_append_right _ ?_
  simp [hg, hj, hd]
theorem wantedv_agree [Sy] {T T' : Tmps} {ops : List Oper} {o : Oper} (h : ∀ t ∈ looks ops o, T.get t = T'.get t) : wantedv ops T o = wantedv ops T' o := by
  unfold wantedv
  cases hg : o.guard with
  | none => rfl
  | some jq =>
    obtain ⟨j, q⟩ := jq
    simp only
    cases hj : ops[j]? with
    | none => rfl
    | some g =>
      simp only
      cases hd : g.dst with
      | none => rfl
      | some d => simp only; rw [h d (looks_guard hg hj hd)]
def restr (T : Tmps) (L : List Tmp) : Tmps := ⟨T.n, T.g, L.foldr (fun t acc => acc.set t (T.get t)) .leaf⟩
theorem restr_get (T : Tmps) : ∀ (L : List Tmp) (t : Tmp), (restr T L).get t = if t ∈ L then T.get t else none
  | [], t => by simp [restr, Tmps.get, Tr.get]
  | a :: L, t => by
    have ih := restr_get T L t
    simp only [restr, Tmps.get, List.foldr_cons] at ih ⊢
    rw [Tr.get_set]
    by_cases h : t = a
    · subst h; simp
    · rw [if_neg h, ih]
      by_cases h2 : t ∈ L
      · rw [if_pos h2, if_pos (by simp [h2])]
      · rw [if_neg h2, if_neg (by simp [h2, h])]
theorem restr_agree [Sy] (T : Tmps) {ops : List Oper} {o : Oper} : Agree (restr T (looks ops o)) T o.op.operands.toList :=
  ⟨rfl, fun t ht => by rw [restr_get, if_pos (looks_operand ht)]⟩
/-! ### What surely comes ahead -/
def Pre (bs : List Nat) (i j : Nat) : Prop := (bs.getD j 0).testBit i = true
theorem one_testBit (look : Nat → Nat) (i : Nat) : ∀ (es : List Edge) (s : Nat), (es.foldl (fun s e => if Region.binds .any e then s ||| 2 ^ e.on ||| look e.on else s) s).testBit i = true →
    s.testBit i = true ∨ ∃ e ∈ es, Region.binds .any e = true ∧ (e.on = i ∨ (look e.on).testBit i = true)
  | [], s, h => .inl h
  | e :: es, s, h => by
    simp only [List.foldl_cons] at h
    rcases one_testBit look i es _ h with h1 | ⟨e', h1, h2⟩
    · by_cases hb : Region.binds .any e = true
      · rw [if_pos hb] at h1
        simp only [Nat.testBit_or, Bool.or_eq_true, Nat.testBit_two_pow, decide_eq_true_eq] at h1
        rcases h1 with (h1 | h1) | h1
        · exact .inl h1
        · exact .inr ⟨e, by simp, hb, .inl h1⟩
        · exact .inr ⟨e, by simp, hb, .inr h1⟩
      · rw [if_neg hb] at h1; exact .inl h1
    · exact .inr ⟨e', by simp [h1], h2⟩
theorem befores_spec : ∀ (os : List Oper) (j : Nat) (acc : List Nat), acc.length = j → ∃ out, befores os j acc = out.reverse ++ acc ∧ out.length = os.length ∧
    ∀ m o, os[m]? = some o → out[m]? = some (CheckFast.one (fun i => if i < j + m then (acc.reverse ++ out).getD i 0 else 0) o)
  | [], j, acc, _ => ⟨[], by simp [befores], rfl, by simp⟩
  | o :: os, j, acc, hl => by
    simp only [befores, CheckFast.force_eq]
    generalize hv : CheckFast.one (fun i => if i < j then acc.getD (j - 1 - i) 0 else 0) o = v
    obtain ⟨out, h1, h2, h3⟩ := befores_spec os (j + 1) (v :: acc) (by simp [hl])
    refine ⟨v :: out, by rw [h1]; simp, by simp [h2], ?_⟩
    intro m o' hm
    cases m with
    | zero =>
      simp only [List.getElem?_cons_zero, Option.some.injEq] at hm ⊢
      subst hm
      rw [← hv]
      congr 1
      funext i
      by_cases hi : i < j
      · rw [if_pos hi, if_pos (by omega)]
        rw [List.getD_eq_getElem?_getD, List.getD_eq_getElem?_getD, List.getElem?_append_left (by simp; omega), List.getElem?_reverse (by omega)]
        congr 2
        omega
      · rw [if_neg hi, if_neg (by omega)]
    | succ m =>
      have := h3 m o' (by simpa using hm)
      simp only [List.getElem?_cons_succ]
      rw [this]
      congr 2
      funext i
      rw [show j + 1 + m = j + (m + 1) from by omega]
      simp
theorem pre_cases [Sy] {ops : List Oper} {i j : Nat} {o : Oper} (ho : ops[j]? = some o) (h : Pre (befores ops 0 []).reverse i j) :
    ∃ e ∈ o.after.toList, Region.binds .any e = true ∧ (e.on = i ∨ (e.on < j ∧ Pre (befores ops 0 []).reverse i e.on)) := by
  obtain ⟨out, h1, h2, h3⟩ := befores_spec ops 0 [] rfl
  have hb : (befores ops 0 []).reverse = out := by rw [h1]; simp
  unfold Pre at h ⊢
  rw [hb] at h ⊢
  have hj := h3 j o ho
  rw [List.getD_eq_getElem?_getD, hj] at h
  simp only [Option.getD_some, List.reverse_nil, List.nil_append, Nat.zero_add] at h
  unfold CheckFast.one at h
  rw [← Array.foldl_toList] at h
  rcases one_testBit (fun i => if i < j then out.getD i 0 else 0) i _ _ h with h4 | ⟨e, h4, h5, h6⟩
  · simp at h4
  · refine ⟨e, h4, h5, ?_⟩
    rcases h6 with h6 | h6
    · exact .inl h6
    · by_cases hlt : e.on < j
      · rw [if_pos hlt] at h6; exact .inr ⟨hlt, h6⟩
      · rw [if_neg hlt] at h6; simp at h6
theorem pre_closed [Sy] {ops : List Oper} {S : Nat → Prop} (hS : ∀ j o, ops[j]? = some o → S j → ∀ e ∈ o.after.toList, Region.binds .any e = true → S e.on) :
    ∀ (j : Nat), ∀ i o, ops[j]? = some o → S j → Pre (befores ops 0 []).reverse i j → (∀ e, e < ops.length → True) → (∀ j' o', ops[j']? = some o' → ∀ e ∈ o'.after.toList, Region.binds .any e = true → e.on < j') → S i := by
  intro j
  induction j using Nat.strongRecOn with
  | _ j ih =>
    intro i o ho hj hp hT hlt
    obtain ⟨e, h1, h2, h3⟩ := pre_cases ho hp
    have hse := hS j o ho hj e h1 h2
    rcases h3 with h3 | ⟨h3, h4⟩
    · rw [← h3]; exact hse
    · have hel : e.on < ops.length := by
        have := (List.getElem?_eq_some_iff.1 ho).1; omega
      exact ih e.on h3 i _ (List.getElem?_eq_getElem hel) hse h4 hT hlt
theorem edgesOk_spec : ∀ {os : List Oper} {j : Nat}, edgesOk os j = true → ∀ m o, os[m]? = some o → ∀ e ∈ o.after.toList, Region.binds .any e = true → e.on < j + m
  | [], j, _, m, o, hm, _, _, _ => by simp at hm
  | o0 :: os, j, h, m, o, hm, e, he, hb => by
    simp only [edgesOk, Bool.and_eq_true] at h
    cases m with
    | zero =>
      simp only [List.getElem?_cons_zero, Option.some.injEq] at hm
      subst hm
      have := List.all_eq_true.1 h.1 e he
      rw [hb] at this
      simp only [cond_true] at this
      have := (Nat.blt_eq (x := e.on) (y := j)).mp this
      omega
    | succ m =>
      have := edgesOk_spec h.2 m o (by simpa using hm) e he hb
      omega
theorem inL_mem {d : Nat} : ∀ {L : List Nat}, inL d L = true ↔ d ∈ L
  | [] => by simp [inL]
  | x :: L => by
    simp only [inL]
    cases hx : Nat.beq x d
    · have : d ≠ x := by intro e; subst e; simp at hx
      simp only [cond_false]
      rw [inL_mem (L := L)]
      simp [this]
    · have := Nat.eq_of_beq_eq_true hx
      subst this
      simp
structure SsaR (ops : List Oper) (bs : List Nat) : Prop where
  dst : ∀ (j k : Nat) (oj ok : Oper) (d : Tmp), ops[j]? = some oj → ops[k]? = some ok → j ≠ k → ok.dst = some d → oj.dst ≠ some d
  look : ∀ (j k : Nat) (oj ok : Oper) (d : Tmp), ops[j]? = some oj → ops[k]? = some ok → j ≠ k → ok.dst = some d → d ∈ looks ops oj → Pre bs k j ∨ Pre bs j k
theorem apartAll_spec [Sy] {L : List Tmp} {dj : Option Tmp} {bs : List Nat} {j : Nat} : ∀ {os : List Oper} {k0 : Nat}, apartAll L dj bs j os k0 = true → ∀ (m : Nat) (ok : Oper) (d : Tmp), os[m]? = some ok → k0 + m ≠ j → ok.dst = some d →
    dj ≠ some d ∧ (d ∈ L → Pre bs (k0 + m) j ∨ Pre bs j (k0 + m))
  | [], k0, _, m, ok, d, hm, _, _ => by simp at hm
  | o :: os, k0, h, m, ok, d, hm, hne, hd => by
    simp only [apartAll, Bool.and_eq_true] at h
    cases m with
    | zero =>
      simp only [List.getElem?_cons_zero, Option.some.injEq] at hm
      subst hm
      have h1 := h.1
      have hk : Nat.beq k0 j = false := by
        cases hb : Nat.beq k0 j with
        | false => rfl
        | true => exact (hne (by have := Nat.eq_of_beq_eq_true hb; omega)).elim
      rw [hk] at h1
      simp only [cond_false, apartv, hd, Bool.and_eq_true] at h1
      refine ⟨?_, ?_⟩
      · intro e
        rw [e] at h1
        simp at h1
      · intro hmem
        have h2 := h1.2
        rw [inL_mem.2 hmem] at h2
        simp only [cond_true, Bool.or_eq_true] at h2
        exact h2
    | succ m =>
      have := apartAll_spec h.2 m ok d (by simpa using hm) (by omega) hd
      rw [show k0 + (m + 1) = k0 + 1 + m from by omega]
      exact this
theorem ssaOk_spec' {ops : List Oper} {bs : List Nat} : ∀ {os : List Oper} {j0 : Nat}, ssaOk ops bs os j0 = true → ∀ m oj, os[m]? = some oj → apartAll (looks ops oj) oj.dst bs (j0 + m) ops 0 = true
  | [], _, _, m, oj, hm => by simp at hm
  | o :: os, j0, h, m, oj, hm => by
    simp only [ssaOk, Bool.and_eq_true] at h
    cases m with
    | zero =>
      simp only [List.getElem?_cons_zero, Option.some.injEq] at hm
      subst hm; exact h.1
    | succ m =>
      have := ssaOk_spec' h.2 m oj (by simpa using hm)
      rw [show j0 + (m + 1) = j0 + 1 + m from by omega]; exact this
theorem ssaOk_spec [Sy] {ops : List Oper} {bs : List Nat} (h : ssaOk ops bs ops 0 = true) : SsaR ops bs where
  dst := fun j k oj ok d hj hk hne hd => by
    have := apartAll_spec (ssaOk_spec' h j oj hj) k ok d hk (by omega) hd
    exact this.1
  look := fun j k oj ok d hj hk hne hd hl => by
    have := apartAll_spec (ssaOk_spec' h j oj hj) k ok d hk (by omega) hd
    simpa using this.2 hl
theorem chainOk_spec {bs : List Nat} : ∀ {os : List Oper} {j0 : Nat} {es : List Nat}, chainOk E bs os j0 es = true → ∀ m oj, os[m]? = some oj → cls E oj.op = 3 →
    (∀ i ∈ es, Pre bs i (j0 + m)) ∧ (∀ l ol, l < m → os[l]? = some ol → cls E ol.op = 3 → Pre bs (j0 + l) (j0 + m))
  | [], _, _, _, m, oj, hm, _ => by simp at hm
  | o :: os, j0, es, h, m, oj, hm, hc => by
    simp only [chainOk] at h
    cases hb : Nat.beq (cls E o.op) 3
    · rw [hb] at h
      simp only [cond_false] at h
      cases m with
      | zero =>
        simp only [List.getElem?_cons_zero, Option.some.injEq] at hm
        subst hm; rw [hc] at hb; cases hb
      | succ m =>
        obtain ⟨h1, h2⟩ := chainOk_spec h m oj (by simpa using hm) hc
        rw [show j0 + (m + 1) = j0 + 1 + m from by omega]
        refine ⟨h1, fun l ol hl hol hcl => ?_⟩
        cases l with
        | zero =>
          simp only [List.getElem?_cons_zero, Option.some.injEq] at hol
          subst hol; rw [hcl] at hb; cases hb
        | succ l =>
          have := h2 l ol (by omega) (by simpa using hol) hcl
          rw [show j0 + (l + 1) = j0 + 1 + l from by omega]; exact this
    · rw [hb] at h
      simp only [cond_true, Bool.and_eq_true] at h
      cases m with
      | zero =>
        simp only [List.getElem?_cons_zero, Option.some.injEq] at hm
        subst hm
        exact ⟨fun i hi => List.all_eq_true.1 h.1 i hi, fun l ol hl => by omega⟩
      | succ m =>
        obtain ⟨h1, h2⟩ := chainOk_spec h.2 m oj (by simpa using hm) hc
        rw [show j0 + (m + 1) = j0 + 1 + m from by omega]
        refine ⟨fun i hi => h1 i (by simp [hi]), fun l ol hl hol hcl => ?_⟩
        cases l with
        | zero => exact h1 j0 (by simp)
        | succ l =>
          have := h2 l ol (by omega) (by simpa using hol) hcl
          rw [show j0 + (l + 1) = j0 + 1 + l from by omega]; exact this
end
end Go.Ev
