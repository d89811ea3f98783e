/- Operations that touch no memory: all of them together. -/
import Derived.Test.YthbphkakekdfkaaGreatDoorEv6
namespace Go.Ev
open Go Go.RowKit
section
variable {E : Env} {P : Program} {ρ : Ren}
theorem add_none (c o n : Nat) : (⟨c, o, none⟩ : Addr).add n = ⟨c, o + n, none⟩ := by
  unfold Addr.add
  split
  · rename_i h0; rw [h0]; rfl
  · rfl
theorem fieldOf_some {t : TypeId} {f : Nat} {fd : Field} (e : fieldOf E t f = some fd) : ∃ i fs, E.ty.get t = some i ∧ i.u = .struct fs ∧ fs[f]? = some fd := by
  unfold fieldOf at e
  split at e
  · rename_i i hi
    split at e
    · rename_i fs hu; exact ⟨i, fs, hi, hu, by simpa using e⟩
    · cases e
  · cases e
theorem fieldAddrv_sim [Sy] (hE : EnvOk E P) {t : TypeId} {x x' r : Value} {f : Nat} (hx : VR ρ x x') (e : fieldAddrv E t x f = some r) (w : World) :
    ∃ r', (Instr.fieldAt t x' f).run P w = .ok r' w ∧ VR ρ r r' := by
  unfold fieldAddrv at e
  split at e
  · rename_i fd a hf
    obtain ⟨i, fs, hi, hu, hfd⟩ := fieldOf_some hf
    split at e
    · rename_i j hj
      obtain ⟨hz, e⟩ := bif_none e
      cases e
      cases hx with
      | @ptr b o p hb =>
        have hz' : ¬ j.size = 0 := by intro e; rw [e] at hz; cases hz
        refine ⟨.pointer (some ⟨p.c, p.d + (o + fd.offset), none⟩), ?_, .ptr hb⟩
        unfold Instr.fieldAt
        rw [bind_ok (hE.under hi w), hu]
        simp only [hfd]
        simp only [Instr.sureAddr, Sem.run_bind, Sem.run_pure, Result.andThen_ok]
        unfold fieldPlace
        simp only [Sem.run_bind, hE.sizeOf hj, Result.andThen_ok, if_neg hz', Sem.run_pure, add_none, Nat.add_assoc]
    · cases e
  · cases e
theorem fieldv_sim [Sy] (hE : EnvOk E P) {t : TypeId} {x x' r : Value} {f : Nat} (hx : VR ρ x x') (e : fieldv E t x f = some r) (w : World) :
    ∃ r', (Instr.field t x' f).run P w = .ok r' w ∧ VR ρ r r' := by
  unfold fieldv at e
  split at e
  · rename_i fd cs hf
    obtain ⟨i, fs, hi, hu, hfd⟩ := fieldOf_some hf
    cases hx with
    | @agg l l' h =>
      obtain ⟨r', hr, hv⟩ := part_sim hE h e w
      refine ⟨r', ?_, hv⟩
      unfold Instr.field
      rw [bind_ok (hE.under hi w), hu]
      simp only [hfd]
      simp only [asAgg, Sem.run_bind, Sem.run_pure, Result.andThen_ok]
      exact hr
  · cases e
theorem indexAddrv_sim [Sy] (hE : EnvOk E P) {t : TypeId} {x ix x' ix' r : Value} (hx : VR ρ x x') (hi' : VR ρ ix ix') (e : indexAddrv E t x ix = some r) (w : World) :
    ∃ r', (Instr.indexAt t x' ix').run P w = .ok r' w ∧ VR ρ r r' := by
  unfold indexAddrv at e
  split at e
  · cases e
  · rename_i i hi
    obtain ⟨inf, hinf, hund, _⟩ := hE.ty t i hi
    split at e
    · rename_i n el a k q hu
      rw [hu] at hund
      split at e
      · rename_i j hj
        split at e
        · rename_i hk
          cases e
          cases hi'
          cases hx with
          | @ptr b o p hb =>
            refine ⟨.pointer (some ⟨p.c, p.d + (o + q.toNat * j.size), none⟩), ?_, .ptr hb⟩
            unfold Instr.indexAt
            simp only [asIntOf, Sem.run_bind, Sem.run_pure, Result.andThen_ok, run_underlying hund, Instr.sureAddr, hE.sizeOf hj, if_pos hk, add_none, Nat.add_assoc]
        · cases e
      · cases e
    · rename_i el a len c k q hu
      rw [hu] at hund
      split at e
      · rename_i j hj
        split at e
        · rename_i hk
          cases e
          cases hi'
          cases hx with
          | @sl b o n c c' p hb h0 h1 h2 =>
            refine ⟨.pointer (some ⟨p.c, p.d + (o + q.toNat * j.size), none⟩), ?_, .ptr hb⟩
            unfold Instr.indexAt
            simp only [asIntOf, Sem.run_bind, Sem.run_pure, Result.andThen_ok, run_underlying hund, hE.sizeOf hj, if_pos hk, add_none, Nat.add_assoc]
        · cases e
      · cases e
    · cases e
theorem indexv_sim [Sy] (hE : EnvOk E P) {t : TypeId} {x ix x' ix' r : Value} (hx : VR ρ x x') (hi' : VR ρ ix ix') (e : indexv E t x ix = some r) (w : World) :
    ∃ r', (Instr.index t x' ix').run P w = .ok r' w ∧ VR ρ r r' := by
  unfold indexv at e
  split at e
  · cases e
  · rename_i i hi
    obtain ⟨inf, hinf, hund, _⟩ := hE.ty t i hi
    split at e
    · rename_i n el cs k q hu
      rw [hu] at hund
      split at e
      · rename_i j hj
        split at e
        · rename_i hk
          cases hi'
          cases hx with
          | @agg l l' h =>
            obtain ⟨r', hr, hv⟩ := part_sim hE h e w
            refine ⟨r', ?_, hv⟩
            unfold Instr.index
            simp only [asIntOf, Sem.run_bind, Sem.run_pure, Result.andThen_ok, run_underlying hund, hE.sizeOf hj, if_pos hk]
            exact hr
        · cases e
      · cases e
    · rename_i s k q hu
      rw [hu] at hund
      split at e
      · rename_i hk
        split at e
        · rename_i b hb
          cases e
          cases hi'
          cases hx
          refine ⟨.int .u8 b.toNat, ?_, .int _ _⟩
          unfold Instr.index
          have hg : s[q.toNat]? = some b := by
            have h1 : s.data[q.toNat]? = some b := by simpa using hb
            obtain ⟨hlt, hv⟩ := Array.getElem?_eq_some_iff.1 h1
            rw [getElem?_pos s q.toNat (by simpa using hlt)]
            exact congrArg some hv
          simp only [asIntOf, Sem.run_bind, Sem.run_pure, Result.andThen_ok, run_underlying hund, if_pos hk, hg]
        · cases e
      · cases e
    · cases e
theorem extractv_sim [Sy] {x x' r : Value} {k : Nat} (hx : VR ρ x x') (e : extractv x k = some r) (w : World) :
    ∃ r', (Instr.extract x' k).run P w = .ok r' w ∧ VR ρ r r' := by
  unfold extractv at e
  split at e
  · cases hx with
    | @tuple l l' h =>
      obtain ⟨r', hr, hv⟩ := h.get e
      exact ⟨r', by simp [Instr.extract, hr], hv⟩
  · cases e
theorem ifacev_sim [Sy] (hE : EnvOk E P) {t : TypeId} {x x' r : Value} (hx : VR ρ x x') (e : ifacev E t x = some r) (w : World) :
    ∃ r', (Instr.makeInterface t x').run P w = .ok r' w ∧ VR ρ r r' := by
  unfold ifacev at e
  split at e
  · rename_i i hi
    obtain ⟨hb, e⟩ := bif_none e
    cases e
    refine ⟨_, ?_, .iface t hx⟩
    unfold Instr.makeInterface
    rw [bind_ok (hE.under hi w)]
    cases hu : i.u <;> simp only [Sem.run_pure]
    rw [hu] at hb; cases hb
  · cases e
theorem assertZ_sim [Sy] (hE : EnvOk E P) {t xt : TypeId} {i : TyI} {r : Value} (hi : E.ty.get t = some i) (hb : isIface i.u = false) {x' : Value}
    (hx : x' = .nilIface ∨ ∃ u v, x' = .iface u v ∧ u ≠ t)
    (e : (match i.zero with | some z => bif clean z then some (.tuple #[z, .bool false]) else none | none => none) = some r) (w : World) :
    ∃ r', (Instr.typeAssert x' xt t true).run P w = .ok r' w ∧ VR ρ r r' := by
  have hu := hE.under hi
  cases hz : i.zero with
  | none => rw [hz] at e; simp only [reduceCtorEq] at e
  | some z =>
    rw [hz] at e
    simp only at e
    have hcl := (bif_some e).1
    have e2 := (bif_some e).2
    simp only [Option.some.injEq] at e2
    subst e2
    refine ⟨.tuple #[z, .bool false], ?_, .tuple (.cons (VR.clean hcl) (.cons (.bool _) .nil))⟩
    unfold Instr.typeAssert
    simp only [Sem.run_bind, hu, Result.andThen_ok]
    rcases hx with rfl | ⟨u, v, rfl, hne⟩
    · cases hd : i.u <;> first
        | (rw [hd] at hb; cases hb; done)
        | (simp only [Sem.run_bind, hE.zero hi hz, Result.andThen_ok, Sem.run_pure, if_true])
    · cases hd : i.u <;> first
        | (rw [hd] at hb; cases hb; done)
        | (simp only [if_neg hne, Sem.run_bind, hE.zero hi hz, Result.andThen_ok, Sem.run_pure, if_true])
theorem assertv_sim [Sy] (hE : EnvOk E P) {t xt : TypeId} {ok : Bool} {x x' r : Value} (hx : VR ρ x x') (e : assertv E x t ok = some r) (w : World) :
    ∃ r', (Instr.typeAssert x' xt t ok).run P w = .ok r' w ∧ VR ρ r r' := by
  unfold assertv at e
  cases hi : E.ty.get t with
  | none => rw [hi] at e; cases e
  | some i =>
    rw [hi] at e
    simp only at e
    have hb := (bif_none e).1
    have e2 := (bif_none e).2
    clear e
    have hu := hE.under hi
    cases hx with
    | nilIface =>
      simp only at e2
      have hok := (bif_some e2).1
      have e3 := (bif_some e2).2
      subst hok
      exact assertZ_sim hE hi hb (.inl rfl) e3 w
    | @iface u v v' h =>
      simp only at e2
      cases hut : Nat.beq u t
      · rw [hut] at e2
        simp only [cond_false] at e2
        have hok := (bif_some e2).1
        have e3 := (bif_some e2).2
        subst hok
        exact assertZ_sim hE hi hb (.inr ⟨u, v', rfl, by intro e; subst e; simp at hut⟩) e3 w
      · rw [hut] at e2
        simp only [cond_true, Option.some.injEq] at e2
        subst e2
        have hut' := Nat.eq_of_beq_eq_true hut
        subst hut'
        refine ⟨if ok = true then .tuple #[v', .bool true] else v', ?_, ?_⟩
        · unfold Instr.typeAssert
          simp only [Sem.run_bind, hu, Result.andThen_ok]
          cases hd : i.u <;> first
            | (rw [hd] at hb; cases hb; done)
            | (simp only [if_true, Sem.run_pure])
        · cases ok
          · exact h
          · exact .tuple (.cons h (.cons (.bool _) .nil))
    | _ => simp only [reduceCtorEq] at e2
theorem lenv_sim [Sy] (hE : EnvOk E P) {t : TypeId} {x x' r : Value} {ats : Array TypeId} {ty : TypeId} (hx : VR ρ x x') (ha : ats[0]? = some t) (e : lenv E t x = some r) (w : World) :
    ∃ r', (Builtin.len_ ats ty #[x']).run P w = .ok r' w ∧ VR ρ r r' := by
  unfold lenv at e
  split at e
  · cases e
  · rename_i i hi
    obtain ⟨inf, hinf, hund, _⟩ := hE.ty t i hi
    unfold Builtin.len_
    simp only [ha, List.size_toArray, List.length_cons, List.length_nil, Nat.zero_add, Nat.lt_add_one, getElem?_pos]
    simp only [Sem.run_bind, run_underlying hund, Result.andThen_ok]
    split at e
    · rename_i hu; cases e; cases hx; rw [hu]; exact ⟨_, rfl, .int _ _⟩
    · rename_i hu; cases e; rw [hu]; exact ⟨_, rfl, .int _ _⟩
    · rename_i hu; cases e; rw [hu]; cases hx <;> exact ⟨_, rfl, .int _ _⟩
    · rename_i hu; cases e; cases hx; rw [hu]; exact ⟨_, rfl, .int _ _⟩
    · cases e
theorem maxv_sim [Sy] {x y x' y' r : Value} (hx : VR ρ x x') (hy : VR ρ y y') (e : maxv x y = some r) (w : World) : ∃ r', (Builtin.max2 x' y').run P w = .ok r' w ∧ VR ρ r r' := by
  unfold maxv at e
  split at e
  · cases e; cases hx; cases hy; exact ⟨_, rfl, .int _ _⟩
  · cases e
theorem minv_sim [Sy] {x y x' y' r : Value} (hx : VR ρ x x') (hy : VR ρ y y') (e : minv x y = some r) (w : World) : ∃ r', (Builtin.min2 x' y').run P w = .ok r' w ∧ VR ρ r r' := by
  unfold minv at e
  split at e
  · cases e; cases hx; cases hy; exact ⟨_, rfl, .int _ _⟩
  · cases e
theorem foldv_sim [Sy] {f : Value → Value → Option Value} {g : Value → Value → Sem Value} (hfg : ∀ {x y x' y' r : Value}, VR ρ x x' → VR ρ y y' → f x y = some r → ∀ w : World, ∃ r', (g x' y').run P w = .ok r' w ∧ VR ρ r r') :
    ∀ {l l' : List Value} {x x' r : Value}, VR ρ x x' → VRs ρ l l' → foldv f x l = some r → ∀ w : World, ∃ r', (l'.foldlM g x').run P w = .ok r' w ∧ VR ρ r r'
  | _, _, x, x', r, hx, .nil, e, w => by simp only [foldv, Option.some.injEq] at e; subst e; exact ⟨x', rfl, hx⟩
  | _, _, x, x', r, hx, .cons h t, e, w => by
    simp only [foldv] at e
    split at e
    · rename_i z hz
      obtain ⟨z', g1, g2⟩ := hfg hx h hz w
      obtain ⟨r', k1, k2⟩ := foldv_sim hfg g2 t e w
      refine ⟨r', ?_, k2⟩
      rw [List.foldlM_cons, bind_ok g1]; exact k1
    · cases e
theorem foldl_setL (l : List Value) (off : Nat) : ∀ (k : Nat) (cs : Array Value), off + k + l.length ≤ cs.size → ∀ n : Nat,
    ((l.zipIdx k).foldl (fun cs (c, j) => cs.setIfInBounds (off + j) c) cs)[n]? = if off + k ≤ n ∧ n < off + k + l.length then l[n - (off + k)]? else cs[n]? := by
  induction l with
  | nil => intro k cs h n; simp; intro h1 h2; omega
  | cons a l ih =>
    intro k cs h n
    simp only [List.length_cons] at h
    simp only [List.zipIdx_cons, List.foldl_cons]
    rw [ih (k + 1) _ (by simp; omega)]
    simp only [List.length_cons]
    by_cases h1 : off + (k + 1) ≤ n ∧ n < off + (k + 1) + l.length
    · rw [if_pos h1, if_pos (by omega)]
      obtain ⟨m, rfl⟩ : ∃ m, n = off + (k + 1) + m := ⟨n - (off + (k + 1)), by omega⟩
      rw [show off + (k + 1) + m - (off + (k + 1)) = m from by omega, show off + (k + 1) + m - (off + k) = m + 1 from by omega]
      simp
    · rw [if_neg h1, Array.getElem?_setIfInBounds]
      by_cases h2 : off + k = n
      · subst h2
        rw [if_pos rfl, if_pos (by omega), if_pos (by omega)]
        simp
      · rw [if_neg h2, if_neg (by omega)]
theorem getElem?_splice (cs v : List Value) (off n : Nat) (h : off + v.length ≤ cs.length) :
    (cs.take off ++ v ++ cs.drop (off + v.length))[n]? = if off ≤ n ∧ n < off + v.length then v[n - off]? else cs[n]? := by
  have ht : (cs.take off).length = off := by simp; omega
  by_cases h1 : n < off
  · rw [if_neg (by omega), List.append_assoc, List.getElem?_append_left (by omega), List.getElem?_take, if_pos h1]
  · by_cases h2 : n < off + v.length
    · rw [if_pos (by omega), List.append_assoc, List.getElem?_append_right (by omega), ht, List.getElem?_append_left (by omega)]
    · rw [if_neg (by omega), List.getElem?_append_right (by simp; omega)]
      simp only [List.length_append, ht, List.getElem?_drop]
      congr 1; omega
theorem foldl_set [Sy] (v : Array Value) (cs : List Value) (off : Nat) (h : off + v.size ≤ cs.length) :
    (v.zipIdx.foldl (fun cs (c, j) => cs.setIfInBounds (off + j) c) (⟨cs⟩ : Array Value)) = ⟨cs.take off ++ v.toList ++ cs.drop (off + v.size)⟩ := by
  have := foldl_setL v.toList off 0 ⟨cs⟩ (by simpa using h)
  rw [← Array.foldl_toList, Array.toList_zipIdx]
  apply Array.ext_getElem?
  intro n
  rw [this n]
  have h2 := getElem?_splice cs v.toList off n (by simpa using h)
  simp only [Array.length_toList] at h2
  simp only [List.getElem?_toArray, Nat.add_zero, Array.length_toList]
  exact h2.symm
theorem fillv_sim [Sy] {place place' : Nat → Option (Nat × Nat)} (hp : ∀ i q, place i = some q → place' i = some q) :
    ∀ {vs vs' : List (Nat × Value)} {cs cs' out : List Value}, VRs ρ cs cs' → (vs.map (·.1) = vs'.map (·.1)) → VRs ρ (vs.map (·.2)) (vs'.map (·.2)) → fillv place cs vs = some out →
    ∃ out', Instr.fill place' ⟨cs'⟩ vs' = some ⟨out'⟩ ∧ VRs ρ out out'
  | [], [], cs, cs', out, hc, _, _, e => by simp only [fillv, Option.some.injEq] at e; subst e; exact ⟨cs', by simp [Instr.fill], hc⟩
  | [], _ :: _, _, _, _, _, h, _, _ => by simp at h
  | _ :: _, [], _, _, _, _, h, _, _ => by simp at h
  | (i, v) :: vs, (i', v') :: vs', cs, cs', out, hc, hk, hv, e => by
    simp only [List.map_cons, List.cons.injEq] at hk
    obtain ⟨hk1, hk2⟩ := hk
    subst hk1
    cases hv with
    | cons hv1 hv2 =>
    simp only [fillv] at e
    split at e
    · cases e
    · rename_i off size hpl
      obtain ⟨hb, e⟩ := bif_some e
      simp only [Bool.and_eq_true] at hb
      have h1 := Nat.eq_of_beq_eq_true hb.1
      have h2 := Nat.le_of_ble_eq_true hb.2
      have hcells := hv1.cellsOf
      have hlen := hcells.length
      have hsz : v'.cells.size = size := by rw [← h1, ← hlen]; simp
      have hcl := hc.length
      simp only [Instr.fill, hp _ _ hpl]
      have hno : ¬ (v'.cells.size ≠ size || decide (off + v'.cells.size > (⟨cs'⟩ : Array Value).size)) = true := by
        simp [hsz]; omega
      simp only [hno, Bool.false_eq_true, if_false]
      have hst := foldl_set v'.cells cs' off (by omega)
      have hlen' : v'.cells.size = (cellsOf v).length := by rw [← hlen]; simp
      rw [hst, hlen']
      exact fillv_sim hp (((hc.take off).append hcells).append (hc.drop _)) hk2 hv2 e
theorem places_sim [Sy] (hE : EnvOk E P) (w : World) : ∀ {fs : List Field}, allTy E fs = true → ∃ q : List (Nat × Nat),
    (fs.mapM fun f => do pure (f.offset, ← Go.sizeOf f.type) : Sem (List (Nat × Nat))).run P w = .ok q w ∧ ∀ i x, structPlace E fs i = some x → q[i]? = some x
  | [], _ => ⟨[], rfl, fun i x e => by simp [structPlace] at e⟩
  | f :: fs, h => by
    simp only [allTy, List.all_cons, Bool.and_eq_true] at h
    obtain ⟨j, hj⟩ := Option.isSome_iff_exists.1 h.1
    obtain ⟨q, hq, hq2⟩ := places_sim hE w (fs := fs) h.2
    refine ⟨(f.offset, j.size) :: q, ?_, ?_⟩
    · rw [List.mapM_cons]
      simp only [Sem.run_bind, hE.sizeOf hj, Result.andThen_ok, Sem.run_pure, hq]
    · intro i x e
      cases i with
      | zero => simp only [structPlace, List.getElem?_cons_zero, hj, Option.some.injEq] at e; subst e; rfl
      | succ i => exact hq2 i x (by simpa [structPlace] using e)
theorem buildv_sim [Sy] (hE : EnvOk E P) {t : TypeId} {vs vs' : List (Nat × Value)} {r : Value} (hk : vs.map (·.1) = vs'.map (·.1)) (hv : VRs ρ (vs.map (·.2)) (vs'.map (·.2)))
    (e : buildv E t vs = some r) (w : World) : ∃ r', (Instr.build t ⟨vs'⟩).run P w = .ok r' w ∧ VR ρ r r' := by
  unfold buildv at e
  cases hi : E.ty.get t with
  | none => rw [hi] at e; cases e
  | some i =>
    rw [hi] at e
    simp only at e
    cases hz : i.zero with
    | none => rw [hz] at e; cases e
    | some z =>
      rw [hz] at e
      simp only at e
      have hcl := (bif_some e).1
      have e2 := (bif_some e).2
      clear e
      have hzv := (VR.clean (ρ := ρ) hcl).cellsOf
      unfold Instr.build
      rw [bind_ok (hE.zero hi hz w)]
      rw [bind_ok (hE.under hi w)]
      cases hu : i.u <;> rw [hu] at e2 <;> simp only [reduceCtorEq] at e2
      case struct fs =>
        have hat := (bif_some e2).1
        have e3 := (bif_some e2).2
        clear e2
        obtain ⟨q, hq, hq2⟩ := places_sim hE w hat
        cases hf : fillv (structPlace E fs.toList) (cellsOf z) vs with
        | none => rw [hf] at e3; cases e3
        | some cs =>
          rw [hf] at e3
          simp only [Option.some.injEq] at e3
          subst e3
          obtain ⟨out', h1, h2⟩ := fillv_sim (place' := fun i => (⟨q⟩ : Array (Nat × Nat))[i]?) (fun i x e => by simpa using hq2 i x e) hzv hk hv hf
          refine ⟨.agg ⟨out'⟩, ?_, .agg h2⟩
          simp only [Array.mapM_eq_mapM_toList, Sem.run_bind, Sem.run_map, hq, Result.andThen_ok]
          have h1' : Instr.fill (fun x => (q.toArray)[x]?) z.cells vs' = some ⟨out'⟩ := by
            simpa using h1
          simp only [h1', Sem.run_pure]
      case array n el =>
        cases hj : E.ty.get el with
        | none => rw [hj] at e2; cases e2
        | some j =>
          rw [hj] at e2
          simp only at e2
          cases hf : fillv (fun k => some (k * j.size, j.size)) (cellsOf z) vs with
          | none => rw [hf] at e2; cases e2
          | some cs =>
            rw [hf] at e2
            simp only [Option.some.injEq] at e2
            subst e2
            obtain ⟨out', h1, h2⟩ := fillv_sim (place' := fun k => some (k * j.size, j.size)) (fun i x e => e) hzv hk hv hf
            refine ⟨.agg ⟨out'⟩, ?_, .agg h2⟩
            simp only [Sem.run_bind, hE.sizeOf hj, Result.andThen_ok]
            have h1' : Instr.fill (fun k => some (k * j.size, j.size)) z.cells vs' = some ⟨out'⟩ := by simpa using h1
            simp only [h1', Sem.run_pure]
theorem nilCheckv_sim [Sy] {x x' r : Value} {a : Act} {y : Operand} {o : Oper} (hx : VR ρ x x') (e : nilCheckv x = some r) (hop : o.op = .nilCheck y) (hy : a.eval y = x') (w : World) :
    (execOp a.eval o).run P w = .ok (.value x') w ∧ VR ρ r x' := by
  unfold execOp
  rw [hop]
  simp only [hy]
  cases hx <;> simp only [nilCheckv, reduceCtorEq, Option.some.injEq] at e
  case ptr h => subst e; exact ⟨rfl, .ptr h⟩
  case iface t v v' h => subst e; exact ⟨rfl, .iface t h⟩
  case yield l p h => subst e; exact ⟨rfl, .yield h⟩
  case func fn fs fs' cs cs' hn hf hc =>
    cases fn <;> simp only [reduceCtorEq, Option.some.injEq] at e
    · subst e; exact ⟨rfl, .func _ hn hf hc⟩
    · exact (hn _ rfl).elim
theorem evps_sim [Sy] {T : Tmps} {a : Act} (h : TR ρ T a.tmps) : ∀ {xs : List (Nat × Operand)} {vs : List (Nat × Value)}, evps T xs = some vs →
    vs.map (·.1) = (xs.map fun (i, x) => (i, a.eval x)).map (·.1) ∧ VRs ρ (vs.map (·.2)) ((xs.map fun (i, x) => (i, a.eval x)).map (·.2))
  | [], vs, e => by simp only [evps, Option.some.injEq] at e; subst e; exact ⟨rfl, .nil⟩
  | (i, x) :: xs, vs, e => by
    simp only [evps] at e
    cases hv : evo T x with
    | none => rw [hv] at e; cases e
    | some v =>
      rw [hv] at e
      simp only at e
      cases hvs : evps T xs with
      | none => rw [hvs] at e; cases e
      | some vs' =>
        rw [hvs] at e
        simp only [Option.some.injEq] at e
        subst e
        obtain ⟨h1, h2⟩ := evps_sim h hvs
        exact ⟨by simp only [List.map_cons]; rw [h1], .cons (evo_sim h hv) h2⟩
theorem evs_head [Sy] {T : Tmps} {a : Act} (h : TR ρ T a.tmps) {x : Option Operand} {vs : List Value} (e : evs T x.toList = some vs) : OVR ρ vs.head? (x.map a.eval) := by
  cases x with
  | none => simp only [Option.toList, evs, Option.some.injEq] at e; subst e; exact .none
  | some x =>
    have := evs_sim h e
    cases vs with
    | nil => cases this
    | cons v vs => cases this with | cons h1 h2 => exact .some h1
set_option maxHeartbeats 1000000 in
theorem pure_sim [Sy] (hE : EnvOk E P) {T : Tmps} {a : Act} (h : TR ρ T a.tmps) {o : Oper} {v : Value} (e : pureOp E T o.op = some v) (w : World) :
    ∃ v', (execOp a.eval o).run P w = .ok (.value v') w ∧ VR ρ v v' := by
  obtain ⟨dst, op, type, pos, after, guard⟩ := o
  have lift : ∀ {s : Sem Value}, (∃ r', s.run P w = .ok r' w ∧ VR ρ v r') → ∃ v', (do pure (.value (← s)) : Sem Next).run P w = .ok (.value v') w ∧ VR ρ v v' := by
    rintro s ⟨r', h1, h2⟩
    exact ⟨r', by simp [h1], h2⟩
  cases op <;> simp only [pureOp, reduceCtorEq] at e
  case move x => exact ⟨_, rfl, evo_sim h e⟩
  case assign x => exact ⟨_, rfl, evo_sim h e⟩
  case pick c x y =>
    split at e
    · rename_i t u v hc hx hy
      simp only [Option.some.injEq] at e
      subst e
      have h1 := evo_sim h hc
      cases hh : a.eval c <;> rw [hh] at h1 <;> cases h1
      cases t
      · refine ⟨a.eval y, ?_, evo_sim h hy⟩
        simp [execOp, hh, asBool]
      · refine ⟨a.eval x, ?_, evo_sim h hx⟩
        simp [execOp, hh, asBool]
    · cases e
  case build t ps =>
    split at e
    · rename_i vs hvs
      obtain ⟨h1, h2⟩ := evps_sim h hvs
      have := buildv_sim hE h1 h2 e w
      refine lift ?_
      have e1 : (ps.map fun (i, x) => (i, a.eval x)) = ⟨ps.toList.map fun (i, x) => (i, a.eval x)⟩ := by apply Array.ext'; simp
      rw [e1]; exact this
    · cases e
  case nilCheck x =>
    split at e
    · rename_i u hu
      have := nilCheckv_sim (P := P) (a := a) (o := ⟨dst, .nilCheck x, type, pos, after, guard⟩) (evo_sim h hu) e rfl rfl w
      exact ⟨_, this.1, this.2⟩
    · cases e
  case binOp op t x y yt =>
    split at e
    · rename_i u1 u2 h1 h2
      split at e
      · rename_i r0 hb
        cases e
        exact lift (binv_sim hE (evo_sim h h1) (evo_sim h h2) hb w)
      · split at e
        · rename_i r0 hb
          cases e
          exact lift (nilv_sim hE (evo_sim h h1) (evo_sim h h2) hb w)
        · exact lift (hE.orc _ _ _ _ e ρ a x y (evo_sim h h1) (evo_sim h h2) t w)
    · cases e
  case unOp op t x =>
    split at e
    · rename_i u hu
      obtain ⟨h1, h2⟩ := unary_pure op (evo_sim h hu) e
      refine lift ⟨v, ?_, h2⟩
      show (Op.unary op (a.eval x)).run P w = _
      rw [h1]; exact pureOf_run e w
    · cases e
  case convert s d x =>
    split at e
    · rename_i u hu; exact lift (convv_sim hE (evo_sim h hu) e w)
    · cases e
  case makeInterface t x =>
    split at e
    · rename_i u hu; exact lift (ifacev_sim hE (evo_sim h hu) e w)
    · cases e
  case makeFunc fn fs cs =>
    split at e
    · cases e
    · rename_i l m hn hl hm
      simp only [Option.some.injEq] at e
      subst e
      refine lift ⟨_, rfl, ?_⟩
      have h1 := evs_sim h hl
      have h2 := evs_sim h hm
      have e1 : fs.map a.eval = ⟨fs.toList.map a.eval⟩ := by apply Array.ext'; simp
      have e2 : cs.map a.eval = ⟨cs.toList.map a.eval⟩ := by apply Array.ext'; simp
      rw [e1, e2]
      exact .func _ (fun l e => hn l e) h1 h2
    · cases e
  case fieldAddr t x f =>
    split at e
    · rename_i u hu; exact lift (fieldAddrv_sim hE (evo_sim h hu) e w)
    · cases e
  case field t x f =>
    split at e
    · rename_i u hu; exact lift (fieldv_sim hE (evo_sim h hu) e w)
    · cases e
  case indexAddr t x i =>
    split at e
    · rename_i u1 u2 h1 h2; exact lift (indexAddrv_sim hE (evo_sim h h1) (evo_sim h h2) e w)
    · cases e
  case index t x i =>
    split at e
    · rename_i u1 u2 h1 h2; exact lift (indexv_sim hE (evo_sim h h1) (evo_sim h h2) e w)
    · cases e
  case typeAssert x xt t ok =>
    split at e
    · rename_i u hu; exact lift (assertv_sim hE (evo_sim h hu) e w)
    · cases e
  case extract x i =>
    split at e
    · rename_i u hu; exact lift (extractv_sim (evo_sim h hu) e w)
    · cases e
  case call c =>
    obtain ⟨callee, args, ats⟩ := c
    simp only at e
    have hargs : args.map a.eval = ⟨args.toList.map a.eval⟩ := by apply Array.ext'; simp
    split at e
    · rename_i u hvs
      split at e
      · rename_i t ts hat
        have h1 := evs_sim h hvs
        have ha0 : ats[0]? = some t := by rw [← Array.getElem?_toList, hat]; rfl
        simp only [execOp, resolve, pure_bind, invoke, builtin, hargs]
        cases hl : args.toList.map a.eval with
        | nil => rw [hl] at h1; cases h1
        | cons v1 l1 =>
          rw [hl] at h1
          cases h1 with
          | cons h1 h2 =>
            cases h2
            exact lift (lenv_sim hE h1 ha0 e w)
      · cases e
    · rename_i u us hvs
      have h1 := evs_sim h hvs
      simp only [execOp, resolve, pure_bind, invoke, builtin, hargs]
      cases hl : args.toList.map a.eval with
      | nil => rw [hl] at h1; cases h1
      | cons v1 l1 =>
        rw [hl] at h1
        cases h1 with
        | cons h1 h2 => exact lift (foldv_sim maxv_sim h1 h2 e w)
    · rename_i u us hvs
      have h1 := evs_sim h hvs
      simp only [execOp, resolve, pure_bind, invoke, builtin, hargs]
      cases hl : args.toList.map a.eval with
      | nil => rw [hl] at h1; cases h1
      | cons v1 l1 =>
        rw [hl] at h1
        cases h1 with
        | cons h1 h2 => exact lift (foldv_sim minv_sim h1 h2 e w)
    · cases e
end
end Go.Ev
