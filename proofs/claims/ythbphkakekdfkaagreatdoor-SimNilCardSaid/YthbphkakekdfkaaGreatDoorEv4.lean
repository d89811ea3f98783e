/- Operations that touch no memory: the machine's come to what the evaluator's do. -/
import Derived.Test.YthbphkakekdfkaaGreatDoorEv3
import Derived.Laws.Sem
import Derived.Laws.Cells
import Derived.Laws.StructEq
import Derived.Laws.Append
import Derived.ChangeKeysEq
namespace Go.Ev
open Go Go.RowKit
structure EnvOk [Sy] (E : Env) (P : Program) : Prop where
  fn : ∀ f fn, E.fn.get f = some fn → P.funcs[f]? = some fn
  name : ∀ f fn, E.fn.get f = some fn → (fn.name == "runtime.NumGoroutine") = false
  ty : ∀ t i, E.ty.get t = some i → ∃ inf, P.info? t = some inf ∧ P.underlying t = some i.u ∧ i = tyOf P inf i.u t
  mixed : P.follows .mixedOrders = true
  orc : ∀ (op : BinOp) (u v r : Value), orcv E op u v = some r → ∀ (ρ : Ren) (a : Act) (x y : Operand), VR ρ u (a.eval x) → VR ρ v (a.eval y) → ∀ (t : TypeId) (w : World),
    ∃ r', ((do eqGuard op t x y (a.eval x) (a.eval y); binOp op t (a.eval x) (a.eval y)) : Sem Value).run P w = .ok r' w ∧ VR ρ r r'
section
variable {E : Env} {P : Program} {ρ : Ren}
theorem bif_some {α : Type} {b : Bool} {x : Option α} {a : α} (h : (bif b then x else none) = some a) : b = true ∧ x = some a := by
  cases b
  · cases h
  · exact ⟨rfl, h⟩
theorem bif_none {α : Type} {b : Bool} {x : Option α} {a : α} (h : (bif b then none else x) = some a) : b = false ∧ x = some a := by
  cases b
  · exact ⟨rfl, h⟩
  · cases h
theorem bind_ok {α β : Type} {x : Sem α} {f : α → Sem β} {w w1 : World} {a : α} (h : x.run P w = .ok a w1) : (x >>= f).run P w = (f a).run P w1 := by
  simp [h]
theorem EnvOk.under [Sy] (h : EnvOk E P) {t : TypeId} {i : TyI} (e : E.ty.get t = some i) (w : World) : (underlying t).run P w = .ok i.u w := by
  obtain ⟨inf, _, hu, _⟩ := h.ty t i e
  exact run_underlying hu w
theorem EnvOk.sizeOf [Sy] (h : EnvOk E P) {t : TypeId} {i : TyI} (e : E.ty.get t = some i) (w : World) : (sizeOf t).run P w = .ok i.size w := by
  obtain ⟨inf, hi, _, he⟩ := h.ty t i e
  rw [run_sizeOf w hi, he]
  simp [Program.cellsOf, hi, tyOf]
theorem EnvOk.cells [Sy] (h : EnvOk E P) {t : TypeId} {i : TyI} (e : E.ty.get t = some i) : P.cellsOf t = i.size := by
  obtain ⟨inf, hi, _, he⟩ := h.ty t i e
  rw [he]
  simp [Program.cellsOf, hi, tyOf]
theorem EnvOk.isAgg [Sy] (h : EnvOk E P) {t : TypeId} {i : TyI} (e : E.ty.get t = some i) (w : World) : (isAgg t).run P w = .ok i.agg w := by
  obtain ⟨inf, hi, hu, he⟩ := h.ty t i e
  have hagg : i.agg = (match i.u with | .struct _ | .array _ _ => true | _ => false) := by rw [he]; rfl
  rw [hagg]
  unfold Go.isAgg
  rw [bind_ok (run_underlying hu w)]
  cases i.u <;> rfl
theorem EnvOk.zero [Sy] (h : EnvOk E P) {t : TypeId} {i : TyI} (e : E.ty.get t = some i) {z : Value} (hz : i.zero = some z) (w : World) : (zeroValue t).run P w = .ok z w := by
  obtain ⟨inf, hi, hu, he⟩ := h.ty t i e
  have : inf.zero = some z := by rw [he] at hz; exact hz
  simp [zeroValue, typeInfo, hi, this]
theorem EnvOk.info [Sy] (h : EnvOk E P) {t : TypeId} {i : TyI} (e : E.ty.get t = some i) : ∃ inf, P.info? t = some inf ∧ inf.bytes = i.bytes ∧ inf.methods.toList = i.ms ∧ inf.zero = i.zero ∧ inf.size = i.size := by
  obtain ⟨inf, hi, hu, he⟩ := h.ty t i e
  exact ⟨inf, hi, by rw [he]; rfl, by rw [he]; rfl, by rw [he]; rfl, by rw [he]; rfl⟩
theorem part_sim [Sy] (hE : EnvOk E P) {t : TypeId} {cs cs' : List Value} {off : Nat} {v : Value} (h : VRs ρ cs cs') (e : partOf E t cs off = some v) (w : World) :
    ∃ v', (part t ⟨cs'⟩ off).run P w = .ok v' w ∧ VR ρ v v' := by
  unfold partOf at e
  split at e
  · rename_i i hi
    unfold part
    rw [bind_ok (hE.isAgg hi w)]
    cases ha : i.agg
    · rw [ha] at e
      simp only [cond_false] at e
      obtain ⟨v', hv', hr⟩ := h.get e
      refine ⟨v', ?_, hr⟩
      simp [hv']
    · rw [ha] at e
      simp only [cond_true] at e
      · obtain ⟨hb, e⟩ := bif_some e
        cases e
        simp only [if_true]
        refine ⟨.agg ⟨(cs'.drop off).take i.size⟩, ?_, .agg ((h.drop off).take i.size)⟩
        rw [bind_ok (hE.sizeOf hi w)]
        simp only [Sem.run_pure, Result.ok.injEq, Value.agg.injEq, and_true]
        apply Array.ext'
        simp [List.extract_eq_take_drop]
  · cases e
def eqElems (d : Nat) (t : TypeId) (xs ys : Array Value) (s : Nat) : Nat → Nat → Sem Bool
  | _, 0 => pure true
  | k, n + 1 => do
    let a ← part t xs (k * s)
    let b ← part t ys (k * s)
    let r ← Op.equalIn d t a b
    if (!r) = true then pure false else eqElems d t xs ys s (k + 1) n
theorem run_equalIn_array (w : World) (d : Nat) (t e : TypeId) (n s : Nat) (xs ys : Array Value) (ht : P.underlying t = some (.array n e)) (hs : ∀ w, (Go.sizeOf e).run P w = .ok s w) :
    (Op.equalIn (d + 1) t (.agg xs) (.agg ys)).run P w = (eqElems d e xs ys s 0 n).run P w := by
  simp only [Op.equalIn, Sem.run_bind, run_underlying ht, Result.andThen_ok, hs]
  rw [Std.Legacy.Range.forIn_eq_forIn_range']
  simp only [Std.Legacy.Range.size, Nat.sub_zero, Nat.add_sub_cancel, Nat.div_one]
  clear ht
  generalize 0 = k
  induction n generalizing w k with
  | zero => simp [eqElems]
  | succ n ih =>
    simp only [List.range'_succ, List.forIn_cons, eqElems, Sem.run_bind]
    generalize (part e xs (k * s)).run P w = r1
    cases r1 with
    | ok a w1 =>
      simp only [Result.andThen_ok]
      generalize (part e ys (k * s)).run P w1 = r2
      cases r2 with
      | ok b w2 =>
        simp only [Result.andThen_ok]
        generalize (Op.equalIn d e a b).run P w2 = r3
        cases r3 with
        | ok r w3 =>
          cases r
          · simp only [Result.andThen_ok, Bool.not_false, if_true, Sem.run_pure]
          · simp only [Result.andThen_ok, Bool.not_true, Bool.false_eq_true, if_false, Sem.run_pure]
            exact ih w3 (k + 1)
        | halt x w3 => simp [Result.andThen]
      | halt x w2 => simp [Result.andThen]
    | halt x w1 => simp [Result.andThen]
set_option maxHeartbeats 4000000 in
theorem eqv_sim [Sy] (hE : EnvOk E P) : ∀ (d : Nat),
    (∀ (d' : Nat) (t : TypeId) (x y x' y' : Value) (b : Bool), d ≤ d' → VR ρ x x' → VR ρ y y' → eqv E d t x y = some b → ∀ w, (Op.equalIn d' t x' y').run P w = .ok b w) ∧
    (∀ (d' : Nat) (l : List (TypeId × Nat)) (xs ys xs' ys' : List Value) (b : Bool), d ≤ d' → VRs ρ xs xs' → VRs ρ ys ys' → eqvs E d l xs ys = some b → ∀ w,
      (∀ fs : List Field, (fs.filter fun f => f.name != "_").map (fun f => (f.type, f.offset)) = l → (Op.eqFields d' ⟨xs'⟩ ⟨ys'⟩ fs).run P w = .ok b w) ∧
      (∀ (t : TypeId) (s n k : Nat), l = (List.range' k n).map (fun i => (t, i * s)) → (eqElems d' t ⟨xs'⟩ ⟨ys'⟩ s k n).run P w = .ok b w)) := by
  intro d
  induction d with
  | zero => exact ⟨fun d' t x y x' y' b _ _ _ e => by simp [eqv] at e, fun d' l xs ys xs' ys' b _ _ _ e => by simp [eqvs] at e⟩
  | succ d ih =>
    constructor
    · intro d' t x y x' y' b hd hx hy e w
      obtain ⟨d', rfl⟩ : ∃ m, d' = m + 1 := ⟨d' - 1, by omega⟩
      unfold eqv at e
      cases hi : E.ty.get t with
      | none => rw [hi] at e; cases e
      | some i =>
        rw [hi] at e
        simp only at e
        have hu := hE.under hi
        obtain ⟨inf, hinf, hund, hty⟩ := hE.ty t i hi
        split at e
        case h_1 => rename_i hk; rw [hk] at hund; cases hx; cases hy; cases e; simp [Op.equalIn, run_underlying hund]
        case h_2 =>
          rename_i hk; rw [hk] at hund; cases hx; cases hy
          split at e
          · rename_i hkk; cases e; simp [Op.equalIn, run_underlying hund, hkk]
          · cases e
        case h_3 => rename_i hk; rw [hk] at hund; cases hx; cases hy; cases e; rw [run_equalIn_string w d' t _ _ hund, ByteArray.toList_eq, ByteArray.toList_eq]
        case h_4 =>
          rename_i hk; rw [hk] at hund; cases hx; cases e
          cases hy <;> simp [Op.equalIn, run_underlying hund]
        case h_5 =>
          rename_i hne hk; rw [hk] at hund; cases hy; cases e
          cases hx with
          | pnil => exact (hne rfl).elim
          | ptr h1 => simp [Op.equalIn, run_underlying hund]
        case h_6 =>
          rename_i el a b' hk
          rw [hk] at hund
          split at e
          · rename_i j hj
            obtain ⟨hz, e⟩ := bif_none e
            split at e
            · rename_i hab
              cases e
              cases hx with
              | ptr h1 =>
                cases hy with
                | ptr h2 =>
                  simp only at hab; subst hab
                  rw [h1] at h2; cases h2
                  have hz' : ¬ j.size = 0 := by intro e; rw [e] at hz; cases hz
                  simp [Op.equalIn, run_underlying hund, hE.sizeOf hj, hz', sameAddr]
                  rw [Bool.eq_iff_iff]; simp
            · cases e
          · cases e
        case h_7 => rename_i hk; rw [hk] at hund; cases hx; cases hy; cases e; simp [Op.equalIn, run_underlying hund]
        case h_8 => rename_i hk; rw [hk] at hund; cases hx; cases hy; cases e; simp [Op.equalIn, run_underlying hund]
        case h_9 => rename_i hk; rw [hk] at hund; cases hx; cases hy; cases e; simp [Op.equalIn, run_underlying hund]
        case h_10 =>
          rename_i fs xs ys hk
          obtain ⟨hq, e⟩ := bif_some e
          have hst : P.stoodInHeld t = false := by
            rw [hty] at hq; simp [tyOf] at hq; exact hq.2
          cases hx with
          | agg hx => cases hy with
            | agg hy =>
              have hfs : P.fieldsOf t = fs := by unfold Program.fieldsOf; rw [hund, hk]
              rw [run_equalIn_agg w d' t _ _ (by rw [hund, hk, hfs]) hst]
              have := ((ih.2 d' i.fs _ _ _ _ b (by omega) hx hy e) w).1 (P.fieldsOf t).toList
              refine this ?_
              rw [hfs, hty]; simp only [tyOf, hk]
        case h_11 =>
          rename_i b' c hk
          rw [hk] at hund
          cases hx
          cases e
          cases hy with
          | snil => simp [Op.equalIn, run_underlying hund]
          | sany a k => simp [Op.equalIn, run_underlying hund]; rfl
          | sl h1 _ _ _ => simp [Op.equalIn, run_underlying hund]
        case h_12 =>
          rename_i b' c hne hk
          rw [hk] at hund
          cases hy
          cases e
          cases hx with
          | snil => exact (hne rfl rfl rfl).elim
          | sany a k => simp [Op.equalIn, run_underlying hund]; rfl
          | sl h1 _ _ _ => simp [Op.equalIn, run_underlying hund]
        case h_13 =>
          rename_i hk; rw [hk] at hund; cases hx; cases e
          cases hy <;> simp [Op.equalIn, run_underlying hund]
        case h_14 =>
          rename_i hne hk; rw [hk] at hund; cases hy; cases e
          cases hx with
          | mnil => exact (hne rfl).elim
          | map h1 => simp [Op.equalIn, run_underlying hund]
        case h_15 => rename_i hk; rw [hk] at hund; cases hx; cases hy; cases e; simp [Op.equalIn, run_underlying hund]
        case h_16 => rename_i hk; rw [hk] at hund; cases hx; cases e; cases hy <;> simp [Op.equalIn, run_underlying hund]
        case h_17 => rename_i hk; rw [hk] at hund; cases hy; cases e; cases hx <;> simp [Op.equalIn, run_underlying hund]
        case h_18 =>
          rename_i n el xs ys hk
          rw [hk] at hund
          split at e
          · rename_i j hj
            obtain ⟨hq, e⟩ := bif_some e
            cases hx with
            | agg hx => cases hy with
              | agg hy =>
                rw [run_equalIn_array w d' t el n j.size _ _ hund (hE.sizeOf hj)]
                exact ((ih.2 d' _ _ _ _ _ b (by omega) hx hy e) w).2 el j.size n 0 (by rw [List.range_eq_range'])
          · cases e
        case h_19 => cases e
    · intro d' l xs ys xs' ys' b hd hx hy e w
      cases l with
      | nil =>
        simp only [eqvs] at e
        cases e
        constructor
        · intro fs hfs
          have hfs' : fs.filter (fun f => f.name != "_") = [] := by simpa using hfs
          induction fs with
          | nil => simp [Op.eqFields]
          | cons f fs ihf =>
            by_cases hn : f.name = "_"
            · simp only [Op.eqFields, hn, ne_eq, not_true_eq_false, if_false]
              simp only [List.filter_cons, hn, bne_self_eq_false, Bool.false_eq_true, if_false] at hfs hfs'
              exact ihf hfs hfs'
            · simp [hn] at hfs'
        · intro t s n k hl
          cases n with
          | zero => simp [eqElems]
          | succ n => simp [List.range'_succ] at hl
      | cons a l =>
        obtain ⟨t, off⟩ := a
        simp only [eqvs] at e
        split at e
        · rename_i x y hpx hpy
          obtain ⟨x', hx', vx⟩ := part_sim hE hx hpx w
          obtain ⟨y', hy', vy⟩ := part_sim hE hy hpy w
          split at e
          · rename_i heq
            have hr := ih.1 d' t x y x' y' true (by omega) vx vy heq w
            have hrest := ih.2 d' l xs ys xs' ys' b (by omega) hx hy e w
            constructor
            · intro fs
              induction fs with
              | nil => intro h; simp at h
              | cons f fs ihf =>
                intro h
                by_cases hn : f.name = "_"
                · simp only [Op.eqFields, hn, ne_eq, not_true_eq_false, if_false]
                  simp only [List.filter_cons, hn, bne_self_eq_false, Bool.false_eq_true, if_false] at h
                  exact ihf h
                · have hnb : (f.name != "_") = true := by simp [hn]
                  simp only [List.filter_cons, hnb, if_true, List.map_cons, List.cons.injEq, Prod.mk.injEq] at h
                  obtain ⟨⟨h1, h2⟩, h3⟩ := h
                  simp only [Op.eqFields, ne_eq, hn, not_false_eq_true, if_true]
                  rw [h1, h2, bind_ok hx', bind_ok hy', bind_ok hr]
                  simpa using hrest.1 fs h3
            · intro t' s n k hl
              cases n with
              | zero => simp at hl
              | succ n =>
                simp only [List.range'_succ, List.map_cons, List.cons.injEq, Prod.mk.injEq] at hl
                obtain ⟨⟨h1, h2⟩, h3⟩ := hl
                subst h1; subst h2
                rw [eqElems, bind_ok hx', bind_ok hy', bind_ok hr]
                simpa using hrest.2 t s n (k + 1) h3
          · rename_i hne
            cases b with
            | true => exact (hne e).elim
            | false =>
                have heq := e
                have hr := ih.1 d' t x y x' y' false (by omega) vx vy heq w
                constructor
                · intro fs
                  induction fs with
                  | nil => intro h; simp at h
                  | cons f fs ihf =>
                    intro h
                    by_cases hn : f.name = "_"
                    · simp only [Op.eqFields, hn, ne_eq, not_true_eq_false, if_false]
                      simp only [List.filter_cons, hn, bne_self_eq_false, Bool.false_eq_true, if_false] at h
                      exact ihf h
                    · have hnb : (f.name != "_") = true := by simp [hn]
                      simp only [List.filter_cons, hnb, if_true, List.map_cons, List.cons.injEq, Prod.mk.injEq] at h
                      obtain ⟨⟨h1, h2⟩, h3⟩ := h
                      simp only [Op.eqFields, ne_eq, hn, not_false_eq_true, if_true]
                      rw [h1, h2, bind_ok hx', bind_ok hy', bind_ok hr]
                      simp
                · intro t' s n k hl
                  cases n with
                  | zero => simp at hl
                  | succ n =>
                    simp only [List.range'_succ, List.map_cons, List.cons.injEq, Prod.mk.injEq] at hl
                    obtain ⟨⟨h1, h2⟩, h3⟩ := hl
                    subst h1; subst h2
                    rw [eqElems, bind_ok hx', bind_ok hy', bind_ok hr]
                    simp
        · cases e
end
end Go.Ev
