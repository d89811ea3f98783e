/- Operations that touch no memory, one by one. -/
import Derived.Test.YthbphkakekdfkaaGreatDoorEv4
namespace Go.Ev
open Go Go.RowKit
section
variable {E : Env} {P : Program} {ρ : Ren}
theorem pureOf_run {s : Sem Value} {v : Value} (h : pureOf s = some v) (w : World) : s.run P w = .ok v w := by
  cases s <;> simp [pureOf] at h
  subst h; rfl
theorem intCmp_pure [Sy] (op : BinOp) (a b : Int) {v : Value} (e : pureOf (Op.intCmp op a b) = some v) : VR ρ v v := by
  cases op <;> simp [Op.intCmp, pureOf, stuck, Pure.pure] at e <;> (subst e; exact .bool _)
theorem intArith_pure [Sy] (op : BinOp) (k : IntKind) (a b : Int) {v : Value} (e : pureOf (Op.intArith op k a b) = some v) : VR ρ v v := by
  cases op <;> simp [Op.intArith, pureOf, stuck, Pure.pure] at e <;> (subst e; exact .int _ _)
theorem intBits_pure [Sy] (op : BinOp) (k : IntKind) (a b : Int) {v : Value} (e : pureOf (Op.intBits op k a b) = some v) : VR ρ v v := by
  cases op <;> simp [Op.intBits, pureOf, stuck, Pure.pure] at e <;> (subst e; exact .int _ _)
theorem runtimePanic_impure (e : RuntimeError) : pureOf (runtimePanic e : Sem Value) = none := rfl
theorem intDiv_pure [Sy] (op : BinOp) (k : IntKind) (a b : Int) {v : Value} (e : pureOf (Op.intDiv op k a b) = some v) : VR ρ v v := by
  unfold Op.intDiv at e
  split at e
  · rw [runtimePanic_impure] at e; cases e
  · cases op <;> simp [pureOf, stuck, Pure.pure] at e <;> (subst e; exact .int _ _)
theorem shift_pure [Sy] (op : BinOp) (k yk : IntKind) (a b : Int) {v : Value} (e : pureOf (Op.shift op k a yk b) = some v) : VR ρ v v := by
  unfold Op.shift at e
  split at e
  · rw [runtimePanic_impure] at e; cases e
  · cases op <;> simp [pureOf, stuck, Pure.pure] at e <;> (subst e; exact .int _ _)
theorem unary_pure [Sy] (op : UnOp) {x x' : Value} (hx : VR ρ x x') {v : Value} (e : pureOf (Op.unary op x) = some v) : x' = x ∧ VR ρ v v := by
  cases hx <;> cases op <;> simp [Op.unary, Op.intArith, Op.intBits, pureOf, stuck, unsupported, Pure.pure] at e <;> (subst e; exact ⟨rfl, by constructor⟩)
theorem eqv_agg {d : Nat} {t : TypeId} {l m : List Value} : eqv E (d + 1) t (.agg ⟨l⟩) (.agg ⟨m⟩) = match E.ty.get t with
    | none => none
    | some i => match i.u with
      | .struct _ => bif i.eqok then eqvs E d i.fs l m else none
      | .array n e => (match E.ty.get e with
        | some j => bif i.eqok then eqvs E d ((List.range n).map fun k => (e, k * j.size)) l m else none
        | none => none)
      | _ => none := by
  unfold eqv
  cases E.ty.get t with
  | none => rfl
  | some i =>
    cases h : i.u <;> simp only [h]
    rename_i e
    cases E.ty.get e <;> rfl
theorem eqv_symL {d : Nat} {t : TypeId} {k : Nat} {y : Value} : eqv E d t (.chan (some k)) y = none := by
  cases d with
  | zero => unfold eqv; rfl
  | succ d => unfold eqv; split; rfl; split <;> first | rfl | contradiction
theorem eqv_symR {d : Nat} {t : TypeId} {k : Nat} {x : Value} : eqv E d t x (.chan (some k)) = none := by
  cases d with
  | zero => unfold eqv; rfl
  | succ d => unfold eqv; split; rfl; split <;> first | rfl | contradiction
theorem eqGuard_ok [Sy] (hE : EnvOk E P) {op : BinOp} {t : TypeId} {x y : Operand} {a b a' b' : Value} {r : Bool} (ha : VR ρ a a') (hb : VR ρ b b')
    (hnn : ¬ (a = .nilIface ∧ b = .nilIface)) (hq : eqv E eqDepth t a b = some r) (w : World) : (eqGuard op t x y a' b').run P w = .ok () w := by
  by_cases hop : (op matches .eql | .neq) = true
  · have : ∀ u v : Value, (∀ l m, ¬ (u = .agg l ∧ v = .agg m)) → ¬ (u = .nilIface ∧ v = .nilIface) → (eqGuard op t x y u v).run P w = .ok () w := by
      intro u v h1 h2
      unfold eqGuard
      cases op <;> simp at hop <;> cases u <;> cases v <;> first | rfl | exact (h1 _ _ ⟨rfl, rfl⟩).elim | exact (h2 ⟨rfl, rfl⟩).elim
    cases ha with
    | sym k => rw [eqv_symL] at hq; cases hq
    | agg h1 =>
      cases hb with
      | agg h2 =>
        have hm : P.eqGuardType P.depth t = false := by
          rw [eqDepth, eqv_agg] at hq
          split at hq
          · cases hq
          · rename_i i hi
            obtain ⟨inf, hinf, hund, hty⟩ := hE.ty t i hi
            have key : i.eqok = true → P.eqGuardType P.depth t = false := by
              intro h; rw [hty] at h; simp [tyOf] at h; exact h.1
            split at hq
            · exact key (bif_some hq).1
            · split at hq
              · exact key (bif_some hq).1
              · cases hq
            · cases hq
        exact run_eqGuard_agg w op t x y _ _ hm
      | sym k => rw [eqv_symR] at hq; cases hq
      | _ => exact this _ _ (by simp) (by simp)
    | nilIface =>
      cases hb with
      | nilIface => exact (hnn ⟨rfl, rfl⟩).elim
      | sym k => rw [eqv_symR] at hq; cases hq
      | _ => exact this _ _ (by simp) (by simp)
    | _ =>
      cases hb <;> first
        | (rw [eqv_symR] at hq; cases hq; done)
        | exact this _ _ (by simp) (by simp)
  · unfold eqGuard
    cases op <;> simp at hop ⊢
theorem eql_run [Sy] {t : TypeId} {x y x' y' : Value} {b : Bool} (hE : EnvOk E P) (hx : VR ρ x x') (hy : VR ρ y y')
    (hxy : (∀ k a l b, ¬ (x = .int k a ∧ y = .int l b)) ∧ (∀ a b, ¬ (x = .string a ∧ y = .string b)))
    (hq : eqv E eqDepth t x y = some b) (w : World) :
    (binOp .eql t x' y').run P w = .ok (.bool b) w ∧ (binOp .neq t x' y').run P w = .ok (.bool (!b)) w := by
  have heq : (Op.equal t x' y').run P w = .ok b w := (eqv_sim hE eqDepth).1 Op.maxDepth t x y x' y' b (by unfold eqDepth Op.maxDepth; omega) hx hy hq w
  have hsx : ∀ k, x ≠ .chan (some k) := by rintro k rfl; rw [eqv_symL] at hq; cases hq
  have hsy : ∀ k, y ≠ .chan (some k) := by rintro k rfl; rw [eqv_symR] at hq; cases hq
  have hfl : ∀ k a l b, ¬ (x' = .float k a ∧ y' = .float l b) := by
    rintro k a l b' ⟨h1, h2⟩
    generalize hx1 : x' = x1 at hx h1
    generalize hy1 : y' = y1 at hy h2
    cases hx <;> first | (exact (hsx _ rfl).elim) | (cases h1; done) | skip
    cases hy <;> first | (exact (hsy _ rfl).elim) | (cases h2; done) | skip
    unfold eqv eqDepth at hq
    simp only at hq
    split at hq
    · cases hq
    · split at hq <;> first | contradiction | (cases hq; done)
  constructor
  · cases hx <;> cases hy <;> first
      | (exact (hsx _ rfl).elim)
      | (exact (hsy _ rfl).elim)
      | (exact (hxy.1 _ _ _ _ ⟨rfl, rfl⟩).elim)
      | (exact (hxy.2 _ _ ⟨rfl, rfl⟩).elim)
      | (exact (hfl _ _ _ _ ⟨rfl, rfl⟩).elim)
      | (simp only [binOp]; rw [bind_ok heq]; rfl)
  · cases hx <;> cases hy <;> first
      | (exact (hsx _ rfl).elim)
      | (exact (hsy _ rfl).elim)
      | (exact (hxy.1 _ _ _ _ ⟨rfl, rfl⟩).elim)
      | (exact (hxy.2 _ _ ⟨rfl, rfl⟩).elim)
      | (exact (hfl _ _ _ _ ⟨rfl, rfl⟩).elim)
      | (simp only [binOp]; rw [bind_ok heq]; rfl)
end
end Go.Ev
