/- More rounds give the same answer; answers, whatever the rounds. Conditions under which a call answers, worked out from its text: the formulas. What the formulas say is so: operations. What the formulas say is so: each operation. -/
import Derived.Test.YtphgkdcifemmmaaGreatEv28
namespace Go.Ev
open Go
structure RecLe (r s : Rec) : Prop where
  code : ∀ c T H x, r.code c T H = some x → s.code c T H = some x
  call : ∀ f a H x, r.call f a H = some x → s.call f a H = some x
  round : ∀ l a H x, r.round l a H = some x → s.round l a H = some x
section
variable {E : Env} {r s : Rec}
theorem callFn_le (h : RecLe r s) {fn : Fn} {cs args : List Value} {H : AH} {x : Value × AH} (e : callFn E r fn cs args H = some x) : callFn E s fn cs args H = some x := by
  unfold callFn at e ⊢
  split at e
  · split at e
    · exact e
    · exact h.call _ _ _ _ e
  · exact h.round _ _ _ _ e
  · split at e
    · split at e
      · cases e
      · exact h.call _ _ _ _ e
    · cases e
  · cases e
theorem callOp_le (h : RecLe r s) {c : Call} {T : Tmps} {H : AH} {x : Value × AH} (e : callOp E r c T H = some x) : callOp E s c T H = some x := by
  unfold callOp at e ⊢
  cases ha : evs T c.args.toList with
  | none => rw [ha] at e; cases e
  | some args =>
    rw [ha] at e
    simp only at e ⊢
    cases hc : c.callee with
    | value f =>
      rw [hc] at e
      simp only at e ⊢
      split at e
      · rename_i hf; try simp only [hf]
        exact callFn_le h e
      · cases e
    | invoke rc name =>
      rw [hc] at e
      simp only at e ⊢
      split at e
      · rename_i hf; try simp only [hf]
        exact callFn_le h e
      · cases e
    | builtin b => rw [hc] at e; cases b <;> exact e
theorem effOp_le (h : RecLe r s) {op : Op} {T : Tmps} {H : AH} {x : Value × AH} (e : effOp E r T H op = some x) : effOp E s T H op = some x := by
  cases op <;> first | exact e | exact callOp_le h e
theorem doOp_le (h : RecLe r s) {op : Op} {T : Tmps} {H : AH} {x : Value × AH} (e : doOp E r op T H = some x) : doOp E s op T H = some x := by
  unfold doOp at e ⊢
  split at e
  · exact e
  · exact e
  · exact e
  · exact effOp_le h e
theorem runOp_le (h : RecLe r s) {ops : List Oper} {o : Oper} {T : Tmps} {H : AH} {x : Tmps × AH} (e : runOp E r ops o T H = some x) : runOp E s ops o T H = some x := by
  unfold runOp at e ⊢
  split at e
  · split at e
    · rename_i hd; rw [doOp_le h hd]; exact e
    · cases e
  · exact e
  · cases e
theorem runOps_le (h : RecLe r s) {ops : List Oper} : ∀ {os : List Oper} {T : Tmps} {H : AH} {x : Tmps × AH}, runOps E r ops os T H = some x → runOps E s ops os T H = some x
  | [], _, _, _, e => e
  | o :: os, T, H, x, e => by
    unfold runOps at e ⊢
    split at e
    · rename_i hd; rw [runOp_le h hd]; exact runOps_le h e
    · cases e
theorem runDraw_le (h : RecLe r s) {ops : List Oper} : ∀ {os : List Oper} {j : Nat} {T : Tmps} {H : AH} {N : Notes} {x : Tmps × AH × Notes}, runDraw E r ops os j T H N = some x → runDraw E s ops os j T H N = some x
  | [], _, _, _, _, _, e => e
  | o :: os, j, T, H, N, x, e => by
    unfold runDraw at e ⊢
    split at e
    · rename_i hd; rw [runOp_le h hd]; exact runDraw_le h e
    · cases e
theorem drawRegion_le (h : RecLe r s) {ops : List Oper} {T : Tmps} {H : AH} {x : Tmps × AH} (e : drawRegion E r ops T H = some x) : drawRegion E s ops T H = some x := by
  unfold drawRegion at e ⊢
  simp only at e ⊢
  obtain ⟨h1, e⟩ := bif_some e
  rw [h1]
  simp only [cond_true]
  split at e
  · rename_i hd; rw [runDraw_le h hd]; exact e
  · cases e
theorem seqK_le {o o' : Option (Xt × Tmps × AH)} {k k' : Tmps → AH → Option (Xt × Tmps × AH)} {x : Xt × Tmps × AH} (ho : ∀ y, o = some y → o' = some y) (hk : ∀ T H y, k T H = some y → k' T H = some y) (e : seqK o k = some x) : seqK o' k' = some x := by
  unfold seqK at e ⊢
  split at e
  · rw [ho _ rfl]; exact hk _ _ _ e
  · rename_i h1
    rw [ho _ e]
    split
    · rename_i T H he
      cases he
      exact (h1 _ _ e).elim
    · rfl
theorem blockK_le {id : Nat} {o o' : Option (Xt × Tmps × AH)} {x : Xt × Tmps × AH} (ho : ∀ y, o = some y → o' = some y) (e : blockK id o = some x) : blockK id o' = some x := by
  cases o with
  | none => simp [blockK] at e
  | some y => rw [ho y rfl]; exact e
theorem retK_le {rs : List ResultVar} {o o' : Option (Xt × Tmps × AH)} {x : Value × AH} (ho : ∀ y, o = some y → o' = some y) (e : retK E rs o = some x) : retK E rs o' = some x := by
  cases o with
  | none => simp [retK] at e
  | some y => rw [ho y rfl]; exact e
theorem endRoundK_le {l : Nat} {o o' : Option (Xt × Tmps × AH)} {x : Value × AH} (ho : ∀ y, o = some y → o' = some y) (e : endRoundK l o = some x) : endRoundK l o' = some x := by
  cases o with
  | none => simp [endRoundK] at e
  | some y => rw [ho y rfl]; exact e
theorem beginRoundK_le (h : RecLe r s) {l : Nat} {body : Code} {o o' : Option (Xt × Tmps × AH)} {x : Value × AH} (ho : ∀ y, o = some y → o' = some y) (e : beginRoundK r l body o = some x) : beginRoundK s l body o' = some x := by
  unfold beginRoundK at e ⊢
  split at e
  · rename_i T H
    rw [ho _ rfl]
    simp only
    split at e
    · split at e
      · exact endRoundK_le (fun y hy => h.code _ _ _ _ hy) e
      · cases e
    · cases e
  · cases e
theorem stepCode_le (h : RecLe r s) {c : Code} {T : Tmps} {H : AH} {x : Xt × Tmps × AH} (e : stepCode E r c T H = some x) : stepCode E s c T H = some x := by
  cases c with
  | skip => exact e
  | label l => exact e
  | region id ops d =>
    cases d with
    | false =>
      simp only [stepCode] at e ⊢
      split at e
      · rename_i hd; rw [runOps_le h hd]; exact e
      · cases e
    | true =>
      simp only [stepCode] at e ⊢
      split at e
      · rename_i hd; rw [drawRegion_le h hd]; exact e
      · cases e
  | seq a b => exact seqK_le (fun y hy => h.code _ _ _ _ hy) (fun T H y hy => h.code _ _ _ _ hy) e
  | cond c a b =>
    simp only [stepCode] at e ⊢
    split at e
    · exact h.code _ _ _ _ e
    · cases e
  | block id b => exact blockK_le (fun y hy => h.code _ _ _ _ hy) e
  | loop b => exact seqK_le (fun y hy => h.code _ _ _ _ hy) (fun T H y hy => h.code _ _ _ _ hy) e
  | rangeFunc f ps a b =>
    simp only [stepCode, rangeFuncK] at e ⊢
    split at e
    · split at e
      · rename_i hd; rw [callFn_le h hd]; exact e
      · cases e
    · cases e
  | exit id => exact e
  | scope b => exact h.code _ _ _ _ e
  | goto l => exact e
  | ret => exact e
  | refuse w => exact e
theorem stepCall_le (h : RecLe r s) {f : FuncId} {args : List Value} {H : AH} {x : Value × AH} (e : stepCall E r f args H = some x) : stepCall E s f args H = some x := by
  unfold stepCall at e ⊢
  split at e
  · split at e
    · split at e
      · exact e
      · obtain ⟨h1, e⟩ := bif_some e
        rw [h1]
        exact retK_le (fun y hy => h.code _ _ _ _ hy) e
    · cases e
  · cases e
theorem stepRound_le (h : RecLe r s) {l : Nat} {args : List Value} {H : AH} {x : Value × AH} (e : stepRound r l args H = some x) : stepRound s l args H = some x := by
  unfold stepRound at e ⊢
  split at e
  · obtain ⟨h1, e⟩ := bif_some e
    rw [h1]
    simp only [cond_true]
    split at e
    · exact beginRoundK_le h (fun y hy => h.code _ _ _ _ hy) e
    · cases e
  · cases e
theorem evalN_le1 : ∀ n, RecLe (evalN E n) (evalN E (n + 1))
  | 0 => ⟨fun _ _ _ _ e => by simp [evalN] at e, fun _ _ _ _ e => by simp [evalN] at e, fun _ _ _ _ e => by simp [evalN] at e⟩
  | n + 1 => ⟨fun _ _ _ _ e => stepCode_le (evalN_le1 n) e, fun _ _ _ _ e => stepCall_le (evalN_le1 n) e, fun _ _ _ _ e => stepRound_le (evalN_le1 n) e⟩
theorem RecLe.refl (r : Rec) : RecLe r r := ⟨fun _ _ _ _ e => e, fun _ _ _ _ e => e, fun _ _ _ _ e => e⟩
theorem RecLe.trans {r s t : Rec} (h : RecLe r s) (k : RecLe s t) : RecLe r t :=
  ⟨fun c T H x e => k.code c T H x (h.code c T H x e), fun c T H x e => k.call c T H x (h.call c T H x e), fun c T H x e => k.round c T H x (h.round c T H x e)⟩
theorem evalN_le {n m : Nat} (h : n ≤ m) : RecLe (evalN E n) (evalN E m) := by
  induction m with
  | zero => have : n = 0 := by omega
            subst this; exact .refl _
  | succ m ih =>
    by_cases e : n = m + 1
    · subst e; exact .refl _
    · exact (ih (by omega)).trans (evalN_le1 m)
end
end Go.Ev
namespace Go.Ev
open Go
/-! ### What is claimed of calls and rounds -/
structure FW (E : Env) (f : FuncId) (args : List Value) (H : AH) (Q : Value → AH → Prop) : Prop where
  run : ∃ n v H', (evalN E n).call f args H = some (v, H') ∧ Q v H'
structure RW (E : Env) (l : Nat) (args : List Value) (H : AH) (Q : Value → AH → Prop) : Prop where
  run : ∃ n v H', (evalN E n).round l args H = some (v, H') ∧ Q v H'
theorem FW.mono {E : Env} {f : FuncId} {args : List Value} {H : AH} {Q Q' : Value → AH → Prop} (h : FW E f args H Q) (k : ∀ v H', Q v H' → Q' v H') : FW E f args H Q' :=
  let ⟨n, v, H', a, b⟩ := h.run; ⟨n, v, H', a, k v H' b⟩
theorem RW.mono {E : Env} {l : Nat} {args : List Value} {H : AH} {Q Q' : Value → AH → Prop} (h : RW E l args H Q) (k : ∀ v H', Q v H' → Q' v H') : RW E l args H Q' :=
  let ⟨n, v, H', a, b⟩ := h.run; ⟨n, v, H', a, k v H' b⟩
/-! ### Words -/
def adr : Option Addr → Addr
  | some a => a
  | none => ⟨0, 0, none⟩
def AH.cell (H : AH) (b o : Nat) : Option Value := match H.rd b with
  | some cs => cs[o]?
  | none => none
def grd (b : Bool) (P : Prop) : Prop := cond b P False
inductive CK where
  | bool | int (k : IntKind) | str | ptr | sl | map | any
def exC : CK → (Value → Prop) → Prop
  | .bool, P => ∃ b : Bool, P (.bool b)
  | .int k, P => ∃ n : Int, P (.int k n)
  | .str, P => ∃ l : List UInt8, P (.string ⟨⟨l⟩⟩)
  | .ptr, P => ∃ a : Option Addr, P (.pointer a)
  | .sl, P => ∃ (a : Option Addr) (l c : Nat), P (.slice a l c)
  | .map, P => ∃ r : Option Nat, P (.map r)
  | .any, P => ∃ v : Value, P v
def allC : CK → (Value → Prop) → Prop
  | .bool, P => ∀ b : Bool, P (.bool b)
  | .int k, P => ∀ n : Int, P (.int k n)
  | .str, P => ∀ l : List UInt8, P (.string ⟨⟨l⟩⟩)
  | .ptr, P => ∀ a : Option Addr, P (.pointer a)
  | .sl, P => ∀ (a : Option Addr) (l c : Nat), P (.slice a l c)
  | .map, P => ∀ r : Option Nat, P (.map r)
  | .any, P => ∀ v : Value, P v
def exCs : List CK → (List Value → Prop) → Prop
  | [], P => P []
  | c :: cs, P => exC c fun v => exCs cs fun vs => P (v :: vs)
def allCs : List CK → (List Value → Prop) → Prop
  | [], P => P []
  | c :: cs, P => allC c fun v => allCs cs fun vs => P (v :: vs)
inductive Sh where
  | one (k : CK) | agg (l : List CK)
def Sh.cks : Sh → List CK
  | .one k => [k]
  | .agg l => l
def ckV : Value → Option CK
  | .bool _ => some .bool
  | .int k _ => some (.int k)
  | .string _ => some .str
  | .pointer _ => some .ptr
  | .slice _ _ _ => some .sl
  | .map _ => some .map
  | _ => none
def ckVs : List Value → Option (List CK)
  | [] => some []
  | v :: vs => match ckV v with
    | some k => match ckVs vs with
      | some ks => some (k :: ks)
      | none => none
    | none => none
def shV : Value → Option Sh
  | .agg cs => match ckVs cs.toList with
    | some ks => some (.agg ks)
    | none => none
  | v => match ckV v with
    | some k => some (.one k)
    | none => none
def flatSh : List Sh → List CK
  | [] => []
  | s :: ss => s.cks ++ flatSh ss
def flatV : List Value → List Value
  | [] => []
  | v :: vs => cellsOf v ++ flatV vs
def foldV : List Sh → List Value → List Value
  | [], _ => []
  | .one _ :: ss, v :: vs => v :: foldV ss vs
  | .one _ :: _, [] => []
  | .agg l :: ss, vs => .agg ⟨vs.take l.length⟩ :: foldV ss (vs.drop l.length)
def InvC : List CK → Type
  | [] => AH → Prop
  | .bool :: r => Bool → InvC r
  | .int _ :: r => Int → InvC r
  | .str :: r => List UInt8 → InvC r
  | .ptr :: r => Option Addr → InvC r
  | .sl :: r => Option Addr → Nat → Nat → InvC r
  | .map :: r => Option Nat → InvC r
  | .any :: r => Value → InvC r
def appC : (ks : List CK) → InvC ks → List Value → AH → Prop
  | [], I, [], H => I H
  | .bool :: r, I, .bool b :: vs, H => appC r (I b) vs H
  | .int k :: r, I, .int k' n :: vs, H => grd (decide (k = k')) (appC r (I n) vs H)
  | .str :: r, I, .string s :: vs, H => appC r (I s.data.toList) vs H
  | .ptr :: r, I, .pointer a :: vs, H => appC r (I a) vs H
  | .sl :: r, I, .slice a l c :: vs, H => appC r (I a l c) vs H
  | .map :: r, I, .map m :: vs, H => appC r (I m) vs H
  | .any :: r, I, v :: vs, H => appC r (I v) vs H
  | _, _, _, _ => False
/-! ### Types -/
def ckOf (E : Env) (t : TypeId) : Option CK := match E.ty.get t with
  | some i => match i.u with
    | .bool => some .bool
    | .int k => some (.int k)
    | .string => some .str
    | .pointer _ => some .ptr
    | .slice _ => some .sl
    | .map _ _ => some .map
    | .struct _ | .array _ _ => none
    | _ => some .any
  | none => none
mutual
def cksOf (E : Env) : Nat → TypeId → Option (List CK)
  | 0, _ => none
  | d + 1, t => match E.ty.get t with
    | some i => match i.u with
      | .struct fs => cksFs E d fs.toList
      | .array n e => match cksOf E d e with
        | some l => some (List.replicate n l).flatten
        | none => none
      | _ => match ckOf E t with
        | some k => some [k]
        | none => none
    | none => none
def cksFs (E : Env) : Nat → List Field → Option (List CK)
  | 0, _ => none
  | _, [] => some []
  | d + 1, f :: fs => match cksOf E d f.type with
    | some l => match cksFs E d fs with
      | some m => some (l ++ m)
      | none => none
    | none => none
end
def exTy (E : Env) (t : TypeId) (P : Value → Prop) : Prop := match E.ty.get t with
  | some i => bif i.agg then (match cksOf E 40 t with | some ks => exCs ks fun vs => P (.agg ⟨vs⟩) | none => False)
    else (match ckOf E t with | some k => exC k P | none => False)
  | none => False
def exTys (E : Env) : List TypeId → (List Value → Prop) → Prop
  | [], P => P []
  | t :: ts, P => exTy E t fun v => exTys E ts fun vs => P (v :: vs)
def findFn (f : FuncId) : List (FuncId × FuncId × Nat) → Option (FuncId × Nat)
  | [] => none
  | (g, x) :: l => bif Nat.beq f g then some x else findFn f l
def exBoxes : Nat → (List Value → Prop) → Prop
  | 0, P => P []
  | n + 1, P => ∃ b : Nat, exBoxes n fun vs => P (.pointer (some ⟨b, 0, none⟩) :: vs)
def exRet (E : Env) (f : FuncId) (v : Value) (k : Value → Prop) : Prop := match findFn f E.fns with
  | some (g, n) => exBoxes n fun vs => v = .func (.func g) ⟨[]⟩ ⟨vs⟩ ∧ k (.func (.func g) ⟨[]⟩ ⟨vs⟩)
  | none => match E.fn.get f with
  | some fn => exTys E fn.resultTypes.toList fun vs => v = tupled vs ∧ k (tupled vs)
  | none => False
/-! ### Operations -/
def wv (F : Tmps) (x : Operand) (k : Value → Prop) : Prop := match evo F x with
  | some v => k v
  | none => False
def wvs (F : Tmps) (xs : List Operand) (k : List Value → Prop) : Prop := match evs F xs with
  | some v => k v
  | none => False
def onV (o : Option Value) (k : Value → Prop) : Prop := match o with
  | some v => k v
  | none => False
def cellsP (H : AH) (b o : Nat) : Nat → List Value → Prop → Prop
  | _, [], P => P
  | i, v :: vs, P => H.cell b (o + i) = some v ∧ cellsP H b o (i + 1) vs P
def iand (k : IntKind) (a b : Int) : Int := k.wrap ((BitVec.ofInt k.bits a &&& BitVec.ofInt k.bits b).toNat : Int)
def ior (k : IntKind) (a b : Int) : Int := k.wrap ((BitVec.ofInt k.bits a ||| BitVec.ofInt k.bits b).toNat : Int)
def ixor (k : IntKind) (a b : Int) : Int := k.wrap ((BitVec.ofInt k.bits a ^^^ BitVec.ofInt k.bits b).toNat : Int)
def iandn (k : IntKind) (a b : Int) : Int := k.wrap ((BitVec.ofInt k.bits a &&& ~~~BitVec.ofInt k.bits b).toNat : Int)
def isPtr (E : Env) (t : TypeId) : Bool := match E.ty.get t with
  | some i => (match i.u with | .pointer _ => true | _ => false)
  | none => false
def isMap (E : Env) (t : TypeId) : Bool := match E.ty.get t with
  | some i => (match i.u with | .map _ _ => true | _ => false)
  | none => false
def wNilEq {α : Type} (c : Bool) (a b : Option α) (k : Bool → Prop) : Prop := grd c (match b with
  | none => k a.isNone
  | some _ => match a with
    | none => k false
    | some _ => False)
def wBin (E : Env) (op : BinOp) (t : TypeId) (v u : Value) (k : Value → Prop) : Prop :=
  match op, v, u with
  | .add, .int kd a, .int kd' b => grd (decide (kd = kd')) (∀ n : Int, n = kd.wrap (a + b) → k (.int kd n))
  | .sub, .int kd a, .int kd' b => grd (decide (kd = kd')) (∀ n : Int, n = kd.wrap (a - b) → k (.int kd n))
  | .mul, .int kd a, .int kd' b => grd (decide (kd = kd')) (∀ n : Int, n = kd.wrap (a * b) → k (.int kd n))
  | .and, .int kd a, .int kd' b => grd (decide (kd = kd')) (∀ n : Int, n = iand kd a b → k (.int kd n))
  | .or, .int kd a, .int kd' b => grd (decide (kd = kd')) (∀ n : Int, n = ior kd a b → k (.int kd n))
  | .xor, .int kd a, .int kd' b => grd (decide (kd = kd')) (∀ n : Int, n = ixor kd a b → k (.int kd n))
  | .andNot, .int kd a, .int kd' b => grd (decide (kd = kd')) (∀ n : Int, n = iandn kd a b → k (.int kd n))
  | .quo, .int kd a, .int kd' b => grd (decide (kd = kd')) (b ≠ 0 ∧ ∀ n : Int, n = kd.wrap (a.tdiv b) → k (.int kd n))
  | .rem, .int kd a, .int kd' b => grd (decide (kd = kd')) (b ≠ 0 ∧ ∀ n : Int, n = a.tmod b → k (.int kd n))
  | .shl, .int kd a, .int _ b => 0 ≤ b ∧ ∀ n : Int, n = kd.wrap (a * 2 ^ (min b.toNat kd.bits)) → k (.int kd n)
  | .shr, .int kd a, .int _ b => 0 ≤ b ∧ ∀ n : Int, n = a.fdiv (2 ^ (min b.toNat kd.bits)) → k (.int kd n)
  | .add, .string a, .string b => a.data.toList.length + b.data.toList.length < 4611686018427387904 ∧ k (.string ⟨⟨a.data.toList ++ b.data.toList⟩⟩)
  | .eql, .pointer a, .pointer b => wNilEq (isPtr E t) a b fun r => k (.bool r)
  | .neq, .pointer a, .pointer b => wNilEq (isPtr E t) a b fun r => k (.bool !r)
  | .eql, .map a, .map b => wNilEq (isMap E t) a b fun r => k (.bool r)
  | .neq, .map a, .map b => wNilEq (isMap E t) a b fun r => k (.bool !r)
  | .eql, .agg _, .agg _ | .neq, .agg _, .agg _ | .eql, .slice _ _ _, .slice _ _ _ | .neq, .slice _ _ _, .slice _ _ _ => ∃ b : Bool, binv E op t v u = some (.bool b) ∧ k (.bool b)
  | _, _, _ => onV (binv E op t v u) k
def wFieldAddr (E : Env) (t : TypeId) (x : Value) (f : Nat) (k : Value → Prop) : Prop :=
  match fieldOf E t f, x with
  | some fd, .pointer q => match E.ty.get fd.type with
    | some j => grd (!(Nat.beq j.size 0) && q.isSome) (k (.pointer (some ⟨(adr q).block, (adr q).off + fd.offset, none⟩)))
    | none => False
  | _, _ => False
def wIndexAddr (E : Env) (t : TypeId) (x ix : Value) (k : Value → Prop) : Prop :=
  match E.ty.get t with
  | none => False
  | some i => match i.u, x, ix with
    | .array n e, .pointer q, .int _ j => match E.ty.get e with
      | some y => grd q.isSome (0 ≤ j ∧ j < n ∧ k (.pointer (some ⟨(adr q).block, (adr q).off + j.toNat * y.size, none⟩)))
      | none => False
    | .slice e, .slice q len _, .int _ j => match E.ty.get e with
      | some y => grd q.isSome (0 ≤ j ∧ j < len ∧ k (.pointer (some ⟨(adr q).block, (adr q).off + j.toNat * y.size, none⟩)))
      | none => False
    | _, _, _ => False
def byteAt (l : List UInt8) (i : Int) : Int := ((l.getD i.toNat 0).toNat : Int)
def wIndex (E : Env) (t : TypeId) (x ix : Value) (k : Value → Prop) : Prop :=
  match E.ty.get t with
  | none => False
  | some i => match i.u, x, ix with
    | .string, .string s, .int _ j => 0 ≤ j ∧ j < s.data.toList.length ∧ k (.int .u8 (byteAt s.data.toList j))
    | .array _ e, _, _ => (match ckOf E e with
      | some c => exC c fun v => indexv E t x ix = some v ∧ k v
      | none => ∃ v, indexv E t x ix = some v ∧ k v)
    | _, _, _ => ∃ v, indexv E t x ix = some v ∧ k v
def wNil (v : Value) (k : Value → Prop) : Prop := match v with
  | .pointer q => grd q.isSome (k (.pointer q))
  | v => onV (nilCheckv v) k
def wLoad (E : Env) (H : AH) (t : TypeId) (x : Value) (k : Value → Prop) : Prop := match x with
  | .pointer q => grd q.isSome (match E.ty.get t with
    | some i => bif i.agg then (match cksOf E 40 t with
        | some ks => grd (Nat.beq ks.length i.size && !(Nat.beq i.size 0)) (exCs ks fun vs => cellsP H (adr q).block (adr q).off 0 vs (k (.agg ⟨vs⟩)))
        | none => False)
      else (match findFn (t + 1000000) E.fns with
        | some (g, n) => exBoxes n fun vs => H.cell (adr q).block (adr q).off = some (.func (.func g) ⟨[]⟩ ⟨vs⟩) ∧ k (.func (.func g) ⟨[]⟩ ⟨vs⟩)
        | none => (match ckOf E t with
          | some c => exC c fun v => H.cell (adr q).block (adr q).off = some v ∧ k v
          | none => False))
    | none => False)
  | _ => False
def wStore (E : Env) (H : AH) (t : TypeId) (p v : Value) (k : AH → Prop) : Prop := match p with
  | .pointer q => grd q.isSome (match E.ty.get t with
    | some i => grd (Nat.beq (cellsOf v).length i.size) (∃ H', storeCellsv H (adr q).block (adr q).off (cellsOf v) = some H' ∧ k H')
    | none => False)
  | _ => False
def exSl (o : Option Value) (k : Value → Prop) : Prop := ∃ a l c, o = some (.slice a l c) ∧ k (.slice a l c)
def exStr (o : Option Value) (k : Value → Prop) : Prop := ∃ l, o = some (.string ⟨⟨l⟩⟩) ∧ k (.string ⟨⟨l⟩⟩)
def wSlice (E : Env) (H : AH) (t : TypeId) (x : Value) (lo hi mx : Option Value) (k : Value → Prop) : Prop := match x with
  | .slice _ _ _ => exSl (slicev E H t x lo hi mx) k
  | .string _ => exStr (slicev E H t x lo hi mx) k
  | _ => False
def wMakeSlice (E : Env) (H : AH) (t : TypeId) (l c : Value) (k : Value → AH → Prop) : Prop :=
  match E.ty.get t, l, c with
  | some i, .int _ l, .int _ c => match i.u with
    | .slice e => match E.ty.get e with
      | some j => match j.zero with
        | some z => grd (clean z && Nat.beq (cellsOf z).length j.size) (0 ≤ l ∧ l ≤ c ∧ c < 4294967296 ∧ c.toNat * j.bytes ≤ 140737488355328 ∧
            ∀ H1, H1 = H.new (.cells ((List.replicate c.toNat (cellsOf z)).flatten) 0) → k (.slice (some ⟨H.next, 0, none⟩) l.toNat (2 * c.toNat)) H1)
        | none => False
      | none => False
    | _ => False
  | _, _, _ => False
def wConv (E : Env) (F : Tmps) (H : AH) (op : Op) (s d : TypeId) (x : Value) (k : Value → AH → Prop) : Prop :=
  match cls E op with
  | 0 => onV (convv E s d x) fun v => match v with
    | .int kd n => ∀ m : Int, m = n → k (.int kd m) H
    | v => k v H
  | 1 => exStr (bytesToStr E H s d x) fun v => k v H
  | 2 => match newOp E F op with
    | some (o, a) => ∀ H1, H1 = H.new o → k (a.val H.next) H1
    | none => False
  | _ => False
def wLen (E : Env) (H : AH) (ts : List TypeId) (v : Value) (k : Value → Prop) : Prop :=
  match ts with
  | [] => False
  | t :: _ => match E.ty.get t, v with
    | some i, .map r => (match i.u with
      | .map _ _ => (r = none ∧ k (.int .i64 0)) ∨ (∃ b es cl, r = some b ∧ H.get b = some (.map es cl) ∧ k (.int .i64 es.length))
      | _ => False)
    | some i, v => (match i.u with
      | .map _ _ => False
      | _ => onV (lenv E t v) k)
    | none, _ => False
def wCall (E : Env) (F : Tmps) (H : AH) (c : Call) (k : Value → AH → Prop) : Prop :=
  wvs F c.args.toList fun args => match c.callee with
    | .value f => wv F f fun fv => match fv with
      | .func (.func fid) first captured => grd (E.ext.get fid).isNone (FW E fid (first.toList ++ args ++ captured.toList) H fun v H' => exRet E fid v fun v => k v H')
      | .func (.yield l) first _ => RW E l (first.toList ++ args) H fun v H' => ∃ b : Bool, v = .bool b ∧ k (.bool b) H'
      | _ => False
    | .invoke r name => wv F r fun rv => match rv with
      | .iface t v => ∃ fr, recvOf E H t v name = some fr ∧ grd (E.ext.get fr.1).isNone (FW E fr.1 (fr.2 :: args) H k)
      | _ => False
    | .builtin .len => match args with
      | [v] => wLen E H c.argTypes.toList v fun v => k v H
      | _ => False
    | .builtin .max => match args with
      | v :: vs => onV (foldv maxv v vs) fun v => k v H
      | _ => False
    | .builtin .min => match args with
      | v :: vs => onV (foldv minv v vs) fun v => k v H
      | _ => False
    | .builtin .append => match args with
      | [s, x] => ∃ a l c' H', appendv E H c.argTypes.toList s x = some (.slice a l c', H') ∧ k (.slice a l c') H'
      | _ => False
    | .builtin .copy => match args with
      | [s, x] => ∃ n H', copyv E H c.argTypes.toList s x = some (.int .i64 n, H') ∧ k (.int .i64 n) H'
      | _ => False
    | .builtin .clear => match args with
      | [s] => ∃ v H', clearv E H c.argTypes.toList s = some (v, H') ∧ k v H'
      | _ => False
    | .builtin .delete => match args with
      | [s, x] => ∃ v H', deletev E H c.argTypes.toList s x = some (v, H') ∧ k v H'
      | _ => False
    | _ => False
def wLookup (E : Env) (H : AH) (t : TypeId) (m key : Value) (ok : Bool) (k : Value → Prop) : Prop :=
  match E.ty.get t with
  | some i => match i.u with
    | .map _ et => bif ok then exTy E et fun v => ∃ b : Bool, lookupv E H t m key true = some (.tuple #[v, .bool b]) ∧ k (.tuple #[v, .bool b])
      else exTy E et fun v => lookupv E H t m key false = some v ∧ k v
    | _ => False
  | none => False
def wPick (c : Value) (a b : Prop) : Prop := match c with
  | .bool t => cond t a b
  | _ => False
def wpOp (E : Env) (F : Tmps) (H : AH) (op : Op) (k : Value → AH → Prop) : Prop :=
  match op with
  | .move x | .assign x => wv F x fun v => k v H
  | .pick c a b => wv F c fun c => wv F a fun a => wv F b fun b => wPick c (k a H) (k b H)
  | .binOp op t x y _ => wv F x fun v => wv F y fun u => wBin E op t v u fun r => k r H
  | .unOp op _ x => wv F x fun v => onV (pureOf (Op.unary op v)) fun r => match r with
    | .int kd n => ∀ m : Int, m = n → k (.int kd m) H
    | r => k r H
  | .convert s d x => wv F x fun v => wConv E F H op s d v k
  | .makeInterface t x => wv F x fun v => onV (ifacev E t v) fun r => k r H
  | .makeFunc fn first captured => match fn with
    | .yield _ => False
    | _ => wvs F first.toList fun a => wvs F captured.toList fun b => k (.func fn ⟨a⟩ ⟨b⟩) H
  | .fieldAddr t x f => wv F x fun v => wFieldAddr E t v f fun r => k r H
  | .field t x f => wv F x fun v => onV (fieldv E t v f) fun r => k r H
  | .indexAddr t x i => wv F x fun v => wv F i fun j => wIndexAddr E t v j fun r => k r H
  | .index t x i => wv F x fun v => wv F i fun j => wIndex E t v j fun r => k r H
  | .build t ps => match evps F ps.toList with
    | some vs => onV (buildv E t vs) fun r => k r H
    | none => False
  | .extract x i => wv F x fun v => onV (extractv v i) fun r => k r H
  | .typeAssert x _ a ok => wv F x fun v => onV (assertv E v a ok) fun r => k r H
  | .nilCheck x => wv F x fun v => wNil v fun r => k r H
  | .load t x => wv F x fun v => wLoad E H t v fun r => k r H
  | .lookup t m key ok => wv F m fun v => wv F key fun u => wLookup E H t v u ok fun r => k r H
  | .slice t x lo hi mx => wv F x fun v => wvs F lo.toList fun l => wvs F hi.toList fun h => wvs F mx.toList fun m => wSlice E H t v l.head? h.head? m.head? fun r => k r H
  | .entry x => wv F x fun v => ∃ r, entryv H v = some r ∧ k r H
  | .alloc _ | .box _ _ | .buildSlice _ _ _ | .makeMap _ _ => match newOp E F op with
    | some (o, a) => ∀ H1, H1 = H.new o → k (a.val H.next) H1
    | none => False
  | .makeSlice t l c => wv F l fun l => wv F c fun c => wMakeSlice E H t l c k
  | .store t a x => wv F a fun p => wv F x fun v => wStore E H t p v fun H' => k undefV H'
  | .mapUpdate t m key x | .insert t m key x => wv F m fun m => wv F key fun key => wv F x fun x => ∃ H', updatev E H t m key x = some H' ∧ k undefV H'
  | .range t x => wv F x fun v => ∃ r H', rangev E H t v = some (r, H') ∧ k r H'
  | .next it s => wv F it fun v => ∃ r H', nextv H v s = some (r, H') ∧ k r H'
  | .call c => wCall E F H c k
  | _ => False
/-! ### Regions -/
def wGuard (ops : List Oper) (o : Oper) (F : Tmps) (yes no : Tmps → Prop) : Prop :=
  match o.guard with
  | none => yes F
  | some (j, want) => match ops[j]? with
    | some g => match g.dst with
      | some d => match F.get d with
        | some (.bool b) => cond b (cond want (yes (F.put (some d) (.bool true))) (no (F.put (some d) (.bool true)))) (cond want (no (F.put (some d) (.bool false))) (yes (F.put (some d) (.bool false))))
        | some (.tuple _) => no F
        | _ => False
      | none => False
    | none => False
def wpOps (E : Env) (ops : List Oper) : List Oper → Tmps → AH → (Tmps → AH → Prop) → Prop
  | [], F, H, k => k F H
  | o :: os, F, H, k => wGuard ops o F (fun F => wpOp E F H o.op fun v H' => wpOps E ops os (F.put o.dst v) H' k) (fun F => wpOps E ops os (F.put o.dst undefV) H k)
structure WNotes where
  ver : Nat
  hist : List (Nat × Nat × AH)
  reads : List (Nat × Oper × Tmps × Nat)
def wnote (E : Env) (j : Nat) (o : Oper) (F : Tmps) (H : AH) (N : WNotes) : WNotes :=
  match cls E o.op with
  | 3 => ⟨N.ver + 1, (j, N.ver, H) :: N.hist, N.reads⟩
  | 2 => ⟨N.ver + 1, N.hist, N.reads⟩
  | 1 => ⟨N.ver, N.hist, (j, o, F, N.ver) :: N.reads⟩
  | _ => N
def wpDraw (E : Env) (ops : List Oper) : List Oper → Nat → Tmps → AH → WNotes → (Tmps → AH → WNotes → Prop) → Prop
  | [], j, F, H, N, k => k F H ⟨N.ver, (j, N.ver, H) :: N.hist, N.reads⟩
  | o :: os, j, F, H, N, k => wGuard ops o F (fun F => wpOp E F H o.op fun v H' => wpDraw E ops os (j + 1) (F.put o.dst v) H' (wnote E j o F H N) k)
      (fun F => wpDraw E ops os (j + 1) (F.put o.dst undefV) H (bif Nat.beq (cls E o.op) 3 then wnote E j o F H N else N) k)
def mayAtW (bs : List Nat) (hist : List (Nat × Nat × AH)) (j p : Nat) : Bool :=
  !((bs.getD j 0).testBit p) && hist.all fun q => bif Nat.ble p q.1 then true else !((bs.getD q.1 0).testBit j)
def knownAll (F : Tmps) : List Operand → Bool
  | [] => true
  | .tmp t :: xs => (F.get t).isSome && knownAll F xs
  | _ :: xs => knownAll F xs
def wReadA (H : AH) (i : TyI) (a : Addr) (u : Value) (P : Prop) : Prop := match u with
  | .agg us => grd (i.agg && Nat.beq us.toList.length i.size && !(Nat.beq i.size 0)) (cellsP H a.block a.off 0 us.toList P)
  | u => grd (!i.agg) (H.cell a.block a.off = some u ∧ P)
def wReadL (H : AH) (i : TyI) (p u : Value) (P : Prop) : Prop := match p with
  | .pointer q => grd q.isSome (wReadA H i (adr q) u P)
  | _ => False
def wRead (E : Env) (F : Tmps) (H : AH) (op : Op) (u : Value) (P : Prop) : Prop := match op with
  | .load t x => wv F x fun p => match E.ty.get t with
    | some i => wReadL H i p u P
    | none => False
  | op => grd (knownAll F op.operands.toList) (readAny E F H op = some u ∧ P)
def vsh : Nat → Value → Bool
  | 0, _ => false
  | d + 1, v => match v with
    | .bool _ | .int _ _ | .float _ _ | .string _ | .pointer _ | .slice _ _ _ | .map _ | .chan _ | .nilFunc | .nilIface => true
    | .iface _ v => vsh d v
    | .agg a | .tuple a => a.toList.all (vsh d)
    | .func (.func _) a b => a.toList.all (vsh d) && b.toList.all (vsh d)
    | _ => false
def wHist (E : Env) (bs : List Nat) (all : List (Nat × Nat × AH)) (j : Nat) (o : Oper) (F : Tmps) (ver : Nat) (u : Value) : List (Nat × Nat × AH) → Prop → Prop
  | [], P => P
  | q :: qs, P => bif mayAtW bs all j q.1 && !(Nat.beq q.2.1 ver) then wRead E F q.2.2 o.op u (wHist E bs all j o F ver u qs P) else wHist E bs all j o F ver u qs P
def wReads (E : Env) (bs : List Nat) (all : List (Nat × Nat × AH)) (Fn : Tmps) : List (Nat × Oper × Tmps × Nat) → Prop → Prop
  | [], P => P
  | (j, o, F, ver) :: rs, P => match o.dst with
    | some d => match Fn.get d with
      | some u => grd (vsh 20 u) (wHist E bs all j o F ver u all (wReads E bs all Fn rs P))
      | none => False
    | none => False
def drawOk (E : Env) (n : Nat) (ops : List Oper) : Bool :=
  ssaOk ops (befores ops 0 []).reverse ops 0 && chainOk E (befores ops 0 []).reverse ops 0 [] && dstsOk n ops && edgesOk ops 0
def wpDrawn (E : Env) (ops : List Oper) (F : Tmps) (H : AH) (k : Tmps → AH → Prop) : Prop :=
  grd (drawOk E F.n ops) (wpDraw E ops ops 0 F H ⟨0, [], []⟩ fun F' H' N => wReads E (befores ops 0 []).reverse N.hist F' N.reads (k F' H'))
/-! ### Statements -/
structure KS where
  nxt : Tmps → AH → Prop
  ext : Nat → Tmps → AH → Prop
  ret : Tmps → AH → Prop
def opsDst : List Oper → List Tmp
  | [] => []
  | o :: os => match o.dst with
    | some d => d :: opsDst os
    | none => opsDst os
def assigned : Code → List Tmp
  | .region _ ops _ => opsDst ops.toList
  | .seq a b | .cond _ a b => assigned a ++ assigned b
  | .block _ b | .loop b | .scope b => assigned b
  | _ => []
def setT (F : Tmps) (x : Operand) (b : Bool) : Tmps := match x with
  | .tmp d => F.put (some d) (.bool b)
  | _ => F
def memN (x : Nat) : List Nat → Bool
  | [] => false
  | y :: l => bif Nat.beq x y then true else memN x l
def uniq : List Nat → List Nat → List Nat
  | [], _ => []
  | x :: l, seen => bif memN x seen then uniq l seen else x :: uniq l (x :: seen)
def carried (F : Tmps) : List Tmp → List (Tmp × Sh)
  | [] => []
  | d :: ds => match F.get d with
    | some v => match shV v with
      | some s => (d, s) :: carried F ds
      | none => carried F ds
    | none => carried F ds
def getL (F : Tmps) : List Tmp → List Value
  | [] => []
  | d :: ds => match F.get d with
    | some v => v :: getL F ds
    | none => .tuple #[] :: getL F ds
def wipe (F : Tmps) : List Tmp → Tmps
  | [] => F
  | d :: ds => wipe ⟨F.n, F.g, F.t.set d none⟩ ds
def fillT (F : Tmps) : List Tmp → List Value → Tmps
  | d :: ds, v :: vs => fillT ⟨F.n, F.g, F.t.set d (some v)⟩ ds vs
  | _, _ => F
def joinP (F : Tmps) (as : List Tmp) (cs : List (Tmp × Sh)) (J : InvC (flatSh (cs.map (·.2)))) (k : Tmps → AH → Prop) : Prop :=
  allCs (flatSh (cs.map (·.2))) fun vs => ∀ H, appC (flatSh (cs.map (·.2))) J vs H → k (fillT (wipe F as) (cs.map (·.1)) (foldV (cs.map (·.2)) vs)) H
def shOk : List Sh → List Value → Bool
  | [], [] => true
  | .one _ :: ss, v :: vs => oneCell v && shOk ss vs
  | .agg l :: ss, .agg cs :: vs => Nat.beq cs.toList.length l.length && shOk ss vs
  | _, _ => false
def atP (cs : List (Tmp × Sh)) (J : InvC (flatSh (cs.map (·.2)))) (F : Tmps) (H : AH) : Prop :=
  grd (shOk (cs.map (·.2)) (getL F (cs.map (·.1)))) (appC (flatSh (cs.map (·.2))) J (flatV (getL F (cs.map (·.1)))) H)
def strv (s : List UInt8) (lo hi : Option Value) : Option Value :=
  match boundOf s.length hi (some s.length) with
  | none => none
  | some h => match boundOf h lo (some 0) with
    | none => none
    | some l => some (.string ⟨((s.drop l).take (h - l)).toArray⟩)
def apnd (H : AH) (size bytes : Nat) (base : Option Addr) (len cap : Nat) (x : Value) : Option (Value × AH) :=
  match lenOfv x with
  | some n => match takev H size n x with
    | none => none
    | some new =>
      bif Nat.beq n 0 then (bif Nat.ble len (capN cap) then some (.slice base len cap, H) else none) else
      bif Nat.ble ((len + n) * bytes) 140737488355328 && Nat.ble (len + n) 140737488355328 && true then
        (match base with
        | none => bif Nat.beq cap 0 && Nat.beq len 0 then some (growv H size new n) else none
        | some a =>
          bif Nat.ble (len + n) (capN cap) then
            (match storeCellsv H a.block (a.off + len * size) new with
            | some H' => some (.slice (some a) (len + n) cap, H')
            | none => none)
          else match H.get a.block with
            | some (.cells cs es) => bif Nat.ble (a.off + len * size) cs.length && new.all oneCell then
                (bif Nat.beq (cap % 2) 0 then some (growv H size ((cs.drop a.off).take (len * size) ++ new) (len + n))
                else bif Nat.beq es size then some (growv (H.kill a.block) size ((cs.drop a.off).take (len * size) ++ new) (len + n)) else none)
              else none
            | _ => none)
      else none
  | none => none
structure Ann where
  blocks : List Nat
  conds : List Tmp
def wpCond (x : Operand) (F : Tmps) (a b : Tmps → Prop) : Prop := match evo F x with
  | some (.bool t) => cond t (a (setT F x true)) (b (setT F x false))
  | _ => False
def condTmp : Operand → Nat
  | .tmp d => d + 1
  | _ => 0
structure RdL (n g : Nat) (kn : List (Tmp × Value)) (R : List Tmp × Code × Code) (L : ALoop) : Prop where
  params : L.params = R.1
  assign : L.assign = R.2.1
  body : L.body = R.2.2
  n : L.T.n = n
  g : L.T.g = g
  get : ∀ p ∈ kn, L.T.get p.1 = some p.2
def frm (n g : Nat) : List (Tmp × Value) → Tmps
  | [] => ⟨n, g, .leaf⟩
  | (i, v) :: l => ⟨n, g, (frm n g l).t.set i (some v)⟩
def opTmps : List Operand → List Tmp
  | [] => []
  | .tmp t :: xs => t :: opTmps xs
  | _ :: xs => opTmps xs
def opsTmps : List Oper → List Tmp
  | [] => []
  | o :: os => opTmps o.op.operands.toList ++ opsTmps os
def usedT : Code → List Tmp
  | .region _ ops _ => opsTmps ops.toList
  | .seq a b => usedT a ++ usedT b
  | .cond x a b => opTmps [x] ++ (usedT a ++ usedT b)
  | .block _ b | .loop b | .scope b => usedT b
  | .rangeFunc f _ a b => opTmps [f] ++ (usedT a ++ usedT b)
  | _ => []
def knows (F : Tmps) : List Tmp → List (Tmp × Value)
  | [] => []
  | d :: ds => match F.get d with
    | some v => (d, v) :: knows F ds
    | none => knows F ds
def rangeFuncs : Code → List (List Tmp × Code × Code)
  | .rangeFunc _ ps a b => (ps.toList, a, b) :: (rangeFuncs a ++ rangeFuncs b)
  | .seq a b | .cond _ a b => rangeFuncs a ++ rangeFuncs b
  | .block _ b | .loop b | .scope b => rangeFuncs b
  | _ => []
def rfOf (E : Env) (f : FuncId) (i : Nat) : List Tmp × Code × Code := match E.fn.get f with
  | some fn => match fn.body with
    | some c => (rangeFuncs c).getD i ([], .skip, .skip)
    | none => ([], .skip, .skip)
  | none => ([], .skip, .skip)
def wpRange (E : Env) (F : Tmps) (H : AH) (f : Operand) (ps : List Tmp) (a b : Code) (K : KS) : Prop :=
  wv F f fun fv => match fv with
    | .func (.func fid) first captured => grd (E.ext.get fid).isNone (∀ L0 : ALoop, RdL F.n F.g (knows F (uniq (usedT a ++ usedT b) [])) (ps, a, b) L0 → L0.st = .ready → L0.pend = none →
        FW E fid (first.toList ++ [.func (.yield H.next) #[] #[]] ++ captured.toList) (H.new (.loop L0)) fun _ H2 =>
          ∃ L : ALoop, H2.get H.next = some (.loop L) ∧ L.st ≠ .busy ∧ match L.pend with
            | none => K.nxt F (H2.set H.next (.loop { L with st := .exhausted }))
            | some (.exit i) => K.ext i F (H2.set H.next (.loop { L with st := .exhausted }))
            | some .ret => K.ret F (H2.set H.next (.loop { L with st := .exhausted }))
            | _ => False)
    | _ => False
def wpC (E : Env) (A : Ann) : Code → Tmps → AH → KS → Prop
  | .skip, F, H, K | .label _, F, H, K => K.nxt F H
  | .region _ ops false, F, H, K => wpOps E ops.toList ops.toList F H K.nxt
  | .region _ ops true, F, H, K => wpDrawn E ops.toList F H K.nxt
  | .seq a b, F, H, K => wpC E A a F H ⟨fun F' H' => wpC E A b F' H' K, K.ext, K.ret⟩
  | .cond x a b, F, H, K =>
    bif memN (condTmp x) (A.conds.map (· + 1)) then
      ∃ J, wpCond x F (fun F' => wpC E A a F' H ⟨atP (carried F (uniq (assigned a ++ assigned b) [])) J, K.ext, K.ret⟩) (fun F' => wpC E A b F' H ⟨atP (carried F (uniq (assigned a ++ assigned b) [])) J, K.ext, K.ret⟩) ∧
        joinP F (uniq (assigned a ++ assigned b) []) (carried F (uniq (assigned a ++ assigned b) [])) J K.nxt
    else wpCond x F (fun F' => wpC E A a F' H K) (fun F' => wpC E A b F' H K)
  | .block id b, F, H, K =>
    bif memN id A.blocks then
      ∃ J, wpC E A b F H ⟨atP (carried F (uniq (assigned b) [])) J, fun i F' H' => bif Nat.beq i id then atP (carried F (uniq (assigned b) [])) J F' H' else K.ext i F' H', K.ret⟩ ∧
        joinP F (uniq (assigned b) []) (carried F (uniq (assigned b) [])) J K.nxt
    else wpC E A b F H ⟨K.nxt, fun i F' H' => bif Nat.beq i id then K.nxt F' H' else K.ext i F' H', K.ret⟩
  | .loop b, F, H, K =>
    ∃ I : Nat → InvC (flatSh ((carried F (uniq (assigned b) [])).map (·.2))), (∃ n, atP (carried F (uniq (assigned b) [])) (I n) F H) ∧
      ∀ n, joinP F (uniq (assigned b) []) (carried F (uniq (assigned b) [])) (I n) fun F' H' => wpC E A b F' H' ⟨fun F2 H2 => ∃ n', n' < n ∧ atP (carried F (uniq (assigned b) [])) (I n') F2 H2, K.ext, K.ret⟩
  | .scope b, F, H, K => wpC E A b F H K
  | .exit id, F, H, K => K.ext id F H
  | .ret, F, H, K => K.ret F H
  | .rangeFunc f ps a b, F, H, K => wpRange E F H f ps.toList a b K
  | .goto _, _, _, _ | .refuse _, _, _, _ => False
def wRes (E : Env) (F : Tmps) (H : AH) : List ResultVar → (List Value → Prop) → Prop
  | [], k => k []
  | .tmp t :: rs, k => onV (F.get t) fun v => wRes E F H rs fun vs => k (v :: vs)
  | .cell a t :: rs, k => onV (F.get a) fun p => wLoad E H t p fun v => wRes E F H rs fun vs => k (v :: vs)
def wpF (E : Env) (A : Ann) (f : FuncId) (args : List Value) (H : AH) (Q : Value → AH → Prop) : Prop :=
  match E.fn.get f with
  | some fn => match fn.body with
    | some c => grd ((E.sum.get f).isNone && Nat.ble args.length fn.ntmps)
        (wpC E A c ⟨fn.ntmps, E.g, Tr.ofList 0 args⟩ H ⟨fun F H' => wRes E F H' fn.results.toList fun vs => Q (tupled vs) H', fun _ _ _ => False, fun F H' => wRes E F H' fn.results.toList fun vs => Q (tupled vs) H'⟩)
    | none => False
  | none => False
def wSetArgs (F : Tmps) : List Tmp → List Value → Option Tmps
  | [], [] => some F
  | t :: ts, v :: vs => wSetArgs (F.put (some t) v) ts vs
  | _, _ => none
def endP (l : Nat) (Q : Value → AH → Prop) (c : Option Code) (H : AH) : Prop :=
  ∃ L : ALoop, H.get l = some (.loop L) ∧ Q (.bool c.isNone) (H.set l (.loop { L with st := (match c with | none => .ready | some _ => .done), pend := c }))
def wpRound (E : Env) (A : Ann) (F : Tmps) (ps : List Tmp) (as body : Code) (l : Nat) (args : List Value) (H : AH) (Q : Value → AH → Prop) : Prop :=
  grd (flat as && flat body) (match wSetArgs F ps args with
    | some F1 => wpC E A as F1 H ⟨fun F2 H2 => ∃ L : ALoop, H2.get l = some (.loop L) ∧ L.st = .ready ∧ L.body = body ∧
        wpC E A body F2 (H2.set l (.loop { L with st := .busy })) ⟨fun _ H3 => endP l Q none H3, fun i _ H3 => endP l Q (some (.exit i)) H3, fun _ H3 => endP l Q (some .ret) H3⟩, fun _ _ _ => False, fun _ _ => False⟩
    | none => False)
end Go.Ev
namespace Go.Ev
open Go
theorem grd_elim {b : Bool} {P : Prop} (h : grd b P) : b = true ∧ P := by
  cases b with
  | false => exact h.elim
  | true => exact ⟨rfl, h⟩
theorem grd_intro {b : Bool} {P : Prop} (h : b = true) (p : P) : grd b P := by subst h; exact p
structure Fits (F T : Tmps) : Prop where
  n : T.n = F.n
  g : T.g = F.g
  get : ∀ i v, F.get i = some v → T.get i = some v
theorem Fits.refl (F : Tmps) : Fits F F := ⟨rfl, rfl, fun _ _ e => e⟩
section
variable {F T : Tmps}
theorem Fits.evo (h : Fits F T) {x : Operand} {v : Value} (e : Ev.evo F x = some v) : Ev.evo T x = some v := by
  cases x with
  | tmp t => exact h.get _ _ e
  | const c => exact e
  | global k => simp only [Ev.evo, h.g] at e ⊢; exact e
  | func f => exact e
theorem Fits.evs (h : Fits F T) : ∀ {xs : List Operand} {vs : List Value}, Ev.evs F xs = some vs → Ev.evs T xs = some vs
  | [], _, e => e
  | x :: xs, vs, e => by
    simp only [Ev.evs] at e ⊢
    cases h1 : Ev.evo F x with
    | none => rw [h1] at e; cases e
    | some v =>
      rw [h1] at e; simp only at e
      cases h2 : Ev.evs F xs with
      | none => rw [h2] at e; cases e
      | some us => rw [h2] at e; rw [h.evo h1, h.evs h2]; exact e
theorem Fits.evps (h : Fits F T) : ∀ {xs : List (Nat × Operand)} {vs : List (Nat × Value)}, Ev.evps F xs = some vs → Ev.evps T xs = some vs
  | [], _, e => e
  | (i, x) :: xs, vs, e => by
    simp only [Ev.evps] at e ⊢
    cases h1 : Ev.evo F x with
    | none => rw [h1] at e; cases e
    | some v =>
      rw [h1] at e; simp only at e
      cases h2 : Ev.evps F xs with
      | none => rw [h2] at e; cases e
      | some us => rw [h2] at e; rw [h.evo h1, h.evps h2]; exact e
theorem Tmps.get_put (T : Tmps) (d : Tmp) (v : Value) (i : Nat) : (T.put (some d) v).get i = if i = d ∧ d < T.n then some v else T.get i := by
  simp only [Tmps.put]
  cases hb : Nat.blt d T.n
  · have : ¬ d < T.n := fun e => by rw [show Nat.blt d T.n = true from by simpa [Nat.blt_eq] using e] at hb; cases hb
    simp [this]
  · have : d < T.n := by simpa [Nat.blt_eq] using hb
    simp only [cond_true, Tmps.get, Tr.get_set]
    by_cases e : i = d <;> simp [e, this]
theorem Tmps.put_n (T : Tmps) (d : Option Tmp) (v : Value) : (T.put d v).n = T.n := by
  cases d with
  | none => rfl
  | some d => simp only [Tmps.put]; cases Nat.blt d T.n <;> rfl
theorem Tmps.put_g (T : Tmps) (d : Option Tmp) (v : Value) : (T.put d v).g = T.g := by
  cases d with
  | none => rfl
  | some d => simp only [Tmps.put]; cases Nat.blt d T.n <;> rfl
theorem Fits.put (h : Fits F T) (d : Option Tmp) (v : Value) : Fits (F.put d v) (T.put d v) := by
  refine ⟨by rw [Tmps.put_n, Tmps.put_n, h.n], by rw [Tmps.put_g, Tmps.put_g, h.g], ?_⟩
  cases d with
  | none => exact h.get
  | some d =>
    intro i u
    rw [Tmps.get_put, Tmps.get_put, h.n]
    split
    · exact id
    · exact h.get i u
theorem Fits.know (h : Fits F T) {d : Tmp} {v : Value} (e : T.get d = some v) : Fits (F.put (some d) v) T := by
  refine ⟨by rw [Tmps.put_n, h.n], by rw [Tmps.put_g, h.g], ?_⟩
  intro i u hu
  rw [Tmps.get_put] at hu
  split at hu
  · rename_i hc; cases hu; rw [hc.1]; exact e
  · exact h.get i u hu
end
theorem wv_elim {F : Tmps} {x : Operand} {k : Value → Prop} (h : wv F x k) : ∃ v, evo F x = some v ∧ k v := by
  unfold wv at h; split at h
  · rename_i v hv; exact ⟨v, hv, h⟩
  · exact h.elim
theorem wvs_elim {F : Tmps} {x : List Operand} {k : List Value → Prop} (h : wvs F x k) : ∃ v, evs F x = some v ∧ k v := by
  unfold wvs at h; split at h
  · rename_i v hv; exact ⟨v, hv, h⟩
  · exact h.elim
theorem onV_elim {o : Option Value} {k : Value → Prop} (h : onV o k) : ∃ v, o = some v ∧ k v := by
  unfold onV at h; split at h
  · rename_i v; exact ⟨v, rfl, h⟩
  · exact h.elim
section
variable {E : Env} {H : AH}
theorem wBin_elim {op : BinOp} {t : TypeId} {v u : Value} {k : Value → Prop} (h : wBin E op t v u k) : ∃ r, binv E op t v u = some r ∧ k r := by
  have nilE : ∀ {α : Type} {c : Bool} {a b : Option α} {k : Bool → Prop}, wNilEq c a b k → c = true ∧ ((b = none ∧ k a.isNone) ∨ (∃ y, b = some y ∧ a = none ∧ k false)) := by
    intro α c a b k h
    obtain ⟨h1, h2⟩ := grd_elim h
    refine ⟨h1, ?_⟩
    cases b with
    | none => exact .inl ⟨rfl, h2⟩
    | some y => cases a with
      | none => exact .inr ⟨y, rfl, rfl, h2⟩
      | some z => exact h2.elim
  have ptrE : ∀ {a b : Option Addr} {k : Bool → Prop}, wNilEq (isPtr E t) a b k → ∃ r, eqv E eqDepth t (.pointer a) (.pointer b) = some r ∧ k r := by
    intro a b k h
    obtain ⟨h1, h2⟩ := nilE h
    unfold isPtr at h1
    cases hi : E.ty.get t with
    | none => rw [hi] at h1; cases h1
    | some i =>
      rw [hi] at h1; simp only at h1
      split at h1
      · rename_i e hu
        rcases h2 with ⟨rfl, h2⟩ | ⟨y, rfl, rfl, h2⟩
        · cases a <;> exact ⟨_, by simp [eqDepth, eqv, hi, hu], h2⟩
        · exact ⟨_, by simp only [eqDepth, eqv, hi, hu]; rfl, h2⟩
      · cases h1
  have mapE : ∀ {a b : Option Nat} {k : Bool → Prop}, wNilEq (isMap E t) a b k → ∃ r, eqv E eqDepth t (.map a) (.map b) = some r ∧ k r := by
    intro a b k h
    obtain ⟨h1, h2⟩ := nilE h
    unfold isMap at h1
    cases hi : E.ty.get t with
    | none => rw [hi] at h1; cases h1
    | some i =>
      rw [hi] at h1; simp only at h1
      split at h1
      · rename_i e hu
        rcases h2 with ⟨rfl, h2⟩ | ⟨y, rfl, rfl, h2⟩
        · cases a <;> exact ⟨_, by simp [eqDepth, eqv, hi, hu], h2⟩
        · exact ⟨_, by simp only [eqDepth, eqv, hi, hu]; rfl, h2⟩
      · cases h1
  have ar : ∀ {kd kd' : IntKind} {e : Int} {r : Value}, grd (decide (kd = kd')) (∀ n : Int, n = e → k (.int kd n)) → (kd = kd' → binv E op t v u = some r) → r = .int kd e → ∃ r, binv E op t v u = some r ∧ k r := by
    intro kd kd' e r h h2 h3
    obtain ⟨h4, h5⟩ := grd_elim h
    exact ⟨r, h2 (of_decide_eq_true h4), h3 ▸ h5 e rfl⟩
  unfold wBin at h
  split at h
  · exact ar h (fun e => by subst e; simp only [binv, ne_eq, not_true_eq_false, if_false, Op.intArith]; rfl) rfl
  · exact ar h (fun e => by subst e; simp only [binv, ne_eq, not_true_eq_false, if_false, Op.intArith]; rfl) rfl
  · exact ar h (fun e => by subst e; simp only [binv, ne_eq, not_true_eq_false, if_false, Op.intArith]; rfl) rfl
  · exact ar h (fun e => by subst e; simp only [binv, ne_eq, not_true_eq_false, if_false, Op.intBits]; rfl) rfl
  · exact ar h (fun e => by subst e; simp only [binv, ne_eq, not_true_eq_false, if_false, Op.intBits]; rfl) rfl
  · exact ar h (fun e => by subst e; simp only [binv, ne_eq, not_true_eq_false, if_false, Op.intBits]; rfl) rfl
  · exact ar h (fun e => by subst e; simp only [binv, ne_eq, not_true_eq_false, if_false, Op.intBits]; rfl) rfl
  · obtain ⟨h1, h2, h3⟩ := grd_elim h
    have h1 := of_decide_eq_true h1
    subst h1
    exact ⟨_, by simp [binv, Op.intDiv, h2, pureOf]; rfl, h3 _ rfl⟩
  · obtain ⟨h1, h2, h3⟩ := grd_elim h
    have h1 := of_decide_eq_true h1
    subst h1
    exact ⟨_, by simp [binv, Op.intDiv, h2, pureOf]; rfl, h3 _ rfl⟩
  · obtain ⟨h2, h3⟩ := h
    exact ⟨_, by simp [binv, Op.shift, pureOf]; rw [if_neg (by omega)]; rfl, h3 _ rfl⟩
  · obtain ⟨h2, h3⟩ := h
    exact ⟨_, by simp [binv, Op.shift, pureOf]; rw [if_neg (by omega)]; rfl, h3 _ rfl⟩
  · obtain ⟨h2, h3⟩ := h
    exact ⟨_, by simp only [binv]; rw [if_pos h2], h3⟩
  · obtain ⟨r, h1, h2⟩ := ptrE h
    exact ⟨_, by simp only [binv, h1], h2⟩
  · obtain ⟨r, h1, h2⟩ := ptrE h
    exact ⟨_, by simp only [binv, h1], h2⟩
  · obtain ⟨r, h1, h2⟩ := mapE h
    exact ⟨_, by simp only [binv, h1], h2⟩
  · obtain ⟨r, h1, h2⟩ := mapE h
    exact ⟨_, by simp only [binv, h1], h2⟩
  · obtain ⟨b, h1, h2⟩ := h; exact ⟨_, h1, h2⟩
  · obtain ⟨b, h1, h2⟩ := h; exact ⟨_, h1, h2⟩
  · obtain ⟨b, h1, h2⟩ := h; exact ⟨_, h1, h2⟩
  · obtain ⟨b, h1, h2⟩ := h; exact ⟨_, h1, h2⟩
  · exact onV_elim h
theorem wFieldAddr_elim {t : TypeId} {x : Value} {f : Nat} {k : Value → Prop} (h : wFieldAddr E t x f k) : ∃ r, fieldAddrv E t x f = some r ∧ k r := by
  unfold wFieldAddr at h
  split at h
  · rename_i fd q hfd
    split at h
    · rename_i j hj
      obtain ⟨h1, h2⟩ := grd_elim h
      simp only [Bool.and_eq_true, Bool.not_eq_true'] at h1
      cases q with
      | none => simp at h1
      | some a => exact ⟨_, by simp only [fieldAddrv, hfd, hj, h1.1, cond_false]; rfl, h2⟩
    · exact h.elim
  · exact h.elim
theorem wIndexAddr_elim {t : TypeId} {x ix : Value} {k : Value → Prop} (h : wIndexAddr E t x ix k) : ∃ r, indexAddrv E t x ix = some r ∧ k r := by
  unfold wIndexAddr at h
  cases hi : E.ty.get t with
  | none => rw [hi] at h; exact h.elim
  | some i =>
    rw [hi] at h; simp only at h
    split at h
    · rename_i n e q kd j hu
      split at h
      · rename_i y hy
        obtain ⟨h1, h2, h3, h4⟩ := grd_elim h
        cases q with
        | none => cases h1
        | some a => exact ⟨_, by simp only [indexAddrv, hi, hu, hy]; rw [if_pos ⟨h2, h3⟩]; rfl, h4⟩
      · exact h.elim
    · rename_i e q len cp kd j hu
      split at h
      · rename_i y hy
        obtain ⟨h1, h2, h3, h4⟩ := grd_elim h
        cases q with
        | none => cases h1
        | some a => exact ⟨_, by simp only [indexAddrv, hi, hu, hy]; rw [if_pos ⟨h2, h3⟩]; rfl, h4⟩
      · exact h.elim
    · exact h.elim
theorem exC_elim {c : CK} {P : Value → Prop} (h : exC c P) : ∃ v, P v := by
  cases c with
  | bool => obtain ⟨x, h⟩ := h; exact ⟨_, h⟩
  | int k => obtain ⟨x, h⟩ := h; exact ⟨_, h⟩
  | str => obtain ⟨x, h⟩ := h; exact ⟨_, h⟩
  | ptr => obtain ⟨x, h⟩ := h; exact ⟨_, h⟩
  | sl => obtain ⟨a, l, c, h⟩ := h; exact ⟨_, h⟩
  | map => obtain ⟨x, h⟩ := h; exact ⟨_, h⟩
  | any => obtain ⟨x, h⟩ := h; exact ⟨_, h⟩
theorem wIndex_elim {t : TypeId} {x ix : Value} {k : Value → Prop} (h : wIndex E t x ix k) : ∃ r, indexv E t x ix = some r ∧ k r := by
  unfold wIndex at h
  cases hi : E.ty.get t with
  | none => rw [hi] at h; exact h.elim
  | some i =>
    rw [hi] at h; simp only at h
    split at h
    · rename_i s kd j hu
      obtain ⟨h1, h2, h3⟩ := h
      refine ⟨_, ?_, h3⟩
      simp only [indexv, hi, hu]
      rw [if_pos h1]
      have hlt : j.toNat < s.data.toList.length := by omega
      rw [List.getElem?_eq_getElem hlt]
      simp only [byteAt, List.getD_eq_getElem?_getD, List.getElem?_eq_getElem hlt, Option.getD_some]
    · rename_i n e hu
      cases hc : ckOf E e with
      | none => rw [hc] at h; exact h
      | some c => rw [hc] at h; exact exC_elim h
    · exact h
theorem wNil_elim {v : Value} {k : Value → Prop} (h : wNil v k) : ∃ r, nilCheckv v = some r ∧ k r := by
  unfold wNil at h
  split at h
  · rename_i q
    obtain ⟨h1, h2⟩ := grd_elim h
    cases q with
    | none => cases h1
    | some a => exact ⟨_, rfl, h2⟩
  · exact onV_elim h
theorem AH.cell_some {b o : Nat} {v : Value} (h : H.cell b o = some v) : ∃ cs, H.rd b = some cs ∧ cs[o]? = some v := by
  unfold AH.cell at h
  split at h
  · rename_i cs hc; exact ⟨cs, hc, h⟩
  · cases h
theorem cellsP_elim {b o : Nat} : ∀ {vs : List Value} {i : Nat} {P : Prop}, cellsP H b o i vs P → (∀ j v, vs[j]? = some v → H.cell b (o + i + j) = some v) ∧ P
  | [], _, _, h => ⟨by simp, h⟩
  | v :: vs, i, P, h => by
    obtain ⟨h1, h2⟩ := h
    obtain ⟨h3, h4⟩ := cellsP_elim h2
    refine ⟨?_, h4⟩
    intro j u e
    cases j with
    | zero => simp at e; subst e; exact h1
    | succ j =>
      have := h3 j u (by simpa using e)
      rw [show o + i + (j + 1) = o + (i + 1) + j from by omega]; exact this
theorem exCs_elim : ∀ {cs : List CK} {P : List Value → Prop}, exCs cs P → ∃ vs, vs.length = cs.length ∧ P vs
  | [], _, h => ⟨[], rfl, h⟩
  | c :: cs, P, h => by
    obtain ⟨v, h⟩ := exC_elim h
    obtain ⟨vs, h1, h2⟩ := exCs_elim h
    exact ⟨v :: vs, by simp [h1], h2⟩
theorem exTy_elim {t : TypeId} {P : Value → Prop} (h : exTy E t P) : ∃ v, P v := by
  unfold exTy at h
  split at h
  · rename_i i _
    cases ha : i.agg with
    | false =>
      rw [ha] at h; simp only [cond_false] at h
      split at h
      · exact exC_elim h
      · exact h.elim
    | true =>
      rw [ha] at h; simp only [cond_true] at h
      split at h
      · obtain ⟨vs, _, h⟩ := exCs_elim h; exact ⟨_, h⟩
      · exact h.elim
  · exact h.elim
theorem exTys_elim : ∀ {ts : List TypeId} {P : List Value → Prop}, exTys E ts P → ∃ vs, P vs
  | [], _, h => ⟨[], h⟩
  | _ :: _, _, h => let ⟨v, h⟩ := exTy_elim h; let ⟨vs, h⟩ := exTys_elim h; ⟨v :: vs, h⟩
theorem exBoxes_elim : ∀ {n : Nat} {P : List Value → Prop}, exBoxes n P → ∃ vs, P vs := by
  intro n
  induction n with
  | zero => intro P h; exact ⟨[], h⟩
  | succ n ih => intro P h; obtain ⟨b, h⟩ := h; obtain ⟨vs, h⟩ := ih h; exact ⟨_, h⟩
theorem exRet_elim {f : FuncId} {v : Value} {k : Value → Prop} (h : exRet E f v k) : k v := by
  unfold exRet at h
  split at h
  · obtain ⟨vs, h1, h2⟩ := exBoxes_elim h; rw [h1]; exact h2
  · split at h
    · obtain ⟨vs, h1, h2⟩ := exTys_elim h; rw [h1]; exact h2
    · exact h.elim
theorem cells_take {b o n : Nat} {vs : List Value} (hn : vs.length = n) (h : ∀ j v, vs[j]? = some v → H.cell b (o + j) = some v) (hp : 0 < n) :
    ∃ cs, H.rd b = some cs ∧ o + n ≤ cs.length ∧ (cs.drop o).take n = vs := by
  obtain ⟨v0, h0⟩ : ∃ v, vs[0]? = some v := ⟨vs[0]'(by omega), List.getElem?_eq_getElem _⟩
  obtain ⟨cs, g1, _⟩ := AH.cell_some (h 0 v0 h0)
  have hall : ∀ j, j < n → cs[o + j]? = vs[j]? := by
    intro j hj
    have hv : vs[j]? = some (vs[j]'(by omega)) := List.getElem?_eq_getElem _
    obtain ⟨cs', k1, k2⟩ := AH.cell_some (h j _ hv)
    rw [g1] at k1; cases k1
    rw [k2, hv]
  have hlen : o + n ≤ cs.length := by
    have := hall (n - 1) (by omega)
    rw [List.getElem?_eq_getElem (show n - 1 < vs.length by omega)] at this
    have := (List.getElem?_eq_some_iff.1 this).1
    omega
  refine ⟨cs, g1, hlen, ?_⟩
  apply List.ext_getElem?
  intro j
  by_cases hj : j < n
  · rw [List.getElem?_take, if_pos hj, List.getElem?_drop, hall j hj]
  · rw [List.getElem?_eq_none (by simp; omega), List.getElem?_eq_none (by omega)]
theorem wLoad_elim {t : TypeId} {x : Value} {k : Value → Prop} (h : wLoad E H t x k) : ∃ r, loadv E H t x = some r ∧ k r := by
  unfold wLoad at h
  split at h
  · rename_i q
    obtain ⟨h1, h⟩ := grd_elim h
    cases q with
    | none => cases h1
    | some a =>
      split at h
      · rename_i i hi
        cases ha : i.agg with
        | false =>
          rw [ha] at h; simp only [cond_false] at h
          have one : ∀ {v : Value}, H.cell (adr (some a)).block (adr (some a)).off = some v → loadv E H t (.pointer (some a)) = some v := by
            intro v g1
            obtain ⟨cs, k1, k2⟩ := AH.cell_some g1
            simp only [adr] at k1 k2
            simp only [loadv, hi, k1, ha, cond_false]; exact k2
          split at h
          · obtain ⟨vs, g1, g2⟩ := exBoxes_elim h
            exact ⟨_, one g1, g2⟩
          · split at h
            · obtain ⟨v, g1, g2⟩ := exC_elim h
              exact ⟨v, one g1, g2⟩
            · exact h.elim
        | true =>
          rw [ha] at h; simp only [cond_true] at h
          split at h
          · rename_i ks _
            obtain ⟨g0, h⟩ := grd_elim h
            obtain ⟨g0, gz⟩ := Bool.and_eq_true_iff.1 g0
            have g0 := Nat.eq_of_beq_eq_true g0
            obtain ⟨vs, g1, g2⟩ := exCs_elim h
            obtain ⟨g3, g4⟩ := cellsP_elim g2
            refine ⟨_, ?_, g4⟩
            simp only [adr, Nat.add_zero] at g3
            have h0 : 0 < i.size := by
              rcases Nat.eq_zero_or_pos i.size with h0 | h0
              · rw [h0] at gz; cases gz
              · exact h0
            obtain ⟨cs, k1, k2, k3⟩ := cells_take (n := i.size) (by omega) g3 h0
            simp only [loadv, hi, k1, ha, cond_true, Nat.ble_eq_true_of_le k2, k3]
          · exact h.elim
      · exact h.elim
  · exact h.elim
end
end Go.Ev
namespace Go.Ev
open Go
section
variable {E : Env} {H : AH} {F T : Tmps} {ih : Rec}
theorem doOp_pure {op : Op} {v : Value} (hc : cls E op = 0) (hp : pureOp E T op = some v) : doOp E ih op T H = some (v, H) := by
  unfold doOp; simp only [hc, hp]
theorem doOp_read {op : Op} {v : Value} (hc : cls E op = 1) (hp : readOp E T H op = some v) : doOp E ih op T H = some (v, H) := by
  unfold doOp; simp only [hc, hp]
theorem doOp_new {op : Op} {o : AObj} {a : Ans} (hc : cls E op = 2) (hp : newOp E T op = some (o, a)) : doOp E ih op T H = some (a.val H.next, H.new o) := by
  unfold doOp; simp only [hc, hp]
theorem doOp_eff {op : Op} {x : Value × AH} (hc : cls E op = 3) (hp : effOp E ih T H op = some x) : doOp E ih op T H = some x := by
  unfold doOp; simp only [hc]; exact hp
theorem exSl_elim {o : Option Value} {k : Value → Prop} (h : exSl o k) : ∃ v, o = some v ∧ k v := let ⟨_, _, _, h1, h2⟩ := h; ⟨_, h1, h2⟩
theorem exStr_elim {o : Option Value} {k : Value → Prop} (h : exStr o k) : ∃ v, o = some v ∧ k v := let ⟨_, h1, h2⟩ := h; ⟨_, h1, h2⟩
theorem wSlice_elim {t : TypeId} {x : Value} {lo hi mx : Option Value} {k : Value → Prop} (h : wSlice E H t x lo hi mx k) : ∃ v, slicev E H t x lo hi mx = some v ∧ k v := by
  unfold wSlice at h
  split at h
  · exact exSl_elim h
  · exact exStr_elim h
  · exact h.elim
theorem wLookup_elim {t : TypeId} {m key : Value} {ok : Bool} {k : Value → Prop} (h : wLookup E H t m key ok k) : ∃ v, lookupv E H t m key ok = some v ∧ k v := by
  unfold wLookup at h
  split at h
  · split at h
    · cases ok with
      | true => simp only [cond_true] at h; obtain ⟨v, b, h1, h2⟩ := exTy_elim h; exact ⟨_, h1, h2⟩
      | false => simp only [cond_false] at h; obtain ⟨v, h1, h2⟩ := exTy_elim h; exact ⟨_, h1, h2⟩
    · exact h.elim
  · exact h.elim
theorem newOp_fits (hF : Fits F T) {op : Op} {x : AObj × Ans} (e : newOp E F op = some x) : newOp E T op = some x := by
  have ev : ∀ {x v}, evo F x = some v → evo T x = some v := hF.evo
  cases op <;> first | exact e | skip
  case box t x =>
    simp only [newOp] at e ⊢
    cases h1 : evo F x with
    | none => rw [h1] at e; cases e
    | some v => rw [h1] at e; rw [ev h1]; exact e
  case buildSlice t n ps =>
    simp only [newOp] at e ⊢
    cases hi : E.ty.get t with
    | none => rw [hi] at e; cases e
    | some i =>
      rw [hi] at e; simp only at e ⊢
      split at e
      · rename_i el hu
        cases h1 : evps F ps.toList with
        | none => rw [h1] at e; cases E.ty.get el <;> simp at e
        | some vs => rw [h1] at e; rw [hF.evps h1]; exact e
      · cases e
  case makeSlice t l c =>
    simp only [newOp] at e ⊢
    cases hi : E.ty.get t with
    | none => rw [hi] at e; simp at e
    | some i =>
      rw [hi] at e
      cases h1 : evo F l with
      | none => rw [h1] at e; simp at e
      | some lv =>
        cases h2 : evo F c with
        | none => rw [h1, h2] at e; cases lv <;> simp at e
        | some cv => rw [h1, h2] at e; rw [ev h1, ev h2]; exact e
  case makeMap t r =>
    simp only [newOp] at e ⊢
    cases hi : E.ty.get t with
    | none => rw [hi] at e; simp at e
    | some i =>
      rw [hi] at e
      cases h1 : evs F r.toList with
      | none => rw [h1] at e; simp at e
      | some vs => rw [h1] at e; rw [hF.evs h1]; exact e
  case convert s d x =>
    simp only [newOp] at e ⊢
    cases h1 : evo F x with
    | none => rw [h1] at e; split at e <;> first | cases e | (rename_i h2; cases h2)
    | some v => rw [h1] at e; rw [ev h1]; exact e
theorem wMakeSlice_elim {op : Op} {t : TypeId} {l c : Operand} {lv cv : Value} {k : Value → AH → Prop} (hop : op = .makeSlice t l c) (hl : evo T l = some lv) (hcv : evo T c = some cv)
    (h : wMakeSlice E H t lv cv k) : ∃ v H', doOp E ih op T H = some (v, H') ∧ k v H' := by
  subst hop
  unfold wMakeSlice at h
  split at h
  · rename_i i k1 l' k2 c' hi
    split at h
    · rename_i e hu
      split at h
      · rename_i j hj
        split at h
        · rename_i z hz
          obtain ⟨g0, g1, g2, g3, g4, g5⟩ := grd_elim h
          obtain ⟨ga, gb⟩ := Bool.and_eq_true_iff.1 g0
          refine ⟨_, _, doOp_new (o := .cells ((List.replicate c'.toNat (cellsOf z)).flatten) 0) (a := .sl l'.toNat (2 * c'.toNat)) rfl ?_, g5 _ rfl⟩
          simp only [newOp, hi, hl, hcv, hu, hj, hz]
          rw [if_pos ⟨g1, g2, g3⟩]
          simp [ga, gb, Nat.ble_eq_true_of_le g4]
        · exact h.elim
      · exact h.elim
    · exact h.elim
  · exact h.elim
theorem wConv_elim (hF : Fits F T) {op : Op} {s d : TypeId} {x : Operand} {v : Value} {k : Value → AH → Prop} (hop : op = .convert s d x) (hx : evo F x = some v)
    (h : wConv E F H op s d v k) : ∃ v H', doOp E ih op T H = some (v, H') ∧ k v H' := by
  subst hop
  unfold wConv at h
  split at h
  · rename_i hc
    obtain ⟨r, h1, h2⟩ := onV_elim h
    refine ⟨r, H, doOp_pure hc (by simp only [pureOp, hF.evo hx, h1]), ?_⟩
    split at h2
    · exact h2 _ rfl
    · exact h2
  · rename_i hc
    obtain ⟨r, h1, h2⟩ := exStr_elim h
    exact ⟨r, H, doOp_read hc (by simp only [readOp, hF.evo hx, h1]), h2⟩
  · rename_i hc
    split at h
    · rename_i o a hn
      exact ⟨_, _, doOp_new hc (newOp_fits hF hn), h _ rfl⟩
    · exact h.elim
  · exact h.elim
theorem wLen_elim {op : Op} {c : Call} {v : Value} {k : Value → Prop} (hop : op = .call c) (hb : c.callee = .builtin .len) (hx : evs T c.args.toList = some [v])
    (h : wLen E H c.argTypes.toList v k) : ∃ r, doOp E ih op T H = some (r, H) ∧ k r := by
  subst hop
  unfold wLen at h
  split at h
  · exact h.elim
  · rename_i t ts hts
    have hgd : c.argTypes.getD 0 0 = t := by
      have : c.argTypes = (t :: ts).toArray := by rw [← hts]
      rw [this]; rfl
    split at h
    · rename_i i r hi
      split at h
      · rename_i kt et hu
        have hcls : cls E (.call c) = 1 := by simp only [cls, hb, hgd, hi, hu]
        rcases h with ⟨rfl, h⟩ | ⟨b, es, cl, rfl, hg, h⟩
        · refine ⟨_, ?_, h⟩
          unfold doOp
          simp only [hcls]
          have h1 : readOp E T H (.call c) = none := by simp only [readOp, hb, hx]
          rw [h1]
          have h2 : pureOp E T (.call c) = some (.int .i64 0) := by simp only [pureOp, hb, hx, hts, lenv, hi, hu]
          rw [h2]
        · exact ⟨_, doOp_read hcls (by simp only [readOp, hb, hx, hts, hi, hg, hu]), h⟩
      · exact h.elim
    · rename_i v0 i hi hno
      split at h
      · exact h.elim
      · rename_i hnu
        obtain ⟨r, h1, h2⟩ := onV_elim h
        have hcls : cls E (.call c) = 0 := by
          simp only [cls, hb, hgd, hi]
        exact ⟨r, doOp_pure hcls (by simp only [pureOp, hb, hx, hts]; exact h1), h2⟩
    · exact h.elim
theorem wCall_elim (hF : Fits F T) {op : Op} {c : Call} {k : Value → AH → Prop} (hop : op = .call c)
    (h : wCall E F H c k) : ∃ n v H', doOp E (evalN E n) op T H = some (v, H') ∧ k v H' := by
  subst hop
  obtain ⟨args, ha, h⟩ := wvs_elim h
  have ha' := hF.evs ha
  have eff : ∀ {b : Builtin} {x : Value × AH} {n : Nat}, c.callee = .builtin b → b ≠ .len → b ≠ .max → b ≠ .min → effOp E (evalN E n) T H (.call c) = some x → doOp E (evalN E n) (.call c) T H = some x := by
    intro b x n hb h1 h2 h3 e
    refine doOp_eff ?_ e
    simp only [cls, hb]
    try (cases b <;> first | rfl | exact (h1 rfl).elim | exact (h2 rfl).elim | exact (h3 rfl).elim)
  split at h
  · rename_i f hf
    obtain ⟨fv, hfv, h⟩ := wv_elim h
    have hfv' := hF.evo hfv
    split at h
    · rename_i fid first captured
      obtain ⟨h1, h2⟩ := grd_elim h
      obtain ⟨n, v, H', h3, h4⟩ := h2.run
      refine ⟨n, v, H', doOp_eff (by simp only [cls, hf]) ?_, exRet_elim h4⟩
      simp only [effOp, callOp, ha', hf, hfv', callFn]
      rw [Option.isNone_iff_eq_none.1 h1]
      exact h3
    · rename_i l first captured
      obtain ⟨n, v, H', h3, b, rfl, h4⟩ := h.run
      refine ⟨n, _, H', doOp_eff (by simp only [cls, hf]) ?_, h4⟩
      simp only [effOp, callOp, ha', hf, hfv', callFn]
      exact h3
    · exact h.elim
  · rename_i r name hf
    obtain ⟨rv, hrv, h⟩ := wv_elim h
    have hrv' := hF.evo hrv
    split at h
    · rename_i t v
      obtain ⟨⟨f, rc⟩, h1, h2⟩ := h
      obtain ⟨h3, h4⟩ := grd_elim h2
      obtain ⟨n, v', H', h5, h6⟩ := h4.run
      refine ⟨n, v', H', doOp_eff (by simp only [cls, hf]) ?_, h6⟩
      simp only [effOp, callOp, ha', hf, hrv', callFn, h1]
      rw [Option.isNone_iff_eq_none.1 h3]
      exact h5
    · exact h.elim
  · rename_i hb
    split at h
    · obtain ⟨r, h1, h2⟩ := wLen_elim (ih := evalN E 0) rfl hb ha' h
      exact ⟨0, r, H, h1, h2⟩
    · exact h.elim
  · rename_i hb
    split at h
    · obtain ⟨r, h1, h2⟩ := onV_elim h
      exact ⟨0, r, H, doOp_pure (by simp only [cls, hb]) (by simp only [pureOp, hb, ha', h1]), h2⟩
    · exact h.elim
  · rename_i hb
    split at h
    · obtain ⟨r, h1, h2⟩ := onV_elim h
      exact ⟨0, r, H, doOp_pure (by simp only [cls, hb]) (by simp only [pureOp, hb, ha', h1]), h2⟩
    · exact h.elim
  · rename_i hb
    split at h
    · obtain ⟨a, l, c', H', h1, h2⟩ := h
      exact ⟨0, _, H', eff hb (by decide) (by decide) (by decide) (by simp only [effOp, callOp, ha', hb, h1]), h2⟩
    · exact h.elim
  · rename_i hb
    split at h
    · obtain ⟨n, H', h1, h2⟩ := h
      exact ⟨0, _, H', eff hb (by decide) (by decide) (by decide) (by simp only [effOp, callOp, ha', hb, h1]), h2⟩
    · exact h.elim
  · rename_i hb
    split at h
    · obtain ⟨n, H', h1, h2⟩ := h
      exact ⟨0, _, H', eff hb (by decide) (by decide) (by decide) (by simp only [effOp, callOp, ha', hb, h1]), h2⟩
    · exact h.elim
  · rename_i hb
    split at h
    · obtain ⟨n, H', h1, h2⟩ := h
      exact ⟨0, _, H', eff hb (by decide) (by decide) (by decide) (by simp only [effOp, callOp, ha', hb, h1]), h2⟩
    · exact h.elim
  · exact h.elim
theorem wPick_elim {c : Value} {a b : Prop} (h : wPick c a b) : ∃ t, c = .bool t ∧ cond t a b := by
  unfold wPick at h
  split at h
  · exact ⟨_, rfl, h⟩
  · exact h.elim
theorem wStore_elim {t : TypeId} {p v : Value} {k : AH → Prop} (h : wStore E H t p v k) : ∃ H', storev E H t p v = some H' ∧ k H' := by
  unfold wStore at h
  split at h
  · rename_i q
    obtain ⟨h3, h⟩ := grd_elim h
    cases q with
    | none => cases h3
    | some a =>
      split at h
      · rename_i i hi
        obtain ⟨h4, H', h5, h6⟩ := grd_elim h
        refine ⟨H', ?_, h6⟩
        simp only [adr] at h5
        simp only [storev, hi, h4, cond_true, h5]
      · exact h.elim
  · exact h.elim
theorem wpOp_elim (hF : Fits F T) {op : Op} {k : Value → AH → Prop} (h : wpOp E F H op k) : ∃ n v H', doOp E (evalN E n) op T H = some (v, H') ∧ k v H' := by
  have ev : ∀ {x v}, evo F x = some v → evo T x = some v := hF.evo
  cases op with
  | move x => obtain ⟨v, h1, h2⟩ := wv_elim h; exact ⟨0, v, H, doOp_pure rfl (ev h1), h2⟩
  | assign x => obtain ⟨v, h1, h2⟩ := wv_elim h; exact ⟨0, v, H, doOp_pure rfl (ev h1), h2⟩
  | pick c a b =>
    obtain ⟨cv, h1, h⟩ := wv_elim h
    obtain ⟨av, h2, h⟩ := wv_elim h
    obtain ⟨bv, h3, h⟩ := wv_elim h
    obtain ⟨t, rfl, h⟩ := wPick_elim h
    cases t with
    | true => exact ⟨0, av, H, doOp_pure rfl (by simp only [pureOp, ev h1, ev h2, ev h3, cond_true]), h⟩
    | false => exact ⟨0, bv, H, doOp_pure rfl (by simp only [pureOp, ev h1, ev h2, ev h3, cond_false]), h⟩
  | binOp op t x y yt =>
    obtain ⟨v, h1, h⟩ := wv_elim h
    obtain ⟨u, h2, h⟩ := wv_elim h
    obtain ⟨r, h3, h4⟩ := wBin_elim h
    exact ⟨0, r, H, doOp_pure rfl (by simp only [pureOp, ev h1, ev h2, h3]), h4⟩
  | unOp op t x =>
    obtain ⟨v, h1, h⟩ := wv_elim h
    obtain ⟨r, h2, h3⟩ := onV_elim h
    refine ⟨0, r, H, doOp_pure rfl (by simp only [pureOp, ev h1, h2]), ?_⟩
    split at h3
    · exact h3 _ rfl
    · exact h3
  | convert s d x =>
    obtain ⟨v, h1, h⟩ := wv_elim h
    exact ⟨0, wConv_elim hF rfl h1 h⟩
  | makeInterface t x =>
    obtain ⟨v, h1, h⟩ := wv_elim h
    obtain ⟨r, h2, h3⟩ := onV_elim h
    exact ⟨0, r, H, doOp_pure rfl (by simp only [pureOp, ev h1, h2]), h3⟩
  | makeFunc fn first captured =>
    unfold wpOp at h
    simp only at h
    split at h
    · exact h.elim
    · rename_i hny
      obtain ⟨a, h1, h⟩ := wvs_elim h
      obtain ⟨b, h2, h⟩ := wvs_elim h
      refine ⟨0, _, H, doOp_pure rfl ?_, h⟩
      simp only [pureOp, hF.evs h1, hF.evs h2]
      try (cases fn <;> first | rfl | exact (hny _ rfl).elim)
  | fieldAddr t x f =>
    obtain ⟨v, h1, h⟩ := wv_elim h
    obtain ⟨r, h2, h3⟩ := wFieldAddr_elim h
    exact ⟨0, r, H, doOp_pure rfl (by simp only [pureOp, ev h1, h2]), h3⟩
  | field t x f =>
    obtain ⟨v, h1, h⟩ := wv_elim h
    obtain ⟨r, h2, h3⟩ := onV_elim h
    exact ⟨0, r, H, doOp_pure rfl (by simp only [pureOp, ev h1, h2]), h3⟩
  | indexAddr t x i =>
    obtain ⟨v, h1, h⟩ := wv_elim h
    obtain ⟨u, h2, h⟩ := wv_elim h
    obtain ⟨r, h3, h4⟩ := wIndexAddr_elim h
    exact ⟨0, r, H, doOp_pure rfl (by simp only [pureOp, ev h1, ev h2, h3]), h4⟩
  | index t x i =>
    obtain ⟨v, h1, h⟩ := wv_elim h
    obtain ⟨u, h2, h⟩ := wv_elim h
    obtain ⟨r, h3, h4⟩ := wIndex_elim h
    exact ⟨0, r, H, doOp_pure rfl (by simp only [pureOp, ev h1, ev h2, h3]), h4⟩
  | build t ps =>
    unfold wpOp at h
    simp only at h
    split at h
    · rename_i vs h1
      obtain ⟨r, h2, h3⟩ := onV_elim h
      exact ⟨0, r, H, doOp_pure rfl (by simp only [pureOp, hF.evps h1, h2]), h3⟩
    · exact h.elim
  | extract x i =>
    obtain ⟨v, h1, h⟩ := wv_elim h
    obtain ⟨r, h2, h3⟩ := onV_elim h
    exact ⟨0, r, H, doOp_pure rfl (by simp only [pureOp, ev h1, h2]), h3⟩
  | typeAssert x xt a ok =>
    obtain ⟨v, h1, h⟩ := wv_elim h
    obtain ⟨r, h2, h3⟩ := onV_elim h
    exact ⟨0, r, H, doOp_pure rfl (by simp only [pureOp, ev h1, h2]), h3⟩
  | nilCheck x =>
    obtain ⟨v, h1, h⟩ := wv_elim h
    obtain ⟨r, h2, h3⟩ := wNil_elim h
    exact ⟨0, r, H, doOp_pure rfl (by simp only [pureOp, ev h1, h2]), h3⟩
  | load t x =>
    obtain ⟨v, h1, h⟩ := wv_elim h
    obtain ⟨r, h2, h3⟩ := wLoad_elim h
    exact ⟨0, r, H, doOp_read rfl (by simp only [readOp, ev h1, h2]), h3⟩
  | lookup t m key ok =>
    obtain ⟨v, h1, h⟩ := wv_elim h
    obtain ⟨u, h2, h⟩ := wv_elim h
    obtain ⟨r, h3, h4⟩ := wLookup_elim h
    exact ⟨0, r, H, doOp_read rfl (by simp only [readOp, ev h1, ev h2, h3]), h4⟩
  | slice t x lo hi mx =>
    obtain ⟨v, h1, h⟩ := wv_elim h
    obtain ⟨l, h2, h⟩ := wvs_elim h
    obtain ⟨hh, h3, h⟩ := wvs_elim h
    obtain ⟨m, h4, h⟩ := wvs_elim h
    obtain ⟨r, h5, h6⟩ := wSlice_elim h
    exact ⟨0, r, H, doOp_read rfl (by simp only [readOp, ev h1, hF.evs h2, hF.evs h3, hF.evs h4, h5]), h6⟩
  | entry x =>
    obtain ⟨v, h1, h⟩ := wv_elim h
    obtain ⟨r, h2, h3⟩ := h
    exact ⟨0, r, H, doOp_read rfl (by simp only [readOp, ev h1, h2]), h3⟩
  | alloc t =>
    unfold wpOp at h; simp only at h
    split at h
    · rename_i o a hn; exact ⟨0, _, _, doOp_new rfl (newOp_fits hF hn), h _ rfl⟩
    · exact h.elim
  | box t x =>
    unfold wpOp at h; simp only at h
    split at h
    · rename_i o a hn; exact ⟨0, _, _, doOp_new rfl (newOp_fits hF hn), h _ rfl⟩
    · exact h.elim
  | buildSlice t n ps =>
    unfold wpOp at h; simp only at h
    split at h
    · rename_i o a hn; exact ⟨0, _, _, doOp_new rfl (newOp_fits hF hn), h _ rfl⟩
    · exact h.elim
  | makeMap t r =>
    unfold wpOp at h; simp only at h
    split at h
    · rename_i o a hn; exact ⟨0, _, _, doOp_new rfl (newOp_fits hF hn), h _ rfl⟩
    · exact h.elim
  | makeSlice t l c =>
    obtain ⟨lv, h1, h⟩ := wv_elim h
    obtain ⟨cv, h2, h⟩ := wv_elim h
    exact ⟨0, wMakeSlice_elim rfl (ev h1) (ev h2) h⟩
  | store t a x =>
    obtain ⟨p, h1, h⟩ := wv_elim h
    obtain ⟨v, h2, h⟩ := wv_elim h
    obtain ⟨H', h3, h4⟩ := wStore_elim h
    exact ⟨0, _, H', doOp_eff rfl (by simp only [effOp, ev h1, ev h2, h3]), h4⟩
  | mapUpdate t m key x =>
    obtain ⟨mv, h1, h⟩ := wv_elim h
    obtain ⟨kv, h2, h⟩ := wv_elim h
    obtain ⟨xv, h3, h⟩ := wv_elim h
    obtain ⟨H', h4, h5⟩ := h
    exact ⟨0, _, H', doOp_eff rfl (by simp only [effOp, ev h1, ev h2, ev h3, h4]), h5⟩
  | insert t m key x =>
    obtain ⟨mv, h1, h⟩ := wv_elim h
    obtain ⟨kv, h2, h⟩ := wv_elim h
    obtain ⟨xv, h3, h⟩ := wv_elim h
    obtain ⟨H', h4, h5⟩ := h
    exact ⟨0, _, H', doOp_eff rfl (by simp only [effOp, ev h1, ev h2, ev h3, h4]), h5⟩
  | range t x =>
    obtain ⟨v, h1, h⟩ := wv_elim h
    obtain ⟨r, H', h2, h3⟩ := h
    exact ⟨0, _, H', doOp_eff rfl (by simp only [effOp, ev h1, h2]), h3⟩
  | next it s =>
    obtain ⟨v, h1, h⟩ := wv_elim h
    obtain ⟨r, H', h2, h3⟩ := h
    exact ⟨0, _, H', doOp_eff rfl (by simp only [effOp, ev h1, h2]), h3⟩
  | call c => exact wCall_elim hF rfl h
  | _ => exact (h : False).elim
end
end Go.Ev
