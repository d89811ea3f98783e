/- The data and the steps of an evaluator for loaded Go programs: what a call comes to whatever the tape answers, worked out on a heap of its own. -/
import Derived.Calls
import Derived.Orders
import Derived.KernelRfl
namespace Go.Ev
open Go
/-! ### Binary tries by number -/
inductive Tr (α : Type) where
  | leaf
  | node (l : Tr α) (v : Option α) (r : Tr α)
namespace Tr
variable {α : Type}
def get : Tr α → Nat → Option α
  | .leaf, _ => none
  | .node l v r, i => match i with
    | 0 => v
    | j + 1 => bif Nat.beq (j % 2) 0 then get l (j / 2) else get r (j / 2)
def one : Nat → Nat → Option α → Tr α
  | 0, _, _ => .leaf
  | k + 1, i, v => match i with
    | 0 => .node .leaf v .leaf
    | j + 1 => bif Nat.beq (j % 2) 0 then .node (one k (j / 2) v) none .leaf else .node .leaf none (one k (j / 2) v)
def set : Tr α → Nat → Option α → Tr α
  | .leaf, i, v => one (i + 1) i v
  | .node l x r, i, v => match i with
    | 0 => .node l v r
    | j + 1 => bif Nat.beq (j % 2) 0 then .node (set l (j / 2) v) x r else .node l x (set r (j / 2) v)
def ofList : Nat → List α → Tr α
  | _, [] => .leaf
  | i, a :: l => (ofList (i + 1) l).set i (some a)
def ofListO : Nat → List (Option α) → Tr α
  | _, [] => .leaf
  | i, a :: l => (ofListO (i + 1) l).set i a
theorem get_leaf (i : Nat) : (leaf : Tr α).get i = none := rfl
theorem get_one : ∀ (k i : Nat) (v : Option α) (n : Nat), i < k → (one k i v).get n = if n = i then v else none := by
  intro k
  induction k with
  | zero => intro i v n h; omega
  | succ k ih =>
    intro i v n h
    cases i with
    | zero => cases n with
      | zero => simp [one, get]
      | succ n => simp only [one, get]; cases Nat.beq (n % 2) 0 <;> simp
    | succ j =>
      have hj : j / 2 < k := by omega
      cases hb : Nat.beq (j % 2) 0
      · have hb' : ¬ j % 2 = 0 := by intro e; rw [e] at hb; simp at hb
        simp only [one, hb, cond_false]
        cases n with
        | zero => simp [get]
        | succ n =>
          simp only [get]
          cases hn : Nat.beq (n % 2) 0
          · have hn' : ¬ n % 2 = 0 := by intro e; rw [e] at hn; simp at hn
            simp only [cond_false, ih _ v _ hj]
            by_cases e : n / 2 = j / 2
            · rw [if_pos e, if_pos (by omega)]
            · rw [if_neg e, if_neg (by omega)]
          · have hn' : n % 2 = 0 := Nat.eq_of_beq_eq_true hn
            simp only [cond_true]
            rw [if_neg (by omega)]
      · have hb' : j % 2 = 0 := Nat.eq_of_beq_eq_true hb
        simp only [one, hb, cond_true]
        cases n with
        | zero => simp [get]
        | succ n =>
          simp only [get]
          cases hn : Nat.beq (n % 2) 0
          · have hn' : ¬ n % 2 = 0 := by intro e; rw [e] at hn; simp at hn
            simp only [cond_false]
            rw [if_neg (by omega)]
          · have hn' : n % 2 = 0 := Nat.eq_of_beq_eq_true hn
            simp only [cond_true, ih _ v _ hj]
            by_cases e : n / 2 = j / 2
            · rw [if_pos e, if_pos (by omega)]
            · rw [if_neg e, if_neg (by omega)]
theorem get_set : ∀ (t : Tr α) (i : Nat) (v : Option α) (n : Nat), (t.set i v).get n = if n = i then v else t.get n := by
  intro t
  induction t with
  | leaf => intro i v n; simp only [set, get_leaf]; exact get_one _ _ _ _ (by omega)
  | node l x r ihl ihr =>
    intro i v n
    cases i with
    | zero => cases n with
      | zero => simp [set, get]
      | succ n => simp [set, get]
    | succ j =>
      cases hb : Nat.beq (j % 2) 0
      · have hb' : ¬ j % 2 = 0 := by intro e; rw [e] at hb; simp at hb
        simp only [set, hb, cond_false]
        cases n with
        | zero => simp [get]
        | succ n =>
          simp only [get]
          cases hn : Nat.beq (n % 2) 0
          · have hn' : ¬ n % 2 = 0 := by intro e; rw [e] at hn; simp at hn
            simp only [cond_false, ihr]
            by_cases e : n / 2 = j / 2
            · rw [if_pos e, if_pos (by omega)]
            · rw [if_neg e, if_neg (by omega)]
          · have hn' : n % 2 = 0 := Nat.eq_of_beq_eq_true hn
            simp only [cond_true]
            rw [if_neg (by omega)]
      · have hb' : j % 2 = 0 := Nat.eq_of_beq_eq_true hb
        simp only [set, hb, cond_true]
        cases n with
        | zero => simp [get]
        | succ n =>
          simp only [get]
          cases hn : Nat.beq (n % 2) 0
          · have hn' : ¬ n % 2 = 0 := by intro e; rw [e] at hn; simp at hn
            simp only [cond_false]
            rw [if_neg (by omega)]
          · have hn' : n % 2 = 0 := Nat.eq_of_beq_eq_true hn
            simp only [cond_true, ihl]
            by_cases e : n / 2 = j / 2
            · rw [if_pos e, if_pos (by omega)]
            · rw [if_neg e, if_neg (by omega)]
theorem get_ofList : ∀ (l : List α) (k i : Nat), (ofList k l).get i = if k ≤ i then l[i - k]? else none := by
  intro l
  induction l with
  | nil => intro k i; simp [ofList, get]
  | cons a l ih =>
    intro k i
    rw [ofList, get_set, ih]
    by_cases e : i = k
    · subst e; simp
    · rw [if_neg e]
      by_cases h : k + 1 ≤ i
      · rw [if_pos h, if_pos (by omega)]
        obtain ⟨d, rfl⟩ : ∃ d, i = k + 1 + d := ⟨i - (k + 1), by omega⟩
        rw [show k + 1 + d - (k + 1) = d from by omega, show k + 1 + d - k = d + 1 from by omega]
        rfl
      · rw [if_neg h, if_neg (by omega)]
theorem get_ofListO : ∀ (l : List (Option α)) (k i : Nat), (ofListO k l).get i = if k ≤ i then (l[i - k]?).join else none := by
  intro l
  induction l with
  | nil => intro k i; simp [ofListO, get]
  | cons a l ih =>
    intro k i
    rw [ofListO, get_set, ih]
    by_cases e : i = k
    · subst e; simp
    · rw [if_neg e]
      by_cases h : k + 1 ≤ i
      · rw [if_pos h, if_pos (by omega)]
        obtain ⟨d, rfl⟩ : ∃ d, i = k + 1 + d := ⟨i - (k + 1), by omega⟩
        rw [show k + 1 + d - (k + 1) = d from by omega, show k + 1 + d - k = d + 1 from by omega]
        rfl
      · rw [if_neg h, if_neg (by omega)]
end Tr
/-! ### The heap -/
structure Tmps where
  n : Nat
  g : Nat
  t : Tr Value
def Tmps.get (T : Tmps) (i : Nat) : Option Value := T.t.get i
def Tmps.put (T : Tmps) (dst : Option Tmp) (v : Value) : Tmps := match dst with
  | some d => bif Nat.blt d T.n then ⟨T.n, T.g, T.t.set d (some v)⟩ else T
  | none => T
structure ALoop where
  T : Tmps
  params : List Tmp
  assign : Code
  body : Code
  st : LoopState
  pend : Option Code
inductive AObj where
  | cells (cs : List Value) (es : Nat)
  | ro (cs : List Value)
  | map (es : List MapEntry) (clock : Nat)
  | mapIter (m : Option Nat) (since : Nat) (seen : List Nat) (stepped : Nat)
  | strIter (s : ByteArray) (pos : Nat)
  | loop (l : ALoop)
structure AH where
  next : Nat
  t : Tr AObj
def AH.get (H : AH) (b : Nat) : Option AObj := H.t.get b
def AObj.wr : AObj → Bool
  | .ro _ => false
  | _ => true
def AH.rd (H : AH) (b : Nat) : Option (List Value) := match H.get b with
  | some (.cells cs _) => some cs
  | some (.ro cs) => some cs
  | _ => none
def AH.set (H : AH) (b : Nat) (o : AObj) : AH := ⟨H.next, H.t.set b (some o)⟩
def AH.kill (H : AH) (b : Nat) : AH := ⟨H.next, H.t.set b none⟩
def AH.new (H : AH) (o : AObj) : AH := ⟨H.next + 1, H.t.set H.next (some o)⟩
/-! ### Types -/
structure TyI where
  u : TypeDesc
  size : Nat
  zero : Option Value
  bytes : Nat
  agg : Bool
  fs : List (TypeId × Nat)
  eqok : Bool
  ms : List Method
structure Env where
  fn : Tr Func
  ty : Tr TyI
  g : Nat
  ext : Tr (List Value → AH → Option (Value × AH))
  orc : List (BinOp × Value × Value × Value)
  sum : Tr (List Value → AH → Option (Value × AH))
  fns : List (FuncId × FuncId × Nat) := []
def tyOf (P : Program) (i : TypeInfo) (u : TypeDesc) (t : TypeId) : TyI :=
  { u, size := i.size, zero := i.zero, bytes := i.bytes
    agg := (match u with | .struct _ | .array _ _ => true | _ => false)
    fs := (match u with | .struct fs => (fs.toList.filter fun f => f.name != "_").map fun f => (f.type, f.offset) | _ => [])
    eqok := !P.eqGuardType P.depth t && !P.stoodInHeld t
    ms := i.methods.toList }
def envOf (P : Program) : Env :=
  { g := 0, ext := .leaf, orc := [], sum := .leaf, fn := Tr.ofList 0 P.funcs.toList
    ty := Tr.ofListO 0 ((List.range P.types.size).map fun t => match P.info? t, P.underlying t with
      | some i, some u => some (tyOf P i u t)
      | _, _ => none) }
/-! ### Values -/
def leafy : Value → Bool
  | .bool _ | .int _ _ | .float _ _ | .string _ | .nilFunc | .nilIface => true
  | .pointer none | .map none | .chan none => true
  | .slice none 0 0 => true
  | .func (.func _) f c => f.isEmpty && c.isEmpty
  | _ => false
def clean : Value → Bool
  | .agg cs => cs.toList.all leafy
  | .tuple cs => cs.toList.all leafy
  | v => leafy v
def undefV : Value := .tuple #[]
def evo (T : Tmps) : Operand → Option Value
  | .tmp t => T.get t
  | .const v => bif clean v then some v else none
  | .global k => bif Nat.blt k T.g then some (.pointer (some ⟨k, 0, none⟩)) else none
  | .func f => some (.func (.func f) #[] #[])
def evs (T : Tmps) : List Operand → Option (List Value)
  | [] => some []
  | x :: xs => match evo T x with
    | some v => match evs T xs with
      | some vs => some (v :: vs)
      | none => none
    | none => none
def pureOf : Sem Value → Option Value
  | .pure v => some v
  | _ => none
def cellsOf : Value → List Value
  | .agg cs => cs.toList
  | v => [v]
def oneCell : Value → Bool
  | .agg _ | .tuple _ => false
  | _ => true
def partOf (E : Env) (t : TypeId) (cs : List Value) (off : Nat) : Option Value :=
  match E.ty.get t with
  | some i => bif i.agg then (bif Nat.ble (off + i.size) cs.length then some (.agg ((cs.drop off).take i.size).toArray) else none) else cs[off]?
  | none => none
mutual
def eqv (E : Env) : Nat → TypeId → Value → Value → Option Bool
  | 0, _, _, _ => none
  | d + 1, t, x, y =>
    match E.ty.get t with
    | none => none
    | some i => match i.u, x, y with
      | .bool, .bool a, .bool b => some (a == b)
      | .int _, .int k a, .int k' b => if k = k' then some (a == b) else none
      | .string, .string a, .string b => some (a.data.toList == b.data.toList)
      | .pointer _, .pointer none, .pointer b => some b.isNone
      | .pointer _, .pointer _, .pointer none => some false
      | .pointer e, .pointer (some a), .pointer (some b) => match E.ty.get e with
        | some j => bif Nat.beq j.size 0 then none else (if a.block = b.block then some (a == b) else none)
        | none => none
      | .interface _, .nilIface, .nilIface => some true
      | .interface _, .nilIface, .iface _ _ | .interface _, .iface _ _, .nilIface => some false
      | .struct _, .agg xs, .agg ys => bif i.eqok then eqvs E d i.fs xs.toList ys.toList else none
      | .slice _, .slice none 0 0, .slice b _ c => some (b.isNone && Nat.beq c 0)
      | .slice _, .slice b _ c, .slice none 0 0 => some (b.isNone && Nat.beq c 0)
      | .map _ _, .map none, .map b => some b.isNone
      | .map _ _, .map _, .map none => some false
      | .func _ _ _, .nilFunc, .nilFunc => some true
      | .func _ _ _, .nilFunc, .func _ _ _ | .func _ _ _, .func _ _ _, .nilFunc => some false
      | .array n e, .agg xs, .agg ys => match E.ty.get e with
        | some j => bif i.eqok then eqvs E d ((List.range n).map fun k => (e, k * j.size)) xs.toList ys.toList else none
        | none => none
      | _, _, _ => none
def eqvs (E : Env) : Nat → List (TypeId × Nat) → List Value → List Value → Option Bool
  | 0, _, _, _ => none
  | _, [], _, _ => some true
  | d + 1, (t, off) :: fs, xs, ys =>
    match partOf E t xs off, partOf E t ys off with
    | some x, some y => match eqv E d t x y with
      | some true => eqvs E d fs xs ys
      | r => r
    | _, _ => none
end
def eqDepth : Nat := 200
def binv (E : Env) (op : BinOp) (t : TypeId) (x y : Value) : Option Value :=
  match op, x, y with
  | .shl, .int k a, .int yk b | .shr, .int k a, .int yk b => pureOf (Op.shift op k a yk b)
  | _, .int k a, .int k' b =>
    if k ≠ k' then none else
    match op with
    | .add | .sub | .mul => pureOf (Op.intArith op k a b)
    | .quo | .rem => pureOf (Op.intDiv op k a b)
    | .and | .or | .xor | .andNot => pureOf (Op.intBits op k a b)
    | _ => pureOf (Op.intCmp op a b)
  | _, .string a, .string b =>
    match op with
    | .add => if a.data.toList.length + b.data.toList.length < 4611686018427387904 then some (.string ⟨(a.data.toList ++ b.data.toList).toArray⟩) else none
    | .eql => some (.bool (a.data.toList == b.data.toList))
    | .neq => some (.bool (!(a.data.toList == b.data.toList)))
    | .lss => some (.bool (Op.bytesLess a.data.toList b.data.toList))
    | .leq => some (.bool (Op.bytesLess a.data.toList b.data.toList || a.data.toList == b.data.toList))
    | .gtr => some (.bool (!(Op.bytesLess a.data.toList b.data.toList || a.data.toList == b.data.toList)))
    | .geq => some (.bool (!(Op.bytesLess a.data.toList b.data.toList)))
    | _ => none
  | .eql, .nilIface, .nilIface => none
  | .neq, .nilIface, .nilIface => none
  | .eql, x, y => match eqv E eqDepth t x y with | some b => some (.bool b) | none => none
  | .neq, x, y => match eqv E eqDepth t x y with | some b => some (.bool (!b)) | none => none
  | _, _, _ => none
def isConst : Operand → Bool
  | .const _ => true
  | _ => false
def nilv (E : Env) (op : BinOp) (t : TypeId) (x y : Operand) (v u : Value) : Option Value :=
  match op, v, u with
  | .eql, .nilIface, .nilIface => bif isConst x || isConst y then (match eqv E eqDepth t .nilIface .nilIface with | some b => some (.bool b) | none => none) else none
  | .neq, .nilIface, .nilIface => bif isConst x || isConst y then (match eqv E eqDepth t .nilIface .nilIface with | some b => some (.bool (!b)) | none => none) else none
  | _, _, _ => none
def veqS : Value → Value → Bool
  | .int j a, .int k b => decide (j = k) && decide (a = b)
  | .chan (some a), .chan (some b) => Nat.beq a b
  | .string a, .string b => a.data.toList == b.data.toList
  | .bool a, .bool b => a == b
  | _, _ => false
def orcFind (op : BinOp) (x y : Value) : List (BinOp × Value × Value × Value) → Option Value
  | [] => none
  | (o, a, b, r) :: l => bif decide (o = op) && veqS a x && veqS b y then some r else orcFind op x y l
def orcv (E : Env) (op : BinOp) (x y : Value) : Option Value :=
  match x, y with
  | .chan (some _), _ => orcFind op x y E.orc
  | _, .chan (some _) => orcFind op x y E.orc
  | _, _ => none
def convv (E : Env) (src dst : TypeId) (x : Value) : Option Value :=
  match E.ty.get src, E.ty.get dst with
  | some _, some j => match j.u, x with
    | .int k, .int _ n => some (.int k (k.wrap n))
    | .string, .string s => some (.string s)
    | _, _ => none
  | _, _ => none
def capN (c : Nat) : Nat := c / 2
def boundOf (y : Nat) : Option Value → Option Nat → Option Nat
  | none, d => d
  | some (.int _ i), _ => if 0 ≤ i ∧ i ≤ y then some i.toNat else none
  | _, _ => none
def esAt (H : AH) (b n : Nat) : Bool := match H.get b with
  | some (.cells _ es) => Nat.beq es n
  | _ => false
def cutv (H : AH) (a : Option Addr) (cap l h m size : Nat) (full : Bool) : Option Value :=
  match a with
  | none => bif Nat.beq m l && Nat.beq h l then some (.slice none 0 cap) else none
  | some b =>
    bif Nat.beq m l then (bif full || Nat.beq (cap % 2) 0 then some (.slice (some b) (h - l) 0) else some (.slice none 0 1))
    else bif full || Nat.beq (cap % 2) 0 then some (.slice (some ⟨b.block, b.off + l * size, none⟩) (h - l) (2 * (m - l)))
    else bif esAt H b.block size then some (.slice (some ⟨b.block, b.off + l * size, none⟩) (h - l) (2 * (m - l) + 1)) else none
def slicev (E : Env) (H : AH) (t : TypeId) (x : Value) (lo hi mx : Option Value) : Option Value :=
  match E.ty.get t with
  | none => none
  | some i => match i.u, x with
    | .string, .string s =>
      bif mx.isSome then none else
      match boundOf s.data.toList.length hi (some s.data.toList.length) with
      | none => none
      | some h => match boundOf h lo (some 0) with
        | none => none
        | some l => some (.string ⟨((s.data.toList.drop l).take (h - l)).toArray⟩)
    | .slice e, .slice a len cap =>
      match E.ty.get e with
      | none => none
      | some j =>
        match boundOf (capN cap) mx (some (capN cap)) with
        | none => none
        | some m =>
          match boundOf m hi (bif mx.isSome then none else some len) with
          | none => none
          | some h => match boundOf h lo (some 0) with
            | none => none
            | some l => bif Nat.ble h m then cutv H a cap l h m j.size mx.isSome else none
    | _, _ => none
def fieldOf (E : Env) (t : TypeId) (f : Nat) : Option Field :=
  match E.ty.get t with
  | some i => match i.u with
    | .struct fs => fs.toList[f]?
    | _ => none
  | none => none
def fieldAddrv (E : Env) (t : TypeId) (x : Value) (f : Nat) : Option Value :=
  match fieldOf E t f, x with
  | some fd, .pointer (some a) => match E.ty.get fd.type with
    | some j => bif Nat.beq j.size 0 then none else some (.pointer (some ⟨a.block, a.off + fd.offset, none⟩))
    | none => none
  | _, _ => none
def fieldv (E : Env) (t : TypeId) (x : Value) (f : Nat) : Option Value :=
  match fieldOf E t f, x with
  | some fd, .agg cs => partOf E fd.type cs.toList fd.offset
  | _, _ => none
def indexAddrv (E : Env) (t : TypeId) (x ix : Value) : Option Value :=
  match E.ty.get t with
  | none => none
  | some i => match i.u, x, ix with
    | .array n e, .pointer (some a), .int _ k => match E.ty.get e with
      | some j => if 0 ≤ k ∧ k < n then some (.pointer (some ⟨a.block, a.off + k.toNat * j.size, none⟩)) else none
      | none => none
    | .slice e, .slice (some a) len _, .int _ k => match E.ty.get e with
      | some j => if 0 ≤ k ∧ k < len then some (.pointer (some ⟨a.block, a.off + k.toNat * j.size, none⟩)) else none
      | none => none
    | _, _, _ => none
def indexv (E : Env) (t : TypeId) (x ix : Value) : Option Value :=
  match E.ty.get t with
  | none => none
  | some i => match i.u, x, ix with
    | .array n e, .agg cs, .int _ k => match E.ty.get e with
      | some j => if 0 ≤ k ∧ k < n then partOf E e cs.toList (k.toNat * j.size) else none
      | none => none
    | .string, .string s, .int _ k => if 0 ≤ k then (match s.data.toList[k.toNat]? with | some b => some (.int .u8 b.toNat) | none => none) else none
    | _, _, _ => none
def fillv (place : Nat → Option (Nat × Nat)) : List Value → List (Nat × Value) → Option (List Value)
  | cells, [] => some cells
  | cells, (i, v) :: rest =>
    match place i with
    | none => none
    | some (off, size) =>
      let cs := cellsOf v
      bif Nat.beq cs.length size && Nat.ble (off + cs.length) cells.length then fillv place (cells.take off ++ cs ++ cells.drop (off + cs.length)) rest else none
def structPlace (E : Env) (fs : List Field) (i : Nat) : Option (Nat × Nat) :=
  match fs[i]? with
  | some f => match E.ty.get f.type with
    | some j => some (f.offset, j.size)
    | none => none
  | none => none
def evps (T : Tmps) : List (Nat × Operand) → Option (List (Nat × Value))
  | [] => some []
  | (i, x) :: xs => match evo T x with
    | some v => match evps T xs with
      | some vs => some ((i, v) :: vs)
      | none => none
    | none => none
def allTy (E : Env) (fs : List Field) : Bool := fs.all fun f => (E.ty.get f.type).isSome
def buildv (E : Env) (t : TypeId) (parts : List (Nat × Value)) : Option Value :=
  match E.ty.get t with
  | none => none
  | some i => match i.zero with
    | none => none
    | some z => bif clean z then (match i.u with
      | .struct fs => bif allTy E fs.toList then (match fillv (structPlace E fs.toList) (cellsOf z) parts with | some cs => some (.agg cs.toArray) | none => none) else none
      | .array _ e => match E.ty.get e with
        | some j => match fillv (fun k => some (k * j.size, j.size)) (cellsOf z) parts with | some cs => some (.agg cs.toArray) | none => none
        | none => none
      | _ => none) else none
def extractv (x : Value) (ix : Nat) : Option Value :=
  match x with
  | .tuple vs => vs.toList[ix]?
  | _ => none
def isIface : TypeDesc → Bool
  | .interface _ => true
  | _ => false
def assertv (E : Env) (x : Value) (asserted : TypeId) (commaOk : Bool) : Option Value :=
  match E.ty.get asserted with
  | none => none
  | some i => bif isIface i.u then none else match x with
    | .iface t v => bif Nat.beq t asserted then some (bif commaOk then .tuple #[v, .bool true] else v)
      else (bif commaOk then (match i.zero with | some z => bif clean z then some (.tuple #[z, .bool false]) else none | none => none) else none)
    | .nilIface => bif commaOk then (match i.zero with | some z => bif clean z then some (.tuple #[z, .bool false]) else none | none => none) else none
    | _ => none
def ifacev (E : Env) (t : TypeId) (x : Value) : Option Value :=
  match E.ty.get t with
  | some i => bif isIface i.u then none else some (.iface t x)
  | none => none
def lenv (E : Env) (t : TypeId) (x : Value) : Option Value :=
  match E.ty.get t with
  | none => none
  | some i => match i.u, x with
    | .string, .string s => some (.int .i64 s.data.toList.length)
    | .array n _, _ => some (.int .i64 n)
    | .slice _, .slice _ n _ => some (.int .i64 n)
    | .map _ _, .map none => some (.int .i64 0)
    | _, _ => none
def nilCheckv : Value → Option Value
  | .pointer (some a) => some (.pointer (some a))
  | .iface t v => some (.iface t v)
  | .func (.func f) a b => some (.func (.func f) a b)
  | .func (.yield f) a b => some (.func (.yield f) a b)
  | _ => none
def foldv (f : Value → Value → Option Value) : Value → List Value → Option Value
  | x, [] => some x
  | x, y :: ys => match f x y with
    | some z => foldv f z ys
    | none => none
def maxv : Value → Value → Option Value
  | .int k x, .int _ y => some (.int k (if y > x then y else x))
  | _, _ => none
def minv : Value → Value → Option Value
  | .int k x, .int _ y => some (.int k (if y < x then y else x))
  | _, _ => none
def pureOp (E : Env) (T : Tmps) : Op → Option Value
  | .move x | .assign x => evo T x
  | .pick c a b => match evo T c, evo T a, evo T b with
    | some (.bool t), some v, some u => some (bif t then v else u)
    | _, _, _ => none
  | .binOp op t x y _ => match evo T x, evo T y with
    | some v, some u => (match binv E op t v u with
      | some r => some r
      | none => (match nilv E op t x y v u with
        | some r => some r
        | none => orcv E op v u))
    | _, _ => none
  | .unOp op _ x => match evo T x with
    | some v => pureOf (Op.unary op v)
    | none => none
  | .convert s d x => match evo T x with
    | some v => convv E s d v
    | none => none
  | .makeInterface t x => match evo T x with
    | some v => ifacev E t v
    | none => none
  | .makeFunc fn first captured => match fn, evs T first.toList, evs T captured.toList with
    | .yield _, _, _ => none
    | _, some a, some b => some (.func fn a.toArray b.toArray)
    | _, _, _ => none
  | .fieldAddr t x f => match evo T x with
    | some v => fieldAddrv E t v f
    | none => none
  | .field t x f => match evo T x with
    | some v => fieldv E t v f
    | none => none
  | .indexAddr t x i => match evo T x, evo T i with
    | some v, some k => indexAddrv E t v k
    | _, _ => none
  | .index t x i => match evo T x, evo T i with
    | some v, some k => indexv E t v k
    | _, _ => none
  | .build t ps => match evps T ps.toList with
    | some vs => buildv E t vs
    | none => none
  | .extract x i => match evo T x with
    | some v => extractv v i
    | none => none
  | .typeAssert x _ a ok => match evo T x with
    | some v => assertv E v a ok
    | none => none
  | .nilCheck x => match evo T x with
    | some v => nilCheckv v
    | none => none
  | .call c => match c.callee, evs T c.args.toList with
    | .builtin .len, some [v] => (match c.argTypes.toList with
      | t :: _ => lenv E t v
      | [] => none)
    | .builtin .max, some (v :: vs) => foldv maxv v vs
    | .builtin .min, some (v :: vs) => foldv minv v vs
    | _, _ => none
  | _ => none
/-! ### Operations that read -/
def loadv (E : Env) (H : AH) (t : TypeId) (x : Value) : Option Value :=
  match x with
  | .pointer (some a) => match E.ty.get t, H.rd a.block with
    | some i, some cs => bif i.agg then
        (bif Nat.ble (a.off + i.size) cs.length then some (.agg ((cs.drop a.off).take i.size).toArray) else none)
      else cs[a.off]?
    | _, _ => none
  | _ => none
def keyok (E : Env) : Nat → TypeId → Value → Bool
  | 0, _, _ => false
  | d + 1, t, v => match E.ty.get t with
    | none => false
    | some i => match i.u, v with
      | .bool, .bool _ | .int _, .int _ _ | .string, .string _ => true
      | .struct fs, .agg cs => fs.toList.all fun f => match partOf E f.type cs.toList f.offset with | some x => keyok E d f.type x | none => false
      | .array n e, .agg cs => match E.ty.get e with
        | some j => (List.range n).all fun k => match partOf E e cs.toList (k * j.size) with | some x => keyok E d e x | none => false
        | none => false
      | _, _ => false
def findv (E : Env) (kt : TypeId) (k : Value) : List MapEntry → Nat → Option (Option (Nat × Value))
  | [], _ => some none
  | e :: es, i => match eqv E eqDepth kt k e.key with
    | some true => some (some (i, e.val))
    | some false => findv E kt k es (i + 1)
    | none => none
def entriesOf (H : AH) : Value → Option (List MapEntry)
  | .map none => some []
  | .map (some r) => match H.get r with
    | some (.map es _) => some es
    | _ => none
  | _ => none
def lookupv (E : Env) (H : AH) (t : TypeId) (m k : Value) (ok : Bool) : Option Value :=
  match E.ty.get t with
  | none => none
  | some i => match i.u with
    | .map kt et => match entriesOf H m with
      | none => none
      | some es => bif keyok E 20 kt k then
          (match findv E kt k es 0 with
          | some (some (_, v)) => some (bif ok then .tuple #[v, .bool true] else v)
          | some none => match E.ty.get et with
            | some j => match j.zero with
              | some z => bif clean z then some (bif ok then .tuple #[z, .bool false] else z) else none
              | none => none
            | none => none
          | none => none) else none
    | _ => none
def byteOf : Value → Option UInt8
  | .int .u8 n => some (UInt8.ofNat n.toNat)
  | _ => none
def bytesOf : List Value → Option (List UInt8)
  | [] => some []
  | v :: vs => match byteOf v with
    | some b => match bytesOf vs with
      | some bs => some (b :: bs)
      | none => none
    | none => none
def bytesToStr (E : Env) (H : AH) (s d : TypeId) (x : Value) : Option Value :=
  match E.ty.get s, E.ty.get d with
  | some i, some j => match i.u, j.u with
    | .slice e, .string => match E.ty.get e with
      | some k => match k.u, x with
        | .int .u8, .slice none _ _ => some (.string ⟨#[]⟩)
        | .int .u8, .slice (some a) len _ => match H.rd a.block with
          | some cs => bif Nat.ble (a.off + len) cs.length then
              (match bytesOf ((cs.drop a.off).take len) with | some bs => some (.string ⟨bs.toArray⟩) | none => none) else none
          | _ => none
        | _, _ => none
      | none => none
    | _, _ => none
  | _, _ => none
def entryv (H : AH) (x : Value) : Option Value :=
  match x with
  | .pointer (some a) => match H.get a.block with
    | some (.mapIter (some m) _ seen st) => match seen.getLast?, H.get m with
      | some b, some (.map es clock) => bif Nat.beq clock st && Nat.beq a.off 0 then (match es.find? fun e => Nat.beq e.born b with
        | some e => some (.tuple #[e.key, e.val])
        | none => none) else none
      | _, _ => none
    | _ => none
  | _ => none
def readOp (E : Env) (T : Tmps) (H : AH) : Op → Option Value
  | .load t x => match evo T x with
    | some v => loadv E H t v
    | none => none
  | .lookup t m k ok => match evo T m, evo T k with
    | some v, some u => lookupv E H t v u ok
    | _, _ => none
  | .slice t x lo hi mx => match evo T x, evs T lo.toList, evs T hi.toList, evs T mx.toList with
    | some v, some l, some h, some m => slicev E H t v l.head? h.head? m.head?
    | _, _, _, _ => none
  | .convert s d x => match evo T x with
    | some v => bytesToStr E H s d v
    | none => none
  | .entry x => match evo T x with
    | some v => entryv H v
    | none => none
  | .call c => match c.callee, evs T c.args.toList with
    | .builtin .len, some [.map (some r)] => (match c.argTypes.toList with
      | t :: _ => (match E.ty.get t, H.get r with
        | some i, some (.map es _) => (match i.u with
          | .map _ _ => some (.int .i64 es.length)
          | _ => none)
        | _, _ => none)
      | [] => none)
    | _, _ => none
  | _ => none
/-! ### Operations that make a block: what lies in it, and what is answered -/
inductive Ans where
  | ptr | sl (len : Nat) (cap : Nat) | mp
def Ans.val : Ans → Nat → Value
  | .ptr, b => .pointer (some ⟨b, 0, none⟩)
  | .sl n c, b => .slice (some ⟨b, 0, none⟩) n c
  | .mp, b => .map (some b)
def newOp (E : Env) (T : Tmps) : Op → Option (AObj × Ans)
  | .alloc t => match E.ty.get t with
    | some i => match i.zero with
      | some z => bif clean z && (cellsOf z).all oneCell then some (.cells (cellsOf z) 0, .ptr) else none
      | none => none
    | none => none
  | .box _ x => match evo T x with
    | some v => some (.cells (cellsOf v) 0, .ptr)
    | none => none
  | .buildSlice t n ps => match E.ty.get t with
    | some i => match i.u with
      | .slice e => match E.ty.get e, evps T ps.toList with
        | some j, some vs => match j.zero with
          | some z => bif clean z && Nat.ble (n * j.size) 16777216 && Nat.beq (cellsOf z).length j.size then
              (match fillv (fun k => some (k * j.size, j.size)) ((List.replicate n (cellsOf z)).flatten) vs with
              | some cs => some (.cells cs 0, .sl n (2 * n))
              | none => none) else none
          | none => none
        | _, _ => none
      | _ => none
    | none => none
  | .makeSlice t l c => match E.ty.get t, evo T l, evo T c with
    | some i, some (.int _ l), some (.int _ c) => match i.u with
      | .slice e => match E.ty.get e with
        | some j => match j.zero with
          | some z => if 0 ≤ l ∧ l ≤ c ∧ c < 4294967296 then
              bif clean z && Nat.ble (c.toNat * j.bytes) 140737488355328 && Nat.beq (cellsOf z).length j.size then
                some (.cells ((List.replicate c.toNat (cellsOf z)).flatten) 0, .sl l.toNat (2 * c.toNat)) else none
            else none
          | none => none
        | none => none
      | _ => none
    | _, _, _ => none
  | .makeMap t r => match E.ty.get t, evs T r.toList with
    | some i, some vs => match i.u with
      | .map _ _ => bif vs.all (fun | .int _ _ => true | _ => false) then some (.map [] 0, .mp) else none
      | _ => none
    | _, _ => none
  | .convert s d x => match E.ty.get s, E.ty.get d, evo T x with
    | some i, some j, some (.string b) => match i.u, j.u with
      | .string, .slice e => match E.ty.get e with
        | some k => match k.u with
          | .int .u8 => some (.cells (b.data.toList.map fun c => .int .u8 c.toNat) 1, .sl b.data.toList.length (2 * b.data.toList.length + 1))
          | _ => none
        | none => none
      | _, _ => none
    | _, _, _ => none
  | _ => none
end Go.Ev
