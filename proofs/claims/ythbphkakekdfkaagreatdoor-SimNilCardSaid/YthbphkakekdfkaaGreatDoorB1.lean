/- More rounds give the same answer; answers, whatever the rounds. Conditions under which a call answers, worked out from its text: the formulas. What the formulas say is so: operations. What the formulas say is so: each operation. -/
import Derived.Test.YthbphkakekdfkaaGreatDoorEv28
namespace Go.Ev
open Go
structure RecLe (r s : Rec) : Prop where
  code : ∀ c T H x, r.code c T H = some x → s.code c T H = some x
  call : ∀ f a H x, r.call f a H = some x → s.call f a H = some x
  round : ∀ l a H x, r.round l a H = some x → s.round l a H = some x
section
variable {E : Env} {r s : Rec}
theorem RecLe.refl (r : Rec) : RecLe r r := ⟨fun _ _ _ _ e => e, fun _ _ _ _ e => e, fun _ _ _ _ e => e⟩
theorem RecLe.trans {r s t : Rec} (h : RecLe r s) (k : RecLe s t) : RecLe r t :=
  ⟨fun c T H x e => k.code c T H x (h.code c T H x e), fun c T H x e => k.call c T H x (h.call c T H x e), fun c T H x e => k.round c T H x (h.round c T H x e)⟩
end
end Go.Ev
namespace Go.Ev
open Go
/-! ### What is claimed of calls and rounds -/
structure FW (E : Env) (f : FuncId) (args : List Value) (H : AH) (Q : Value → AH → Prop) : Prop where
  run : ∃ n v H', (evalN E n).call f args H = some (v, H') ∧ Q v H'
structure RW (E : Env) (l : Nat) (args : List Value) (H : AH) (Q : Value → AH → Prop) : Prop where
  run : ∃ n v H', (evalN E n).round l args H = some (v, H') ∧ Q v H'
theorem FW.mono {E : Env} {f : FuncId} {args : List Value} {H : AH} {Q Q' : Value → AH → Prop} (h : FW E f args H Q) (k : ∀ v H', Q v H' → Q' v H') : FW E f args H Q' :=
  let ⟨n, v, H', a, b⟩ := h.run; ⟨n, v, H', a, k v H' b⟩
theorem RW.mono {E : Env} {l : Nat} {args : List Value} {H : AH} {Q Q' : Value → AH → Prop} (h : RW E l args H Q) (k : ∀ v H', Q v H' → Q' v H') : RW E l args H Q' :=
  let ⟨n, v, H', a, b⟩ := h.run; ⟨n, v, H', a, k v H' b⟩
/-! ### Words -/
def adr : Option Addr → Addr
  | some a => a
  | none => ⟨0, 0, none⟩
def AH.cell (H : AH) (b o : Nat) : Option Value := match H.rd b with
  | some cs => cs[o]?
  | none => none
inductive CK where
  | bool | int (k : IntKind) | str | ptr | sl | map | any
inductive Sh where
  | one (k : CK) | agg (l : List CK)
def Sh.cks : Sh → List CK
  | .one k => [k]
  | .agg l => l
def ckV : Value → Option CK
  | .bool _ => some .bool
  | .int k _ => some (.int k)
  | .string _ => some .str
  | .pointer _ => some .ptr
  | .slice _ _ _ => some .sl
  | .map _ => some .map
  | _ => none
def ckVs : List Value → Option (List CK)
  | [] => some []
  | v :: vs => match ckV v with
    | some k => match ckVs vs with
      | some ks => some (k :: ks)
      | none => none
    | none => none
def flatSh : List Sh → List CK
  | [] => []
  | s :: ss => s.cks ++ flatSh ss
def flatV : List Value → List Value
  | [] => []
  | v :: vs => cellsOf v ++ flatV vs
def foldV : List Sh → List Value → List Value
  | [], _ => []
  | .one _ :: ss, v :: vs => v :: foldV ss vs
  | .one _ :: _, [] => []
  | .agg l :: ss, vs => .agg ⟨vs.take l.length⟩ :: foldV ss (vs.drop l.length)
/-! ### Types -/
def ckOf (E : Env) (t : TypeId) : Option CK := match E.ty.get t with
  | some i => match i.u with
    | .bool => some .bool
    | .int k => some (.int k)
    | .string => some .str
    | .pointer _ => some .ptr
    | .slice _ => some .sl
    | .map _ _ => some .map
    | .struct _ | .array _ _ => none
    | _ => some .any
  | none => none
mutual
def cksOf (E : Env) : Nat → TypeId → Option (List CK)
  | 0, _ => none
  | d + 1, t => match E.ty.get t with
    | some i => match i.u with
      | .struct fs => cksFs E d fs.toList
      | .array n e => match cksOf E d e with
        | some l => some (List.replicate n l).flatten
        | none => none
      | _ => match ckOf E t with
        | some k => some [k]
        | none => none
    | none => none
def cksFs (E : Env) : Nat → List Field → Option (List CK)
  | 0, _ => none
  | _, [] => some []
  | d + 1, f :: fs => match cksOf E d f.type with
    | some l => match cksFs E d fs with
      | some m => some (l ++ m)
      | none => none
    | none => none
end
/-! ### Operations -/
/-! ### Regions -/
structure WNotes where
  ver : Nat
  hist : List (Nat × Nat × AH)
  reads : List (Nat × Oper × Tmps × Nat)
/-! ### Statements -/
structure KS where
  nxt : Tmps → AH → Prop
  ext : Nat → Tmps → AH → Prop
  ret : Tmps → AH → Prop
def memN (x : Nat) : List Nat → Bool
  | [] => false
  | y :: l => bif Nat.beq x y then true else memN x l
def uniq : List Nat → List Nat → List Nat
  | [], _ => []
  | x :: l, seen => bif memN x seen then uniq l seen else x :: uniq l (x :: seen)
def apnd (H : AH) (size bytes : Nat) (base : Option Addr) (len cap : Nat) (x : Value) : Option (Value × AH) :=
  match lenOfv x with
  | some n => match takev H size n x with
    | none => none
    | some new =>
      bif Nat.beq n 0 then (bif Nat.ble len (capN cap) then some (.slice base len cap, H) else none) else
      bif Nat.ble ((len + n) * bytes) 140737488355328 && Nat.ble (len + n) 140737488355328 && true then
        (match base with
        | none => bif Nat.beq cap 0 && Nat.beq len 0 then some (growv H size new n) else none
        | some a =>
          bif Nat.ble (len + n) (capN cap) then
            (match storeCellsv H a.block (a.off + len * size) new with
            | some H' => some (.slice (some a) (len + n) cap, H')
            | none => none)
          else match H.get a.block with
            | some (.cells cs es) => bif Nat.ble (a.off + len * size) cs.length && new.all oneCell then
                (bif Nat.beq (cap % 2) 0 then some (growv H size ((cs.drop a.off).take (len * size) ++ new) (len + n))
                else bif Nat.beq es size then some (growv (H.kill a.block) size ((cs.drop a.off).take (len * size) ++ new) (len + n)) else none)
              else none
            | _ => none)
      else none
  | none => none
structure Ann where
  blocks : List Nat
  conds : List Tmp
structure RdL (n g : Nat) (kn : List (Tmp × Value)) (R : List Tmp × Code × Code) (L : ALoop) : Prop where
  params : L.params = R.1
  assign : L.assign = R.2.1
  body : L.body = R.2.2
  n : L.T.n = n
  g : L.T.g = g
  get : ∀ p ∈ kn, L.T.get p.1 = some p.2
def knows (F : Tmps) : List Tmp → List (Tmp × Value)
  | [] => []
  | d :: ds => match F.get d with
    | some v => (d, v) :: knows F ds
    | none => knows F ds
end Go.Ev
namespace Go.Ev
open Go
structure Fits (F T : Tmps) : Prop where
  n : T.n = F.n
  g : T.g = F.g
  get : ∀ i v, F.get i = some v → T.get i = some v
theorem Fits.refl (F : Tmps) : Fits F F := ⟨rfl, rfl, fun _ _ e => e⟩
section
variable {F T : Tmps}
theorem Fits.evo (h : Fits F T) {x : Operand} {v : Value} (e : Ev.evo F x = some v) : Ev.evo T x = some v := by
  cases x with
  | tmp t => exact h.get _ _ e
  | const c => exact e
  | global k => simp only [Ev.evo, h.g] at e ⊢; exact e
  | func f => exact e
theorem Fits.evs (h : Fits F T) : ∀ {xs : List Operand} {vs : List Value}, Ev.evs F xs = some vs → Ev.evs T xs = some vs
  | [], _, e => e
  | x :: xs, vs, e => by
    simp only [Ev.evs] at e ⊢
    cases h1 : Ev.evo F x with
    | none => rw [h1] at e; cases e
    | some v =>
      rw [h1] at e; simp only at e
      cases h2 : Ev.evs F xs with
      | none => rw [h2] at e; cases e
      | some us => rw [h2] at e; rw [h.evo h1, h.evs h2]; exact e
theorem Fits.evps (h : Fits F T) : ∀ {xs : List (Nat × Operand)} {vs : List (Nat × Value)}, Ev.evps F xs = some vs → Ev.evps T xs = some vs
  | [], _, e => e
  | (i, x) :: xs, vs, e => by
    simp only [Ev.evps] at e ⊢
    cases h1 : Ev.evo F x with
    | none => rw [h1] at e; cases e
    | some v =>
      rw [h1] at e; simp only at e
      cases h2 : Ev.evps F xs with
      | none => rw [h2] at e; cases e
      | some us => rw [h2] at e; rw [h.evo h1, h.evps h2]; exact e
theorem Tmps.get_put (T : Tmps) (d : Tmp) (v : Value) (i : Nat) : (T.put (some d) v).get i = if i = d ∧ d < T.n then some v else T.get i := by
  simp only [Tmps.put]
  cases hb : Nat.blt d T.n
  · have : ¬ d < T.n := fun e => by rw [show Nat.blt d T.n = true from by simpa [Nat.blt_eq] using e] at hb; cases hb
    simp [this]
  · have : d < T.n := by simpa [Nat.blt_eq] using hb
    simp only [cond_true, Tmps.get, Tr.get_set]
    by_cases e : i = d <;> simp [e, this]
theorem Tmps.put_n (T : Tmps) (d : Option Tmp) (v : Value) : (T.put d v).n = T.n := by
  cases d with
  | none => rfl
  | some d => simp only [Tmps.put]; cases Nat.blt d T.n <;> rfl
theorem Tmps.put_g (T : Tmps) (d : Option Tmp) (v : Value) : (T.put d v).g = T.g := by
  cases d with
  | none => rfl
  | some d => simp only [Tmps.put]; cases Nat.blt d T.n <;> rfl
theorem Fits.put (h : Fits F T) (d : Option Tmp) (v : Value) : Fits (F.put d v) (T.put d v) := by
  refine ⟨by rw [Tmps.put_n, Tmps.put_n, h.n], by rw [Tmps.put_g, Tmps.put_g, h.g], ?_⟩
  cases d with
  | none => exact h.get
  | some d =>
    intro i u
    rw [Tmps.get_put, Tmps.get_put, h.n]
    split
    · exact id
    · exact h.get i u
end
section
variable {E : Env} {H : AH}
theorem AH.cell_some {b o : Nat} {v : Value} (h : H.cell b o = some v) : ∃ cs, H.rd b = some cs ∧ cs[o]? = some v := by
  unfold AH.cell at h
  split at h
  · rename_i cs hc; exact ⟨cs, hc, h⟩
  · cases h
end
end Go.Ev
namespace Go.Ev
open Go
section
variable {E : Env} {H : AH} {F T : Tmps} {ih : Rec}
end
end Go.Ev
