/- The evaluator itself: operations that change memory, calls, statements. -/
import Derived.Test.YthbphkakekdfkaaGreatDoorEv1
import Derived.CheckFast
namespace Go.Ev
open Go
def lset (l : List Value) (off : Nat) (vs : List Value) : List Value := l.take off ++ vs ++ l.drop (off + vs.length)
def storeCellsv (H : AH) (b off : Nat) (vs : List Value) : Option AH :=
  match H.get b with
  | some (.cells cs es) => bif Nat.ble (off + vs.length) cs.length && vs.all oneCell then some (H.set b (.cells (lset cs off vs) es)) else none
  | _ => none
def storev (E : Env) (H : AH) (t : TypeId) (x v : Value) : Option AH :=
  match x, E.ty.get t with
  | .pointer (some a), some i => bif Nat.beq (cellsOf v).length i.size then storeCellsv H a.block a.off (cellsOf v) else none
  | _, _ => none
def lenOfv : Value → Option Nat
  | .slice _ n _ => some n
  | .string s => some s.data.toList.length
  | _ => none
def takev (H : AH) (size n : Nat) : Value → Option (List Value)
  | .slice (some a) _ _ => bif Nat.beq n 0 then some [] else match H.rd a.block with
    | some cs => bif Nat.ble (a.off + n * size) cs.length then some ((cs.drop a.off).take (n * size)) else none
    | _ => none
  | .slice none _ _ => bif Nat.beq n 0 then some [] else none
  | .string s => bif Nat.beq size 1 then some ((s.data.toList.take n).map fun b => .int .u8 b.toNat) else none
  | _ => none
def growv (H : AH) (es : Nat) (cells : List Value) (need : Nat) : Value × AH :=
  (.slice (some ⟨H.next, 0, none⟩) need (2 * need + 1), H.new (.cells cells es))
def isApT (E : Env) (t : TypeId) : Bool := match E.ty.get t with
  | some i => match i.u with
    | .slice _ | .string => true
    | _ => false
  | none => false
def appendv (E : Env) (H : AH) (ats : List TypeId) (s x : Value) : Option (Value × AH) :=
  match ats with
  | t0 :: t1 :: _ => bif !(isApT E t1) then none else
    match E.ty.get t0 with
    | none => none
    | some i => match i.u, s, lenOfv x with
      | .slice e, .slice base len cap, some n => match E.ty.get e with
        | none => none
        | some j => match takev H j.size n x with
          | none => none
          | some new =>
            bif Nat.beq n 0 then (bif Nat.ble len (capN cap) then some (s, H) else none) else
            bif Nat.ble ((len + n) * j.bytes) 140737488355328 && Nat.ble (len + n) 140737488355328 && (match j.zero with | some z => clean z && Nat.beq (cellsOf z).length j.size | none => false) then
              (match base with
              | none => bif Nat.beq cap 0 && Nat.beq len 0 then some (growv H j.size new n) else none
              | some a =>
                bif Nat.ble (len + n) (capN cap) then
                  (match storeCellsv H a.block (a.off + len * j.size) new with
                  | some H' => some (.slice (some a) (len + n) cap, H')
                  | none => none)
                else match H.get a.block with
                  | some (.cells cs es) => bif Nat.ble (a.off + len * j.size) cs.length && new.all oneCell then
                      (bif Nat.beq (cap % 2) 0 then some (growv H j.size ((cs.drop a.off).take (len * j.size) ++ new) (len + n))
                      else bif Nat.beq es j.size then some (growv (H.kill a.block) j.size ((cs.drop a.off).take (len * j.size) ++ new) (len + n)) else none)
                    else none
                  | _ => none)
            else none
      | _, _, _ => none
  | _ => none
def copyv (E : Env) (H : AH) (ats : List TypeId) (d x : Value) : Option (Value × AH) :=
  match ats with
  | t0 :: _ => match E.ty.get t0 with
    | none => none
    | some i => match i.u, d, lenOfv x with
      | .slice e, .slice base dl _, some xl => match E.ty.get e with
        | none => none
        | some j => match takev H j.size (Nat.min xl dl) x with
          | none => none
          | some cs => bif Nat.beq (Nat.min xl dl) 0 then some (.int .i64 0, H) else
            match base with
            | none => none
            | some a => match storeCellsv H a.block a.off cs with
              | some H' => some (.int .i64 (Nat.min xl dl), H')
              | none => none
      | _, _, _ => none
  | _ => none
def clearv (E : Env) (H : AH) (ats : List TypeId) (x : Value) : Option (Value × AH) :=
  match ats with
  | t0 :: _ => match E.ty.get t0 with
    | none => none
    | some i => match i.u, x with
      | .slice e, .slice base n _ => bif Nat.beq n 0 then some (.tuple #[], H) else match E.ty.get e, base with
        | some j, some a => match j.zero with
          | some z => bif clean z && Nat.beq (cellsOf z).length j.size then (match storeCellsv H a.block a.off ((List.replicate n (cellsOf z)).flatten) with
            | some H' => some (.tuple #[], H')
            | none => none) else none
          | none => none
        | _, _ => none
      | .map _ _, .map none => some (.tuple #[], H)
      | .map _ _, .map (some r) => match H.get r with
        | some (.map _ clock) => some (.tuple #[], H.set r (.map [] clock))
        | _ => none
      | _, _ => none
  | _ => none
def samebv : Value → Value → Bool
  | .bool a, .bool b => a == b
  | .int j a, .int k b => j == k && a == b
  | .string a, .string b => a.data.toList == b.data.toList
  | _, _ => false
def samebs : List Value → List Value → Bool
  | [], [] => true
  | x :: xs, y :: ys => samebv x y && samebs xs ys
  | _, _ => false
def samek : Value → Value → Bool
  | .agg a, .agg b => samebs a.toList b.toList
  | x, y => samebv x y
def setEntry (k v : Value) : List MapEntry → Nat → List MapEntry
  | [], _ => []
  | e :: es, 0 => { e with key := k, val := v } :: es
  | e :: es, i + 1 => e :: setEntry k v es i
def updatev (E : Env) (H : AH) (t : TypeId) (m k v : Value) : Option AH :=
  match E.ty.get t, m with
  | some i, .map (some r) => match i.u, H.get r with
    | .map kt _, some (.map es clock) => bif keyok E 20 kt k then
        (match findv E kt k es 0 with
        | some (some (n, _)) => match es[n]? with
          | some e => bif samek e.key k then some (H.set r (.map (setEntry k v es n) clock)) else none
          | none => none
        | some none => some (H.set r (.map (es ++ [{ key := k, val := v, born := clock }]) (clock + 1)))
        | none => none) else none
    | _, _ => none
  | _, _ => none
def deletev (E : Env) (H : AH) (ats : List TypeId) (m k : Value) : Option (Value × AH) :=
  match ats with
  | t0 :: _ => match E.ty.get t0, m with
    | some i, .map none => match i.u with
      | .map kt _ => bif keyok E 20 kt k then some (.tuple #[], H) else none
      | _ => none
    | some i, .map (some r) => match i.u, H.get r with
      | .map kt _, some (.map es clock) => bif keyok E 20 kt k then
          (match findv E kt k es 0 with
          | some (some (n, _)) => some (.tuple #[], H.set r (.map (es.eraseIdx n) clock))
          | some none => some (.tuple #[], H.set r (.map es clock))
          | none => none) else none
      | _, _ => none
    | _, _ => none
  | _ => none
def rangev (E : Env) (H : AH) (t : TypeId) (x : Value) : Option (Value × AH) :=
  match E.ty.get t with
  | none => none
  | some i => match i.u, x with
    | .string, .string s => some (.pointer (some ⟨H.next, 0, none⟩), H.new (.strIter s 0))
    | .map _ _, .map none => some (.pointer (some ⟨H.next, 0, none⟩), H.new (.mapIter none 0 [] 0))
    | .map _ _, .map (some m) => match H.get m with
      | some (.map _ clock) => some (.pointer (some ⟨H.next, 0, none⟩), H.new (.mapIter (some m) clock [] clock))
      | _ => none
    | _, _ => none
def nextv (H : AH) (x : Value) (isString : Bool) : Option (Value × AH) :=
  match x with
  | .pointer (some a) => bif !(Nat.beq a.off 0) then none else match H.get a.block, isString with
    | some (.strIter s pos), true =>
      if pos < s.data.toList.length then
        (if (s.data.toList.getD pos 0).toNat < 128 then some (.tuple #[.bool true, .int .i64 pos, .int .i32 (s.data.toList.getD pos 0).toNat], H.set a.block (.strIter s (pos + 1))) else none)
      else some (.tuple #[.bool false], H)
    | some (.mapIter none _ _ _), false => some (.tuple #[.bool false], H)
    | some (.mapIter (some m) since seen last), false => match H.get m with
      | some (.map es clock) =>
        bif !seen.isEmpty && !es.isEmpty && es.all (fun e => decide (e.born ≥ last)) then none else
        match es.filter (fun e => !seen.contains e.born) with
        | [] => some (.tuple #[.bool false], H)
        | [e] => if e.born < since then some (.tuple #[.bool true, e.key, e.val], H.set a.block (.mapIter (some m) since (seen ++ [e.born]) clock)) else none
        | _ => none
      | _ => none
    | _, _ => none
  | _ => none
/-! ### Statements and calls -/
inductive Xt where
  | normal | exit (id : Nat) | ret
structure Rec where
  code : Code → Tmps → AH → Option (Xt × Tmps × AH)
  call : FuncId → List Value → AH → Option (Value × AH)
  round : Nat → List Value → AH → Option (Value × AH)
def recvOf (E : Env) (H : AH) (t : TypeId) (v : Value) (name : String) : Option (FuncId × Value) :=
  match E.ty.get t with
  | none => none
  | some i => match i.ms.find? (·.name == name) with
    | none => none
    | some m => match m.path.toList, m.func, i.u with
      | [], some (f, true), .pointer _ => some (f, v)
      | [], some (f, false), .pointer e => (match loadv E H e v with | some x => some (f, x) | none => none)
      | [], some (f, false), _ => some (f, v)
      | _, _, _ => none
def callFn (E : Env) (ih : Rec) (fn : Fn) (captured args : List Value) (H : AH) : Option (Value × AH) :=
  match fn, args with
  | .func f, args => match E.ext.get f with
    | some g => g (args ++ captured) H
    | none => ih.call f (args ++ captured) H
  | .yield l, args => ih.round l args H
  | .method name, .iface t v :: rest => match recvOf E H t v name with
    | some (f, r) => (match E.ext.get f with
      | some _ => none
      | none => ih.call f (r :: rest) H)
    | none => none
  | _, _ => none
def callOp (E : Env) (ih : Rec) (c : Call) (T : Tmps) (H : AH) : Option (Value × AH) :=
  match evs T c.args.toList with
  | none => none
  | some args => match c.callee with
    | .value f => match evo T f with
      | some (.func fn first captured) => callFn E ih fn captured.toList (first.toList ++ args) H
      | _ => none
    | .invoke r name => match evo T r with
      | some v => callFn E ih (.method name) [] (v :: args) H
      | none => none
    | .builtin .append => match args with
      | [s, x] => appendv E H c.argTypes.toList s x
      | _ => none
    | .builtin .copy => match args with
      | [s, x] => copyv E H c.argTypes.toList s x
      | _ => none
    | .builtin .clear => match args with
      | [s] => clearv E H c.argTypes.toList s
      | _ => none
    | .builtin .delete => match args with
      | [s, x] => deletev E H c.argTypes.toList s x
      | _ => none
    | _ => none
def effOp (E : Env) (ih : Rec) (T : Tmps) (H : AH) : Op → Option (Value × AH)
  | .store t a x => match evo T a, evo T x with
    | some p, some v => match storev E H t p v with
      | some H' => some (undefV, H')
      | none => none
    | _, _ => none
  | .mapUpdate t m k x | .insert t m k x => match evo T m, evo T k, evo T x with
    | some m, some k, some v => match updatev E H t m k v with
      | some H' => some (undefV, H')
      | none => none
    | _, _, _ => none
  | .range t x => match evo T x with
    | some v => rangev E H t v
    | none => none
  | .next it s => match evo T it with
    | some v => nextv H v s
    | none => none
  | .call c => callOp E ih c T H
  | _ => none
def cls (E : Env) : Op → Nat
  | .load .. | .lookup .. | .slice .. | .entry _ => 1
  | .alloc _ | .box .. | .buildSlice .. | .makeSlice .. | .makeMap .. => 2
  | .convert s d _ => match E.ty.get s, E.ty.get d with
    | some i, some j => match i.u, j.u with
      | .slice _, _ => 1
      | _, .slice _ => 2
      | _, _ => 0
    | _, _ => 3
  | .store .. | .mapUpdate .. | .insert .. | .range .. | .next .. => 3
  | .call c => match c.callee with
    | .builtin .len => match E.ty.get (c.argTypes.getD 0 0) with
      | some i => match i.u with
        | .map _ _ => 1
        | _ => 0
      | none => 3
    | .builtin .max | .builtin .min => 0
    | _ => 3
  | _ => 0
def doOp (E : Env) (ih : Rec) (op : Op) (T : Tmps) (H : AH) : Option (Value × AH) :=
  match cls E op with
  | 0 => match pureOp E T op with
    | some v => some (v, H)
    | none => none
  | 1 => match readOp E T H op with
    | some v => some (v, H)
    | none => (match pureOp E T op with
      | some v => some (v, H)
      | none => none)
  | 2 => match newOp E T op with
    | some (o, a) => some (a.val H.next, H.new o)
    | none => none
  | _ => effOp E ih T H op
def wantedv (ops : List Oper) (T : Tmps) (o : Oper) : Option Bool :=
  match o.guard with
  | none => some true
  | some (j, want) => match ops[j]? with
    | some g => match g.dst with
      | some d => match T.get d with
        | some (.bool b) => some (b == want)
        | some (.chan (some _)) => none
        | some _ => some false
        | none => none
      | none => none
    | none => none
def runOp (E : Env) (ih : Rec) (ops : List Oper) (o : Oper) (T : Tmps) (H : AH) : Option (Tmps × AH) :=
  match wantedv ops T o with
  | some true => match doOp E ih o.op T H with
    | some (v, H') => some (T.put o.dst v, H')
    | none => none
  | some false => some (T.put o.dst undefV, H)
  | none => none
def runOps (E : Env) (ih : Rec) (ops : List Oper) : List Oper → Tmps → AH → Option (Tmps × AH)
  | [], T, H => some (T, H)
  | o :: os, T, H => match runOp E ih ops o T H with
    | some (T', H') => runOps E ih ops os T' H'
    | none => none
/-! A region whose order is open: it is run in the order of the text, if no other order can tell. -/
def befores : List Oper → Nat → List Nat → List Nat
  | [], _, acc => acc
  | o :: os, j, acc => CheckFast.force (CheckFast.one (fun i => if i < j then acc.getD (j - 1 - i) 0 else 0) o) fun v => befores os (j + 1) (v :: acc)
def looks (ops : List Oper) (o : Oper) : List Tmp :=
  (o.op.operands.toList.filterMap fun | .tmp t => some t | _ => none) ++
  (match o.guard with
   | some (g, _) => (match ops[g]? with | some x => x.dst.toList | none => [])
   | none => [])
def inL (d : Nat) : List Nat → Bool
  | [] => false
  | x :: xs => bif Nat.beq x d then true else inL d xs
def apartv (L : List Tmp) (dj : Option Tmp) (bj j : Nat) (bk k : Nat) (dk : Option Tmp) : Bool := match dk with
  | none => true
  | some d => (match dj with | some e => !(Nat.beq e d) | none => true) && (bif inL d L then bj.testBit k || bk.testBit j else true)
def apartAll (L : List Tmp) (dj : Option Tmp) (bs : List Nat) (j : Nat) : List Oper → Nat → Bool
  | [], _ => true
  | o :: os, k => (bif Nat.beq k j then true else apartv L dj (bs.getD j 0) j (bs.getD k 0) k o.dst) && apartAll L dj bs j os (k + 1)
def ssaOk (ops : List Oper) (bs : List Nat) : List Oper → Nat → Bool
  | [], _ => true
  | o :: os, j => apartAll (looks ops o) o.dst bs j ops 0 && ssaOk ops bs os (j + 1)
def chainOk (E : Env) (bs : List Nat) : List Oper → Nat → List Nat → Bool
  | [], _, _ => true
  | o :: os, j, es => bif Nat.beq (cls E o.op) 3 then es.all (fun i => (bs.getD j 0).testBit i) && chainOk E bs os (j + 1) (j :: es) else chainOk E bs os (j + 1) es
def readAny (E : Env) (T : Tmps) (H : AH) (op : Op) : Option Value := match readOp E T H op with
  | some v => some v
  | none => pureOp E T op
structure Notes where
  hist : List (Nat × AH)
  reads : List (Nat × Oper × Tmps)
def note (E : Env) (ops : List Oper) (j : Nat) (o : Oper) (T : Tmps) (H : AH) (N : Notes) : Notes :=
  match cls E o.op with
  | 3 => { N with hist := (j, H) :: N.hist }
  | 1 => match wantedv ops T o with
    | some true => { N with reads := (j, o, T) :: N.reads }
    | _ => N
  | _ => N
def runDraw (E : Env) (ih : Rec) (ops : List Oper) : List Oper → Nat → Tmps → AH → Notes → Option (Tmps × AH × Notes)
  | [], j, T, H, N => some (T, H, { N with hist := (j, H) :: N.hist })
  | o :: os, j, T, H, N => match runOp E ih ops o T H with
    | some (T', H') => runDraw E ih ops os (j + 1) T' H' (note E ops j o T H N)
    | none => none
def mayAt (bs : List Nat) (hist : List (Nat × AH)) (j p : Nat) : Bool :=
  !((bs.getD j 0).testBit p) && hist.all fun q => bif Nat.ble p q.1 then true else !((bs.getD q.1 0).testBit j)
def veqL (f : Value → Value → Bool) : List Value → List Value → Bool
  | [], [] => true
  | x :: xs, y :: ys => f x y && veqL f xs ys
  | _, _ => false
def veq : Nat → Value → Value → Bool
  | 0, _, _ => false
  | d + 1, x, y => match x, y with
    | .bool a, .bool b => a == b
    | .int j a, .int k b => decide (j = k) && decide (a = b)
    | .string a, .string b => a.data.toList == b.data.toList
    | .pointer none, .pointer none => true
    | .float j a, .float k b => decide (j = k) && Nat.beq a b
    | .chan none, .chan none => true
    | .chan (some a), .chan (some b) => Nat.beq a b
    | .pointer (some a), .pointer (some b) => Nat.beq a.block b.block && Nat.beq a.off b.off && decide (a.spot = b.spot)
    | .slice none a b, .slice none c d => Nat.beq a c && Nat.beq b d
    | .slice (some a) l c, .slice (some b) m d => Nat.beq a.block b.block && Nat.beq a.off b.off && decide (a.spot = b.spot) && Nat.beq l m && Nat.beq c d
    | .map none, .map none => true
    | .map (some a), .map (some b) => Nat.beq a b
    | .nilFunc, .nilFunc => true
    | .nilIface, .nilIface => true
    | .func (.func f) a b, .func (.func g) a' b' => Nat.beq f g && veqL (veq d) a.toList a'.toList && veqL (veq d) b.toList b'.toList
    | .iface t v, .iface u w => Nat.beq t u && veq d v w
    | .agg a, .agg b => veqL (veq d) a.toList b.toList
    | .tuple a, .tuple b => veqL (veq d) a.toList b.toList
    | _, _ => false
def readOk (E : Env) (bs : List Nat) (hist : List (Nat × AH)) (j : Nat) (o : Oper) (T : Tmps) (u : Value) : Bool :=
  hist.all fun q => bif mayAt bs hist j q.1 then (match readAny E T q.2 o.op with | some v => veq 20 v u | none => false) else true
def readsOk (E : Env) (bs : List Nat) (hist : List (Nat × AH)) (Tn : Tmps) : List (Nat × Oper × Tmps) → Bool
  | [] => true
  | (j, o, T) :: rs => (match o.dst with
    | some d => (match Tn.get d with | some u => readOk E bs hist j o T u | none => false)
    | none => false) && readsOk E bs hist Tn rs
def dstsOk (n : Nat) : List Oper → Bool
  | [] => true
  | o :: os => (match o.dst with | some d => Nat.blt d n | none => true) && dstsOk n os
def edgesOk : List Oper → Nat → Bool
  | [], _ => true
  | o :: os, j => (o.after.toList.all fun e => bif Region.binds .any e then Nat.blt e.on j else true) && edgesOk os (j + 1)
def drawRegion (E : Env) (ih : Rec) (ops : List Oper) (T : Tmps) (H : AH) : Option (Tmps × AH) :=
  let bs := (befores ops 0 []).reverse
  bif ssaOk ops bs ops 0 && chainOk E bs ops 0 [] && dstsOk T.n ops && edgesOk ops 0 then
    (match runDraw E ih ops ops 0 T H ⟨[], []⟩ with
    | some (T', H', N) => bif readsOk E bs N.hist T' N.reads then some (T', H') else none
    | none => none) else none
def seqK (r : Option (Xt × Tmps × AH)) (k : Tmps → AH → Option (Xt × Tmps × AH)) : Option (Xt × Tmps × AH) :=
  match r with
  | some (.normal, T, H) => k T H
  | r => r
def blockK (id : Nat) (r : Option (Xt × Tmps × AH)) : Option (Xt × Tmps × AH) :=
  match r with
  | some (.exit i, T, H) => bif Nat.beq i id then some (.normal, T, H) else some (.exit i, T, H)
  | r => r
def codeOf : Xt → Option Code
  | .normal => none
  | .exit i => some (.exit i)
  | .ret => some .ret
def xtOf : Option Code → Option Xt
  | none => some .normal
  | some (.exit i) => some (.exit i)
  | some .ret => some .ret
  | _ => none
def endLoopK (l : Nat) (T : Tmps) (H : AH) : Option (Xt × Tmps × AH) :=
  match H.get l with
  | some (.loop L) => match L.st with
    | .busy => none
    | _ => match xtOf L.pend with
      | some x => some (x, T, H.set l (.loop { L with st := .exhausted }))
      | none => none
  | _ => none
def rangeFuncK (E : Env) (ih : Rec) (f : Operand) (params : List Tmp) (assign body : Code) (T : Tmps) (H : AH) : Option (Xt × Tmps × AH) :=
  match evo T f with
  | some (.func fn first captured) =>
    match callFn E ih fn captured.toList (first.toList ++ [.func (.yield H.next) #[] #[]]) (H.new (.loop ⟨T, params, assign, body, .ready, none⟩)) with
    | some (_, H2) => endLoopK H.next T H2
    | none => none
  | _ => none
def stepCode (E : Env) (ih : Rec) (c : Code) (T : Tmps) (H : AH) : Option (Xt × Tmps × AH) :=
  match c with
  | .skip | .label _ => some (.normal, T, H)
  | .region _ ops false => match runOps E ih ops.toList ops.toList T H with
    | some (T', H') => some (.normal, T', H')
    | none => none
  | .region _ ops true => match drawRegion E ih ops.toList T H with
    | some (T', H') => some (.normal, T', H')
    | none => none
  | .seq a b => seqK (ih.code a T H) (ih.code b)
  | .cond x a b => match evo T x with
    | some (.bool t) => ih.code (bif t then a else b) T H
    | _ => none
  | .block id b => blockK id (ih.code b T H)
  | .loop b => seqK (ih.code b T H) (ih.code (.loop b))
  | .scope b => ih.code b T H
  | .exit id => some (.exit id, T, H)
  | .ret => some (.ret, T, H)
  | .rangeFunc f ps a b => rangeFuncK E ih f ps.toList a b T H
  | .goto _ | .refuse _ => none
def resv (E : Env) (T : Tmps) (H : AH) : List ResultVar → Option (List Value)
  | [] => some []
  | .tmp t :: rs => match T.get t, resv E T H rs with
    | some v, some vs => some (v :: vs)
    | _, _ => none
  | .cell a t :: rs => match T.get a with
    | some p => match loadv E H t p, resv E T H rs with
      | some v, some vs => some (v :: vs)
      | _, _ => none
    | none => none
def tupled : List Value → Value
  | [v] => v
  | vs => .tuple vs.toArray
def retK (E : Env) (rs : List ResultVar) (r : Option (Xt × Tmps × AH)) : Option (Value × AH) :=
  match r with
  | some (.exit _, _, _) => none
  | some (_, T, H) => match resv E T H rs with
    | some vs => some (tupled vs, H)
    | none => none
  | none => none
def stepCall (E : Env) (ih : Rec) (f : FuncId) (args : List Value) (H : AH) : Option (Value × AH) :=
  match E.fn.get f with
  | some fn => match fn.body with
    | some c => (match E.sum.get f with
      | some g => g args H
      | none => bif Nat.ble args.length fn.ntmps then retK E fn.results.toList (ih.code c ⟨fn.ntmps, E.g, Tr.ofList 0 args⟩ H) else none)
    | none => none
  | none => none
def setArgs (T : Tmps) : List Tmp → List Value → Option Tmps
  | [], [] => some T
  | t :: ts, v :: vs => setArgs (T.put (some t) v) ts vs
  | _, _ => none
def endRoundK (l : Nat) (r : Option (Xt × Tmps × AH)) : Option (Value × AH) :=
  match r with
  | some (x, _, H) => match H.get l with
    | some (.loop L) => match codeOf x with
      | none => some (.bool true, H.set l (.loop { L with st := .ready, pend := none }))
      | some c => some (.bool false, H.set l (.loop { L with st := .done, pend := some c }))
    | _ => none
  | none => none
def beginRoundK (ih : Rec) (l : Nat) (body : Code) (r : Option (Xt × Tmps × AH)) : Option (Value × AH) :=
  match r with
  | some (.normal, T, H) => match H.get l with
    | some (.loop L) => match L.st with
      | .ready => endRoundK l (ih.code body T (H.set l (.loop { L with st := .busy })))
      | _ => none
    | _ => none
  | _ => none
def flat : Code → Bool
  | .rangeFunc .. => false
  | .seq a b | .cond _ a b => flat a && flat b
  | .block _ a | .loop a | .scope a => flat a
  | _ => true
def stepRound (ih : Rec) (l : Nat) (args : List Value) (H : AH) : Option (Value × AH) :=
  match H.get l with
  | some (.loop L) => bif flat L.assign && flat L.body then (match setArgs L.T L.params args with
    | some T => beginRoundK ih l L.body (ih.code L.assign T H)
    | none => none) else none
  | _ => none
def evalN (E : Env) : Nat → Rec
  | 0 => ⟨fun _ _ _ => none, fun _ _ _ => none, fun _ _ _ => none⟩
  | n + 1 => ⟨stepCode E (evalN E n), stepCall E (evalN E n), stepRound (evalN E n)⟩
end Go.Ev
