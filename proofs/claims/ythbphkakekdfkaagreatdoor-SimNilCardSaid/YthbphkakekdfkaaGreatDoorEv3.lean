/- How the evaluator's values, temporaries and heap stand to a machine's: relations, and what a step leaves of them. -/
import Derived.Test.YthbphkakekdfkaaGreatDoorEv2
import Derived.Below
namespace Go.Ev
open Go Go.RowKit
class Sy where
  val : Nat → Value
  one : ∀ k, oneCell (val k) = true
structure Pl where
  c : Nat
  d : Nat
  e : Nat
  z : Nat
abbrev Ren := Nat → Option Pl
mutual
inductive VR [Sy] (ρ : Ren) : Value → Value → Prop
  | bool (b : Bool) : VR ρ (.bool b) (.bool b)
  | int (k : IntKind) (n : Int) : VR ρ (.int k n) (.int k n)
  | float (k : FloatKind) (b : Nat) : VR ρ (.float k b) (.float k b)
  | str (s : ByteArray) : VR ρ (.string s) (.string s)
  | pnil : VR ρ (.pointer none) (.pointer none)
  | ptr {b o : Nat} {p : Pl} (h : ρ b = some p) : VR ρ (.pointer (some ⟨b, o, none⟩)) (.pointer (some ⟨p.c, p.d + o, none⟩))
  | snil : VR ρ (.slice none 0 0) (.slice none 0 0)
  | sany (a : Addr) (cap : Nat) : VR ρ (.slice none 0 1) (.slice (some a) 0 cap)
  | sl {b o n c c' : Nat} {p : Pl} (h : ρ b = some p) (h0 : c % 2 = 0 → c' = c / 2) (h1 : c / 2 ≤ c') (h2 : c % 2 = 1 → p.d + o + c' * p.e ≤ p.z) :
      VR ρ (.slice (some ⟨b, o, none⟩) n c) (.slice (some ⟨p.c, p.d + o, none⟩) n c')
  | mnil : VR ρ (.map none) (.map none)
  | map {r : Nat} {p : Pl} (h : ρ r = some p) : VR ρ (.map (some r)) (.map (some p.c))
  | cnil : VR ρ (.chan none) (.chan none)
  | sym (k : Nat) : VR ρ (.chan (some k)) (Sy.val k)
  | func (fn : Fn) {fs fs' cs cs' : List Value} (hn : ∀ l, fn ≠ .yield l) (hf : VRs ρ fs fs') (hc : VRs ρ cs cs') : VR ρ (.func fn ⟨fs⟩ ⟨cs⟩) (.func fn ⟨fs'⟩ ⟨cs'⟩)
  | yield {l : Nat} {p : Pl} (h : ρ l = some p) : VR ρ (.func (.yield l) #[] #[]) (.func (.yield p.c) #[] #[])
  | nilFunc : VR ρ .nilFunc .nilFunc
  | nilIface : VR ρ .nilIface .nilIface
  | iface (t : TypeId) {v v' : Value} (h : VR ρ v v') : VR ρ (.iface t v) (.iface t v')
  | agg {l l' : List Value} (h : VRs ρ l l') : VR ρ (.agg ⟨l⟩) (.agg ⟨l'⟩)
  | tuple {l l' : List Value} (h : VRs ρ l l') : VR ρ (.tuple ⟨l⟩) (.tuple ⟨l'⟩)
inductive VRs [Sy] (ρ : Ren) : List Value → List Value → Prop
  | nil : VRs ρ [] []
  | cons {v v' : Value} {l l' : List Value} (h : VR ρ v v') (t : VRs ρ l l') : VRs ρ (v :: l) (v' :: l')
end
def Ext (ρ ρ' : Ren) : Prop := ∀ b p, ρ b = some p → ρ' b = some p
theorem Ext.refl (ρ : Ren) : Ext ρ ρ := fun _ _ h => h
theorem Ext.trans {a b c : Ren} (h : Ext a b) (k : Ext b c) : Ext a c := fun x p e => k x p (h x p e)
mutual
theorem VR.mono [Sy] {ρ ρ' : Ren} (hx : Ext ρ ρ') : ∀ {v v' : Value}, VR ρ v v' → VR ρ' v v'
  | _, _, .bool b => .bool b
  | _, _, .int k n => .int k n
  | _, _, .float k b => .float k b
  | _, _, .str s => .str s
  | _, _, .pnil => .pnil
  | _, _, .ptr h => .ptr (hx _ _ h)
  | _, _, .snil => .snil
  | _, _, .sany a c => .sany a c
  | _, _, .sl h h0 h1 h2 => .sl (hx _ _ h) h0 h1 h2
  | _, _, .mnil => .mnil
  | _, _, .map h => .map (hx _ _ h)
  | _, _, .cnil => .cnil
  | _, _, .sym k => .sym k
  | _, _, .func fn hn hf hc => .func fn hn (VRs.mono hx hf) (VRs.mono hx hc)
  | _, _, .yield h => .yield (hx _ _ h)
  | _, _, .nilFunc => .nilFunc
  | _, _, .nilIface => .nilIface
  | _, _, .iface t h => .iface t (VR.mono hx h)
  | _, _, .agg h => .agg (VRs.mono hx h)
  | _, _, .tuple h => .tuple (VRs.mono hx h)
theorem VRs.mono [Sy] {ρ ρ' : Ren} (hx : Ext ρ ρ') : ∀ {l l' : List Value}, VRs ρ l l' → VRs ρ' l l'
  | _, _, .nil => .nil
  | _, _, .cons h t => .cons (VR.mono hx h) (VRs.mono hx t)
end
theorem VRs.length [Sy] {ρ : Ren} : ∀ {l l' : List Value}, VRs ρ l l' → l'.length = l.length
  | _, _, .nil => rfl
  | _, _, .cons _ t => by simp [VRs.length t]
theorem VRs.get [Sy] {ρ : Ren} : ∀ {l l' : List Value}, VRs ρ l l' → ∀ {i : Nat} {v : Value}, l[i]? = some v → ∃ v', l'[i]? = some v' ∧ VR ρ v v'
  | _, _, .nil, i, v, h => by simp at h
  | _, _, .cons h t, 0, v, e => by simp at e; subst e; exact ⟨_, rfl, h⟩
  | _, _, .cons _ t, i + 1, v, e => by simpa using VRs.get t (i := i) (by simpa using e)
theorem VRs.append [Sy] {ρ : Ren} : ∀ {a a' b b' : List Value}, VRs ρ a a' → VRs ρ b b' → VRs ρ (a ++ b) (a' ++ b')
  | _, _, _, _, .nil, k => k
  | _, _, _, _, .cons h t, k => .cons h (VRs.append t k)
theorem VRs.take [Sy] {ρ : Ren} : ∀ (n : Nat) {l l' : List Value}, VRs ρ l l' → VRs ρ (l.take n) (l'.take n)
  | 0, _, _, _ => by simp; exact .nil
  | n + 1, _, _, .nil => by simp; exact .nil
  | n + 1, _, _, .cons h t => by simpa using .cons h (VRs.take n t)
theorem VRs.drop [Sy] {ρ : Ren} : ∀ (n : Nat) {l l' : List Value}, VRs ρ l l' → VRs ρ (l.drop n) (l'.drop n)
  | 0, _, _, h => by simpa using h
  | n + 1, _, _, .nil => by simp; exact .nil
  | n + 1, _, _, .cons _ t => by simpa using VRs.drop n t
theorem VRs.of_get [Sy] {ρ : Ren} : ∀ {l l' : List Value}, l.length = l'.length → (∀ (i : Nat) (v : Value), l[i]? = some v → ∃ v', l'[i]? = some v' ∧ VR ρ v v') → VRs ρ l l'
  | [], [], _, _ => .nil
  | [], _ :: _, h, _ => by simp at h
  | _ :: _, [], h, _ => by simp at h
  | a :: l, a' :: l', h, k => by
    refine .cons ?_ (VRs.of_get (by simpa using h) fun i v e => by simpa using k (i + 1) v (by simpa using e))
    obtain ⟨v', e, hv⟩ := k 0 a rfl
    simp at e; subst e; exact hv
theorem VR.leafy [Sy] {ρ : Ren} {v : Value} (h : leafy v = true) : VR ρ v v := by
  cases v with
  | bool b => exact .bool b
  | int k n => exact .int k n
  | float k b => exact .float k b
  | string s => exact .str s
  | nilFunc => exact .nilFunc
  | nilIface => exact .nilIface
  | pointer a => cases a with | none => exact .pnil | some a => simp [Ev.leafy] at h
  | map a => cases a with | none => exact .mnil | some a => simp [Ev.leafy] at h
  | chan a => cases a with | none => exact .cnil | some a => simp [Ev.leafy] at h
  | slice a l c =>
    cases a with
    | none => cases l with
      | zero => cases c with
        | zero => exact .snil
        | succ c => simp [Ev.leafy] at h
      | succ l => simp [Ev.leafy] at h
    | some a => simp [Ev.leafy] at h
  | func fn f c =>
    cases fn with
    | func g =>
      simp [Ev.leafy] at h
      obtain ⟨rfl, rfl⟩ := h
      exact .func _ (by simp) .nil .nil
    | _ => simp [Ev.leafy] at h
  | complex k a b => simp [Ev.leafy] at h
  | iface t v => simp [Ev.leafy] at h
  | agg a => simp [Ev.leafy] at h
  | tuple a => simp [Ev.leafy] at h
theorem VRs.leafy [Sy] {ρ : Ren} : ∀ {l : List Value}, l.all Ev.leafy = true → VRs ρ l l
  | [], _ => .nil
  | v :: l, h => by simp at h; exact .cons (VR.leafy h.1) (VRs.leafy (by simpa using h.2))
theorem VR.clean [Sy] {ρ : Ren} {v : Value} (h : clean v = true) : VR ρ v v := by
  unfold Ev.clean at h
  split at h
  · rename_i cs; obtain ⟨cs⟩ := cs; exact .agg (VRs.leafy h)
  · rename_i cs; obtain ⟨cs⟩ := cs; exact .tuple (VRs.leafy h)
  · exact VR.leafy h
theorem cells_sym [Sy] (k : Nat) : (Sy.val k).cells.toList = [Sy.val k] := by
  have h := Sy.one k
  generalize Sy.val k = v at *
  cases v <;> first | rfl | (simp [Ev.oneCell] at h)
theorem VR.cellsOf [Sy] {ρ : Ren} {v v' : Value} (h : VR ρ v v') : VRs ρ (cellsOf v) v'.cells.toList := by
  cases h
  case sym k => rw [cells_sym]; exact .cons (.sym k) .nil
  all_goals first
    | (simp only [Ev.cellsOf, Value.cells]; exact .cons (by constructor <;> assumption) .nil)
    | (simp only [Ev.cellsOf, Value.cells]; assumption)
theorem VR.oneCell [Sy] {ρ : Ren} {v v' : Value} (h : VR ρ v v') : oneCell v' = oneCell v := by
  cases h
  case sym k => exact Sy.one k
  all_goals rfl
/-! ### Temporaries -/
def GOk (ρ : Ren) (g : Nat) : Prop := ∀ k, k < g → ∃ e z, ρ k = some ⟨k, 0, e, z⟩
theorem GOk.mono {ρ ρ' : Ren} {g : Nat} (h : GOk ρ g) (hx : Ext ρ ρ') : GOk ρ' g := fun k hk => let ⟨e, z, a⟩ := h k hk; ⟨e, z, hx _ _ a⟩
structure TR [Sy] (ρ : Ren) (T : Tmps) (tmps : Array Value) : Prop where
  glob : GOk ρ T.g
  size : tmps.size = T.n
  get : ∀ t v, T.get t = some v → ∃ v', tmps[t]? = some v' ∧ VR ρ v v'
theorem TR.mono [Sy] {ρ ρ' : Ren} {T : Tmps} {tmps : Array Value} (h : TR ρ T tmps) (hx : Ext ρ ρ') : TR ρ' T tmps :=
  ⟨h.glob.mono hx, h.size, fun t v e => let ⟨v', a, b⟩ := h.get t v e; ⟨v', a, b.mono hx⟩⟩
theorem TR.put [Sy] {ρ : Ren} {T : Tmps} {tmps : Array Value} (h : TR ρ T tmps) {v v' : Value} (hv : VR ρ v v') (dst : Option Tmp) :
    TR ρ (T.put dst v) (match dst with | some d => tmps.setIfInBounds d v' | none => tmps) := by
  cases dst with
  | none => exact h
  | some d =>
    simp only [Tmps.put]
    cases hb : Nat.blt d T.n
    · simp only [cond_false]
      have this : T.n ≤ d := by refine Nat.le_of_not_lt fun e => ?_; rw [show Nat.blt d T.n = true from by simpa [Nat.blt_eq] using e] at hb; cases hb
      rw [Array.setIfInBounds_eq_of_size_le (h.size ▸ this)]
      exact h
    · simp only [cond_true]
      have hd : d < T.n := by simpa [Nat.blt_eq] using hb
      refine ⟨h.glob, by simpa using h.size, fun t u e => ?_⟩
      simp only [Tmps.get, Tr.get_set] at e
      by_cases ht : t = d
      · subst ht
        rw [if_pos rfl] at e; cases e
        exact ⟨v', by rw [Array.getElem?_setIfInBounds]; simp [h.size, hd], hv⟩
      · rw [if_neg ht] at e
        obtain ⟨u', a, b⟩ := h.get t u e
        exact ⟨u', by rw [Array.getElem?_setIfInBounds_ne (fun e => ht e.symm)]; exact a, b⟩
theorem evo_sim [Sy] {ρ : Ren} {T : Tmps} {a : Act} (h : TR ρ T a.tmps) {x : Operand} {v : Value} (e : evo T x = some v) : VR ρ v (a.eval x) := by
  cases x with
  | tmp t =>
    obtain ⟨v', g, hv⟩ := h.get t v e
    simp only [Act.eval, Array.getD_eq_getD_getElem?, g, Option.getD_some]
    exact hv
  | const u =>
    simp only [evo] at e
    cases hc : clean u
    · rw [hc] at e; cases e
    · rw [hc] at e; cases e; exact VR.clean hc
  | global g =>
    simp only [evo] at e
    cases hb : Nat.blt g T.g
    · rw [hb] at e; cases e
    · rw [hb] at e
      simp only [cond_true, Option.some.injEq] at e
      subst e
      obtain ⟨ee, z, hg⟩ := h.glob g (by simpa [Nat.blt_eq] using hb)
      have := VR.ptr (ρ := ρ) (b := g) (o := 0) hg
      simpa [Act.eval] using this
  | func f => cases e; exact .func _ (by simp) .nil .nil
theorem evs_sim [Sy] {ρ : Ren} {T : Tmps} {a : Act} (h : TR ρ T a.tmps) : ∀ {xs : List Operand} {vs : List Value}, evs T xs = some vs → VRs ρ vs (xs.map a.eval)
  | [], vs, e => by cases e; exact .nil
  | x :: xs, vs, e => by
    simp only [evs] at e
    split at e
    · rename_i v hv
      split at e
      · rename_i vs' hvs; cases e; exact .cons (evo_sim h hv) (evs_sim h hvs)
      · cases e
    · cases e
/-! ### The heap -/
structure ER [Sy] (ρ : Ren) (a b : MapEntry) : Prop where
  key : VR ρ a.key b.key
  val : VR ρ a.val b.val
  born : b.born = a.born
inductive ERs [Sy] (ρ : Ren) : List MapEntry → List MapEntry → Prop
  | nil : ERs ρ [] []
  | cons {a b : MapEntry} {l m : List MapEntry} (h : ER ρ a b) (t : ERs ρ l m) : ERs ρ (a :: l) (b :: m)
theorem ER.mono [Sy] {ρ ρ' : Ren} (hx : Ext ρ ρ') {a b : MapEntry} (h : ER ρ a b) : ER ρ' a b := ⟨h.key.mono hx, h.val.mono hx, h.born⟩
theorem ERs.mono [Sy] {ρ ρ' : Ren} (hx : Ext ρ ρ') {a b : List MapEntry} (h : ERs ρ a b) : ERs ρ' a b := by
  induction h with
  | nil => exact .nil
  | cons h _ ih => exact .cons (h.mono hx) ih
structure LR [Sy] (ρ : Ren) (L : ALoop) (l : Loop) : Prop where
  tmps : TR ρ L.T l.tmps
  params : l.params.toList = L.params
  assign : l.assign = L.assign
  body : l.body = L.body
  state : l.state = L.st
  pend : l.pending = L.pend
inductive OR [Sy] (ρ : Ren) (p : Pl) : AObj → Obj → Prop
  | cells {cs : List Value} {es : Nat} {arr : Array Value} {t : TypeId} {fz : Nat × Nat} (hz : arr.size = p.z) (he : es = p.e) (hl : p.d + cs.length ≤ p.z)
      (hc : ∀ i v, cs[i]? = some v → ∃ v', arr[p.d + i]? = some v' ∧ VR ρ v v') (hf : ∀ i, i < p.z → ¬ (fz.1 ≤ i ∧ i < fz.2)) (hd : es = 0 → 0 < cs.length → p.d = 0) : OR ρ p (.cells cs es) (.cells arr t fz)
  | ro {cs : List Value} {arr : Array Value} {t : TypeId} {fz : Nat × Nat} (hz : arr.size = p.z) (hl : p.d + cs.length ≤ p.z)
      (hc : ∀ i v, cs[i]? = some v → ∃ v', arr[p.d + i]? = some v' ∧ VR ρ v v') : OR ρ p (.ro cs) (.cells arr t fz)
  | map {es : List MapEntry} {es' : Array MapEntry} (clock : Nat) (h : ERs ρ es es'.toList) : OR ρ p (.map es clock) (.map es' clock)
  | iterNil (since : Nat) {seen : List Nat} {seen' : Array Nat} (st : Nat) (hd : p.d = 0) (hs : seen'.toList = seen) : OR ρ p (.mapIter none since seen st) (.mapIter none since seen' st)
  | iter {m : Nat} {q : Pl} (hm : ρ m = some q) (since : Nat) {seen : List Nat} {seen' : Array Nat} (st : Nat) (hd : p.d = 0) (hs : seen'.toList = seen) : OR ρ p (.mapIter (some m) since seen st) (.mapIter (some q.c) since seen' st)
  | strIter (s : ByteArray) (pos : Nat) (hd : p.d = 0) : OR ρ p (.strIter s pos) (.stringIter s pos)
  | loop {L : ALoop} {l : Loop} (h : LR ρ L l) : OR ρ p (.loop L) (.loop l)
theorem OR.mono [Sy] {ρ ρ' : Ren} (hx : Ext ρ ρ') {p : Pl} {o : AObj} {ob : Obj} (h : OR ρ p o ob) : OR ρ' p o ob := by
  cases h with
  | cells hz he hl hc hf hd => exact .cells hz he hl (fun i v e => let ⟨v', a, b⟩ := hc i v e; ⟨v', a, b.mono hx⟩) hf hd
  | ro hz hl hc => exact .ro hz hl (fun i v e => let ⟨v', a, b⟩ := hc i v e; ⟨v', a, b.mono hx⟩)
  | map clock h => exact .map clock (h.mono hx)
  | iterNil since st hd hs => exact .iterNil since st hd hs
  | iter hm since st hd hs => exact .iter (hx _ _ hm) since st hd hs
  | strIter s pos hd => exact .strIter s pos hd
  | loop h => exact .loop ⟨h.tmps.mono hx, h.params, h.assign, h.body, h.state, h.pend⟩
structure Rel [Sy] (ρ : Ren) (H : AH) (w : World) : Prop where
  obj : ∀ b p o, ρ b = some p → H.get b = some o → ∃ ob, w.heap[p.c]? = some ob ∧ OR ρ p o ob
  inj : ∀ b b' p p' o o', ρ b = some p → ρ b' = some p' → H.get b = some o → H.get b' = some o' → o.wr = true → p.c = p'.c → b = b'
  fresh : ∀ b, H.next ≤ b → H.get b = none
def Vac (ρ : Ren) (H : AH) (c : Nat) : Prop := ∀ b p o, ρ b = some p → H.get b = some o → p.c ≠ c
def Idle (ρ : Ren) (H : AH) (c : Nat) : Prop := ∀ b p o, ρ b = some p → H.get b = some o → o.wr = true → p.c ≠ c
structure Post [Sy] (ρ : Ren) (H : AH) (w : World) (ρ' : Ren) (H' : AH) (w' : World) : Prop where
  ext : Ext ρ ρ'
  dom : ∀ b p, ρ b = none → ρ' b = some p → H.next ≤ b ∧ b < H'.next
  next : H.next ≤ H'.next
  kept : ∀ b, b < H.next → ρ b = none → H'.get b = H.get b
  os : w'.os = w.os
  tape : w'.tape = w.tape
  output : w'.output = w.output
  size : w.heap.size ≤ w'.heap.size
  frame : ∀ c, c < w.heap.size → Idle ρ H c → w'.heap[c]? = w.heap[c]?
  img : ∀ b p o, ρ' b = some p → H'.get b = some o → p.c < w.heap.size → ∃ b0 p0 o0, ρ b0 = some p0 ∧ H.get b0 = some o0 ∧ (o.wr = true → o0.wr = true) ∧ p0.c = p.c
  rel : Rel ρ' H' w'
theorem Post.refl [Sy] {ρ : Ren} {H : AH} {w : World} (h : Rel ρ H w) : Post ρ H w ρ H w :=
  { ext := Ext.refl ρ, dom := fun b p a e => (by rw [a] at e; cases e), next := Nat.le_refl _, kept := fun _ _ _ => rfl, os := rfl, tape := rfl, output := rfl
    size := Nat.le_refl _, frame := fun _ _ _ => rfl, img := fun b p o a e _ => ⟨b, p, o, a, e, id, rfl⟩, rel := h }
theorem Rel.draws [Sy] {ρ : Ren} {H : AH} {w : World} (h : Rel ρ H w) (n : Nat) : Rel ρ H { w with drawn := n } := ⟨h.obj, h.inj, h.fresh⟩
theorem Post.draws [Sy] {ρ ρ' : Ren} {H H' : AH} {w w' : World} (h : Post ρ H w ρ' H' w') (n : Nat) : Post ρ H w ρ' H' { w' with drawn := n } :=
  { h with rel := h.rel.draws n }
theorem Post.drawn [Sy] {ρ ρ' : Ren} {H H' : AH} {w w' : World} {n : Nat} (h : Post ρ H { w with drawn := n } ρ' H' w') : Post ρ H w ρ' H' w' :=
  { ext := h.ext, dom := h.dom, next := h.next, kept := h.kept, os := h.os, tape := h.tape, output := h.output, size := h.size, frame := h.frame, img := h.img, rel := h.rel }
theorem Vac.idle {ρ : Ren} {H : AH} {c : Nat} (h : Vac ρ H c) : Idle ρ H c := fun b p o a e _ => h b p o a e
theorem Post.idle [Sy] {ρ ρ' : Ren} {H H' : AH} {w w' : World} (h : Post ρ H w ρ' H' w') {c : Nat} (hc : c < w.heap.size) (hi : Idle ρ H c) : Idle ρ' H' c := by
  intro b p o hb ho hw e
  obtain ⟨b0, p0, o0, h0, h1, hw0, h2⟩ := h.img b p o hb ho (by omega)
  exact hi b0 p0 o0 h0 h1 (hw0 hw) (by omega)
theorem Post.vac [Sy] {ρ ρ' : Ren} {H H' : AH} {w w' : World} (h : Post ρ H w ρ' H' w') {c : Nat} (hc : c < w.heap.size) (hi : Vac ρ H c) : Vac ρ' H' c := by
  intro b p o hb ho e
  obtain ⟨b0, p0, o0, h0, h1, _, h2⟩ := h.img b p o hb ho (by omega)
  exact hi b0 p0 o0 h0 h1 (by omega)
theorem Post.trans [Sy] {ρ ρ1 ρ2 : Ren} {H H1 H2 : AH} {w w1 w2 : World} (h : Post ρ H w ρ1 H1 w1) (k : Post ρ1 H1 w1 ρ2 H2 w2) : Post ρ H w ρ2 H2 w2 where
  ext := h.ext.trans k.ext
  dom := fun b p a e => by
    cases hb : ρ1 b with
    | none => have := k.dom b p hb e; have := h.next; omega
    | some q => have := h.dom b q a hb; have := k.next; omega
  next := Nat.le_trans h.next k.next
  kept := fun b hb a => by
    have hn : ρ1 b = none := by
      cases e : ρ1 b with
      | none => rfl
      | some q => have := h.dom b q a e; omega
    rw [k.kept b (Nat.lt_of_lt_of_le hb h.next) hn, h.kept b hb a]
  os := k.os.trans h.os
  tape := k.tape.trans h.tape
  output := k.output.trans h.output
  size := Nat.le_trans h.size k.size
  frame := fun c hc hi => by
    rw [k.frame c (Nat.lt_of_lt_of_le hc h.size) (h.idle hc hi), h.frame c hc hi]
  img := fun b p o hb ho hc => by
    obtain ⟨b1, p1, o1, h1, h2, hw1, h3⟩ := k.img b p o hb ho (Nat.lt_of_lt_of_le hc h.size)
    obtain ⟨b0, p0, o0, g1, g2, hw0, g3⟩ := h.img b1 p1 o1 h1 h2 (by omega)
    exact ⟨b0, p0, o0, g1, g2, fun e => hw0 (hw1 e), by omega⟩
  rel := k.rel
theorem Post.below [Sy] {ρ ρ' : Ren} {H H' : AH} {w w' : World} (h : Post ρ H w ρ' H' w') {B : Nat} (hB : B ≤ w.heap.size) (hi : ∀ c, c < B → Idle ρ H c) : Below B w w' :=
  ⟨h.os, h.tape, h.output, h.size, fun c hc => h.frame c (by omega) (hi c hc)⟩
def Free (ρ : Ren) (a b : Nat) : Prop := ∀ x, a ≤ x → x < b → ρ x = none
def Ren.add (ρ : Ren) (b : Nat) (p : Pl) : Ren := fun x => if x = b then some p else ρ x
theorem Ren.ext_add {ρ : Ren} {b : Nat} {p : Pl} (h : ρ b = none) : Ext ρ (ρ.add b p) := fun x q e => by
  unfold Ren.add
  by_cases hx : x = b
  · subst hx; rw [h] at e; cases e
  · rw [if_neg hx]; exact e
theorem Ren.add_self (ρ : Ren) (b : Nat) (p : Pl) : ρ.add b p b = some p := by simp [Ren.add]
theorem AH.get_new (H : AH) (o : AObj) (b : Nat) : (H.new o).get b = if b = H.next then some o else H.get b := by
  simp only [AH.get, AH.new, Tr.get_set]
theorem AH.get_set (H : AH) (c : Nat) (o : AObj) (b : Nat) : (H.set c o).get b = if b = c then some o else H.get b := by
  simp only [AH.get, AH.set, Tr.get_set]
theorem AH.get_kill (H : AH) (c : Nat) (b : Nat) : (H.kill c).get b = if b = c then none else H.get b := by
  simp only [AH.get, AH.kill, Tr.get_set]
theorem Post.alloc [Sy] {ρ : Ren} {H : AH} {w : World} (h : Rel ρ H w) (hf : ρ H.next = none) (o : AObj) (ob : Obj) (p : Pl) (hp : p.c = w.heap.size) (n : Nat)
    (ho : OR (ρ.add H.next p) p o ob) : Post ρ H w (ρ.add H.next p) (H.new o) { w with heap := w.heap.push ob, drawn := n } := by
  have hx : Ext ρ (ρ.add H.next p) := Ren.ext_add hf
  refine ⟨hx, ?_, ?_, ?_, rfl, rfl, rfl, by simp, ?_, ?_, ?_⟩
  · intro b q a e
    unfold Ren.add at e
    by_cases hb : b = H.next
    · subst hb; simp [AH.new]
    · rw [if_neg hb, a] at e; cases e
  · simp [AH.new]
  · intro b hb _; rw [AH.get_new, if_neg (by omega)]
  · intro c hc _; rw [Array.getElem?_push, if_neg (by omega)]
  · intro b q o' hb ho' hc
    unfold Ren.add at hb
    rw [AH.get_new] at ho'
    by_cases e : b = H.next
    · rw [if_pos e] at hb; cases hb; omega
    · rw [if_neg e] at hb ho'; exact ⟨b, q, o', hb, ho', id, rfl⟩
  · refine ⟨?_, ?_, ?_⟩
    · intro b q o' hb ho'
      unfold Ren.add at hb
      rw [AH.get_new] at ho'
      by_cases e : b = H.next
      · rw [if_pos e] at hb ho'; cases hb; cases ho'
        exact ⟨ob, by simp [hp], ho⟩
      · rw [if_neg e] at hb ho'
        obtain ⟨ob', g1, g2⟩ := h.obj b q o' hb ho'
        have hlt := (Array.getElem?_eq_some_iff.1 g1).1
        exact ⟨ob', by simp only; rw [Array.getElem?_push, if_neg (by omega)]; exact g1, g2.mono hx⟩
    · intro b b' q q' o1 o2 hb hb' h1 h2 hw hc
      unfold Ren.add at hb hb'
      rw [AH.get_new] at h1 h2
      by_cases e : b = H.next
      · by_cases e' : b' = H.next
        · omega
        · rw [if_pos e] at hb; rw [if_neg e'] at hb' h2; cases hb
          obtain ⟨ob', g1, _⟩ := h.obj b' q' o2 hb' h2
          have hlt := (Array.getElem?_eq_some_iff.1 g1).1
          omega
      · by_cases e' : b' = H.next
        · rw [if_pos e'] at hb'; rw [if_neg e] at hb h1; cases hb'
          obtain ⟨ob', g1, _⟩ := h.obj b q o1 hb h1
          have hlt := (Array.getElem?_eq_some_iff.1 g1).1
          omega
        · rw [if_neg e] at hb h1; rw [if_neg e'] at hb' h2
          exact h.inj b b' q q' o1 o2 hb hb' h1 h2 hw hc
    · intro b hb
      rw [AH.get_new, if_neg (by simp [AH.new] at hb; omega)]
      exact h.fresh b (by simp [AH.new] at hb; omega)
theorem Post.set [Sy] {ρ : Ren} {H : AH} {w w' : World} (h : Rel ρ H w) {b : Nat} {p : Pl} {o0 o : AObj} {ob : Obj} (hb : ρ b = some p) (h0 : H.get b = some o0) (hw0 : o0.wr = true)
    (ho : OR ρ p o ob) (hos : w'.os = w.os) (htape : w'.tape = w.tape) (hout : w'.output = w.output) (hsize : w'.heap.size = w.heap.size)
    (hself : w'.heap[p.c]? = some ob) (hother : ∀ c, c ≠ p.c → w'.heap[c]? = w.heap[c]?) : Post ρ H w ρ (H.set b o) w' := by
  refine ⟨Ext.refl _, (fun b' q a e => by rw [a] at e; cases e), Nat.le_refl _, ?_, hos, htape, hout, by omega, ?_, ?_, ?_⟩
  · intro b' _ hn
    rw [AH.get_set, if_neg]
    intro e; subst e; rw [hb] at hn; cases hn
  · intro c _ hi
    exact hother c fun e => hi b p o0 hb h0 hw0 e.symm
  · intro b' q o' h1 h2 _
    rw [AH.get_set] at h2
    by_cases e : b' = b
    · subst e; rw [hb] at h1; cases h1; exact ⟨b', p, o0, hb, h0, fun _ => hw0, rfl⟩
    · rw [if_neg e] at h2; exact ⟨b', q, o', h1, h2, id, rfl⟩
  · refine ⟨?_, ?_, ?_⟩
    · intro b' q o' h1 h2
      rw [AH.get_set] at h2
      by_cases e : b' = b
      · subst e; rw [if_pos rfl] at h2; cases h2; rw [hb] at h1; cases h1
        exact ⟨ob, hself, ho⟩
      · rw [if_neg e] at h2
        obtain ⟨ob', g1, g2⟩ := h.obj b' q o' h1 h2
        refine ⟨ob', ?_, g2⟩
        rw [hother q.c fun e' => e (h.inj b b' p q o0 o' hb h1 h0 h2 hw0 e'.symm).symm, g1]
    · intro b1 b2 q1 q2 x1 x2 e1 e2 g1 g2 hw1 hc
      rw [AH.get_set] at g1 g2
      have f1 : ∃ y, H.get b1 = some y ∧ y.wr = true := by
        by_cases e : b1 = b
        · exact ⟨o0, e ▸ h0, hw0⟩
        · rw [if_neg e] at g1; exact ⟨x1, g1, hw1⟩
      have f2 : ∃ y, H.get b2 = some y := by
        by_cases e : b2 = b
        · exact ⟨o0, e ▸ h0⟩
        · rw [if_neg e] at g2; exact ⟨x2, g2⟩
      obtain ⟨y1, f1, hy1⟩ := f1
      obtain ⟨y2, f2⟩ := f2
      exact h.inj b1 b2 q1 q2 y1 y2 e1 e2 f1 f2 hy1 hc
    · intro b' hb'
      have hb'' : H.next ≤ b' := hb'
      rw [AH.get_set, if_neg]
      · exact h.fresh b' hb''
      · intro e; subst e; rw [h.fresh b' hb''] at h0; cases h0
end Go.Ev
