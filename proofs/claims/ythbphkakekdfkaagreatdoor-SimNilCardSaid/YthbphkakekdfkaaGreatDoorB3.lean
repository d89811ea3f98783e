/- What comes in, laid as cells that are read alone. A law on laid arguments. Calls that are known: several; the library's sort of whole numbers. Arrays that come in. A map's keys, sorted: a call that is known. How many jobs are open, of a master that has none: a call that is known. Partitions given to one worker (plan.Assign): a call that is known. Long runs in pieces: what a call comes to on a heap that was printed, wherever a heap holds that one. What comes in, of a bulk that is bounded: laid as cells that are read alone. -/
import Derived.Test.YthbphkakekdfkaaGreatDoorB2
import Derived.Test.YthbphkakekdfkaaGreatDoorEv32
import Derived.SizedLaws
namespace Go.Ev
open Go Go.RowKit
section
variable {Hh : Type} {P : Program} {W : World}
end
section
variable {Hh : Type} {P : Program} {W : World} [Sy]
structure St (ρ : Ren) (H : AH) (W : World) : Prop where
  rel : Rel ρ H W
  ro : ∀ b o, H.get b = some o → o.wr = false
  dom : ∀ b p, ρ b = some p → b < H.next
variable {enc : TypeId × Value → Hh} {t : TypeId}
theorem Grow.st {ρ : Ren} {H : AH} (hs : St ρ H W) : Grow H H := .refl hs.rel.fresh
theorem St.row {ρ : Ren} {H : AH} (hs : St ρ H W) {cs cs' : List Value} {c d : Nat} {arr : Array Value} {ty : TypeId} {fz : Nat × Nat} (hh : W.heap[c]? = some (.cells arr ty fz)) (hv : VRs ρ cs' cs)
    (hc : ∀ j v, cs[j]? = some v → arr[d + j]? = some v) (hp : 0 < cs.length) :
    St (ρ.add H.next ⟨c, d, 0, arr.size⟩) (H.new (.ro cs')) W ∧ Ext ρ (ρ.add H.next ⟨c, d, 0, arr.size⟩) ∧ Grow H (H.new (.ro cs')) := by
  have hnone : ρ H.next = none := by
    cases e : ρ H.next with
    | none => rfl
    | some p => have := hs.dom _ _ e; omega
  have hx := Ren.ext_add (p := ⟨c, d, 0, arr.size⟩) hnone
  have hlen := hv.length
  have hro : ∀ b o, (H.new (.ro cs')).get b = some o → o.wr = false := by
    intro b o e
    rw [AH.get_new] at e
    split at e
    · cases e; rfl
    · exact hs.ro b o e
  refine ⟨⟨⟨?_, ?_, ?_⟩, hro, ?_⟩, hx, Grow.new hs.rel.fresh _⟩
  · intro b p o hb ho
    unfold Ren.add at hb
    rw [AH.get_new] at ho
    by_cases e : b = H.next
    · rw [if_pos e] at hb ho; cases hb; cases ho
      refine ⟨_, hh, .ro rfl ?_ ?_⟩
      · have hl : (cs[cs.length - 1]? : Option Value) = some (cs[cs.length - 1]'(by omega)) := List.getElem?_eq_getElem _
        have := (Array.getElem?_eq_some_iff.1 (hc _ _ hl)).1
        simp only
        omega
      · intro i v e2
        obtain ⟨v', g1, g2⟩ := hv.get e2
        exact ⟨v', hc i v' g1, g2.mono hx⟩
    · rw [if_neg e] at hb ho
      obtain ⟨ob, g1, g2⟩ := hs.rel.obj b p o hb ho
      exact ⟨ob, g1, g2.mono hx⟩
  · intro b b' p p' o o' _ _ ho _ hw _
    rw [hro b o ho] at hw; cases hw
  · exact (Ok.new hs.rel.fresh _)
  · intro b p e
    unfold Ren.add at e
    simp only [AH.new_next]
    by_cases h : b = H.next
    · omega
    · rw [if_neg h] at e; have := hs.dom b p e; omega
/-! ### Structs: field behind field -/
/-! ### Arguments -/
end
theorem St.empty [Sy] (W : World) : St nowhere AH0 W := ⟨rel0, (fun b o h => by cases h), (fun b p h => by cases h)⟩
end Go.Ev
namespace Go.Ev
open Go Go.RowKit
end Go.Ev
namespace Go.Ev
open Go Go.RowKit
abbrev Known := List Value → AH → Option (Value × AH)
def sums : List (FuncId × Known) → Tr Known
  | [] => .leaf
  | (f, g) :: l => (sums l).set f (some g)
theorem sums_get {f : FuncId} {g : Known} : ∀ {l : List (FuncId × Known)}, (sums l).get f = some g → (f, g) ∈ l
  | [], h => by simp [sums, Tr.get] at h
  | (f1, g1) :: l, h => by
    unfold sums at h
    rw [Tr.get_set] at h
    by_cases e : f = f1
    · rw [if_pos e] at h
      obtain rfl := Option.some.inj h
      rw [e]; exact List.mem_cons_self
    · rw [if_neg e] at h
      exact List.mem_cons_of_mem _ (sums_get h)
/-! ### The sort -/
def iv (x : Int) : Value := .int .i64 x
end Go.Ev
namespace Go.Ev
open Go Go.RowKit
section
variable {Hh : Type} {P : Program} {W : World} [Sy] {enc : TypeId × Value → Hh} {t : TypeId}
end
end Go.Ev
namespace Go.Ev
open Go Go.RowKit
open Go.WideElems (Fit rd rg)
def KnownF [Sy] (P : Program) (f : FuncId) (g : Known) : Prop := ∀ args H v H', g args H = some (v, H') → H.next ≤ H'.next ∧ ∀ ρ w args', Rel ρ H w → Free ρ H.next H'.next → VRs ρ args args' →
  Calls P f ⟨args'⟩ w fun e w' => ∃ ρ' v', e = .returned v' ∧ Post ρ H w ρ' H' w' ∧ VR ρ' v v'
theorem sumsF_ok [Sy] {E : Env} {P : Program} {l : List (FuncId × Known)} (hE : E.sum = sums l) (h : ∀ p ∈ l, KnownF P p.1 p.2) : SumOk E P := by
  intro f g e args H v H' e2 ρ w args' hR _ ha hf
  rw [hE] at e
  exact (h _ (sums_get e) args H v H' e2).2 ρ w args' hR hf ha
theorem sumsF_next [Sy] {E : Env} {P : Program} {l : List (FuncId × Known)} (hx : E.ext = .leaf) (hE : E.sum = sums l) (h : ∀ p ∈ l, KnownF P p.1 p.2) : ExtNext E := by
  refine ⟨fun g h e => by rw [hx] at e; simp [Tr.get] at e, fun f g e a H v H' e2 => ?_⟩
  rw [hE] at e
  exact (h _ (sums_get e) a H v H' e2).1
/-! ### Keys that are whole numbers -/
def mkeys : List MapEntry → Option (List Int)
  | [] => some []
  | e :: es => match e.key with
    | .int .i64 x => (mkeys es).map (x :: ·)
    | _ => none
structure Ents (es : List MapEntry) (clock : Nat) (zs : List Int) : Prop where
  keys : mkeys es = some zs
  born : ∀ e ∈ es, e.born < clock
  once : (es.map (·.born)).Nodup
  nodup : zs.Nodup
  wf : ∀ x ∈ zs, I64 x
  room : zs.length * 8 ≤ 140737488355328
theorem ERs.keys [Sy] {ρ : Ren} : ∀ {es es' : List MapEntry}, ERs ρ es es' → ∀ {zs : List Int}, es.map (·.key) = zs.map iv → es'.map (·.key) = zs.map iv ∧ es'.map (·.born) = es.map (·.born)
  | _, _, .nil, zs, h => ⟨h, rfl⟩
  | _, _, .cons h t, [], k => by simp at k
  | _, _, .cons (a := a) (b := b) h t, z :: zs, k => by
    simp only [List.map_cons, List.cons.injEq] at k
    obtain ⟨k1, k2⟩ := t.keys k.2
    have h1 := h.key
    rw [k.1] at h1
    have h2 : b.key = iv z := by
      generalize b.key = v at h1
      cases h1; rfl
    exact ⟨by simp only [List.map_cons, k1, h2], by simp only [List.map_cons, k2, h.born]⟩
end Go.Ev
namespace Go.Ev
open Go Go.RowKit
end Go.Ev
namespace Go.Ev
open Go Go.RowKit
end Go.Ev
namespace Go.Ev
open Go Go.RowKit
def Tr.covB {α : Type} (f : α → α → Bool) : Tr α → Tr α → Bool
  | .leaf, _ => true
  | .node l v r, .leaf => (match v with
    | none => covB f l .leaf && covB f r .leaf
    | some _ => false)
  | .node l v r, .node l' v' r' => (match v with
    | none => covB f l l' && covB f r r'
    | some a => match v' with
      | some b => f a b && (covB f l l' && covB f r r')
      | none => false)
theorem Tr.covB_get {α : Type} {f : α → α → Bool} (hf : ∀ a b, f a b = true → a = b) : ∀ {t s : Tr α}, t.covB f s = true → ∀ i o, t.get i = some o → s.get i = some o
  | .leaf, _, _, i, o, e => by simp [Tr.get] at e
  | .node l v r, .leaf, h, i, o, e => by
    unfold covB at h
    cases v with
    | some a => simp at h
    | none =>
      simp only [Bool.and_eq_true] at h
      have hl := covB_get hf h.1
      have hr := covB_get hf h.2
      cases i with
      | zero => simp [Tr.get] at e
      | succ j =>
        simp only [Tr.get] at e
        cases hb : Nat.beq (j % 2) 0
        · rw [hb] at e; have := hr _ _ e; simp [Tr.get] at this
        · rw [hb] at e; have := hl _ _ e; simp [Tr.get] at this
  | .node l v r, .node l' v' r', h, i, o, e => by
    unfold covB at h
    have key : (v = none ∨ v = v') ∧ l.covB f l' = true ∧ r.covB f r' = true := by
      cases v with
      | none =>
        simp only [Bool.and_eq_true] at h
        exact ⟨.inl rfl, h.1, h.2⟩
      | some a =>
        cases v' with
        | none => simp at h
        | some b =>
          simp only [Bool.and_eq_true] at h
          rw [hf _ _ h.1]
          exact ⟨.inr rfl, h.2.1, h.2.2⟩
    obtain ⟨hv, h1, h2⟩ := key
    have hl := covB_get hf h1
    have hr := covB_get hf h2
    cases i with
    | zero =>
      simp only [Tr.get] at e ⊢
      rcases hv with rfl | rfl
      · cases e
      · exact e
    | succ j =>
      simp only [Tr.get] at e ⊢
      cases hb : Nat.beq (j % 2) 0
      · rw [hb] at e; exact hr _ _ e
      · rw [hb] at e; exact hl _ _ e
def aeqE : List MapEntry → List MapEntry → Bool
  | [], [] => true
  | x :: l, y :: m => veq 20 x.key y.key && veq 20 x.val y.val && Nat.beq x.born y.born && aeqE l m
  | _, _ => false
def aeq : AObj → AObj → Bool
  | .cells a m, .cells b n => Nat.beq m n && veqL (veq 20) a b
  | .ro a, .ro b => veqL (veq 20) a b
  | .map a m, .map b n => Nat.beq m n && aeqE a b
  | _, _ => false
theorem aeqE_eq [Sy] : ∀ {l m : List MapEntry}, aeqE l m = true → l = m
  | [], [], _ => rfl
  | [], _ :: _, h => by simp [aeqE] at h
  | _ :: _, [], h => by simp [aeqE] at h
  | ⟨a, b, c⟩ :: l, ⟨a', b', c'⟩ :: m, h => by
    simp only [aeqE, Bool.and_eq_true] at h
    obtain ⟨⟨⟨h1, h2⟩, h3⟩, h4⟩ := h
    rw [veq_eq 20 h1, veq_eq 20 h2, Nat.eq_of_beq_eq_true h3, aeqE_eq h4]
theorem aeq_eq [Sy] {a b : AObj} (h : aeq a b = true) : a = b := by
  unfold aeq at h
  split at h
  · simp only [Bool.and_eq_true] at h
    rw [Nat.eq_of_beq_eq_true h.1, veqL_eq (fun _ _ => veq_eq 20) h.2]
  · rw [veqL_eq (fun _ _ => veq_eq 20) h]
  · simp only [Bool.and_eq_true] at h
    rw [Nat.eq_of_beq_eq_true h.1, aeqE_eq h.2]
  · cases h
structure Piece where
  args : List Value
  heap : AH
  out : Value
  next : Nat
  upd : List (Nat × Option AObj)
def putAll : List (Nat × Option AObj) → Tr AObj → Tr AObj
  | [], t => t
  | (b, o) :: l, t => putAll l (t.set b o)
def lastU : List (Nat × Option AObj) → Nat → Option (Option AObj)
  | [], _ => none
  | (k, o) :: l, b => match lastU l b with
    | some x => some x
    | none => if b = k then some o else none
theorem putAll_get : ∀ {l : List (Nat × Option AObj)} {t : Tr AObj} {b : Nat}, (putAll l t).get b = match lastU l b with
    | some o => o
    | none => t.get b
  | [], t, b => rfl
  | (k, o) :: l, t, b => by
    unfold putAll lastU
    rw [putAll_get]
    cases lastU l b with
    | some x => rfl
    | none =>
      simp only [Tr.get_set]
      by_cases h : b = k
      · rw [if_pos h, if_pos h]
      · rw [if_neg h, if_neg h]
theorem lastU_mem : ∀ {l : List (Nat × Option AObj)} {b : Nat} {o : Option AObj}, lastU l b = some o → (b, o) ∈ l
  | [], _, _, h => by simp [lastU] at h
  | (k, x) :: l, b, o, h => by
    unfold lastU at h
    cases hl : lastU l b with
    | some y => rw [hl] at h; cases h; exact List.mem_cons_of_mem _ (lastU_mem hl)
    | none =>
      rw [hl] at h
      simp only at h
      by_cases e : b = k
      · rw [if_pos e] at h; cases h; subst e; exact List.mem_cons_self
      · rw [if_neg e] at h; cases h
def Piece.app (q : Piece) (H : AH) : AH := ⟨q.next, putAll q.upd H.t⟩
def runPiece (E : Env) (n : Nat) (f : FuncId) (q : Piece) : Bool := match (evalN E n).call f q.args q.heap with
  | some (v, H') => veq 20 v q.out && (Nat.beq H'.next q.next && (Nat.ble q.heap.next q.next && ((q.app q.heap).t.covB aeq H'.t && (q.upd.all fun p => Nat.ble q.heap.next p.1 || (q.heap.get p.1).isSome) && q.upd.all fun p => p.2.isSome || (H'.get p.1).isNone)))
  | none => false
def pieceW : List Piece → Known
  | [], _, _ => none
  | q :: l, args, H => bif Nat.beq q.heap.next H.next && (veqL (veq 20) q.args args && q.heap.t.covB aeq H.t) then some (q.out, q.app H) else pieceW l args H
theorem pieceW_some [Sy] : ∀ {l : List Piece} {args : List Value} {H : AH} {v : Value} {H' : AH}, pieceW l args H = some (v, H') →
    ∃ q ∈ l, q.heap.next = H.next ∧ q.args = args ∧ (∀ b o, q.heap.get b = some o → H.get b = some o) ∧ v = q.out ∧ H' = q.app H
  | [], _, _, _, _, h => by simp [pieceW] at h
  | q :: l, args, H, v, H', h => by
    unfold pieceW at h
    cases hc : (Nat.beq q.heap.next H.next && (veqL (veq 20) q.args args && q.heap.t.covB aeq H.t)) with
    | true =>
      rw [hc] at h
      cases h
      simp only [Bool.and_eq_true] at hc
      exact ⟨q, List.mem_cons_self, Nat.eq_of_beq_eq_true hc.1, veqL_eq (fun _ _ => veq_eq 20) hc.2.1, fun b o e => Tr.covB_get (fun _ _ => aeq_eq) hc.2.2 b o e, rfl, rfl⟩
    | false =>
      rw [hc] at h
      obtain ⟨q', h1, h2⟩ := pieceW_some h
      exact ⟨q', List.mem_cons_of_mem _ h1, h2⟩
theorem piece_known [Sy] {E : Env} {P : Program} (hE : EnvOk E P) (hX : ExtOk E P) (hN : ExtNext E) (hS : SumOk E P) (hg : E.g = 0) {f : FuncId} {n : Nat} {l : List Piece} (h : ∀ q ∈ l, runPiece E n f q = true) : KnownF P f (pieceW l) := by
  intro args H v H' e
  obtain ⟨q, hq, hnext, rfl, cov, rfl, rfl⟩ := pieceW_some e
  have hr := h q hq
  unfold runPiece at hr
  split at hr
  case h_2 => cases hr
  rename_i v1 Hx hrun
  simp only [Bool.and_eq_true] at hr
  obtain ⟨r1, r2, r3, ⟨r4, r5⟩, r6⟩ := hr
  have r1 := veq_eq 20 r1
  subst r1
  have r2 := Nat.eq_of_beq_eq_true r2
  have r3 := Nat.le_of_ble_eq_true r3
  have A : ∀ b o, (match lastU q.upd b with
    | some o => o
    | none => q.heap.get b) = some o → Hx.get b = some o := fun b o e => Tr.covB_get (fun _ _ => aeq_eq) r4 b o (by
      show (putAll q.upd q.heap.t).get b = some o
      rw [putAll_get]; exact e)
  have AU : ∀ b o, lastU q.upd b = some (some o) → Hx.get b = some o := fun b o e => A b o (by rw [e])
  have AN : ∀ b o, lastU q.upd b = none → q.heap.get b = some o → Hx.get b = some o := fun b o e1 e2 => A b o (by rw [e1]; exact e2)
  have dom : ∀ b o, lastU q.upd b = some o → q.heap.next ≤ b ∨ ∃ o1, q.heap.get b = some o1 := by
    intro b o e
    have := List.all_eq_true.1 r5 _ (lastU_mem e)
    simp only [Bool.or_eq_true] at this
    rcases this with h1 | h1
    · exact .inl (Nat.le_of_ble_eq_true h1)
    · exact .inr (Option.isSome_iff_exists.1 h1)
  have AK : ∀ b, lastU q.upd b = some none → Hx.get b = none := by
    intro b e
    have := List.all_eq_true.1 r6 _ (lastU_mem e)
    simp only [Option.isSome_none, Bool.false_or] at this
    exact Option.isNone_iff_eq_none.1 this
  have got : ∀ b, (q.app H).get b = match lastU q.upd b with
    | some o => o
    | none => H.get b := fun b => by
      show (putAll q.upd H.t).get b = _
      rw [putAll_get]; rfl
  refine ⟨by rw [← hnext]; exact r3, fun ρ w args' hR hfree ha => ?_⟩
  have relP : Rel ρ q.heap w := by
    refine ⟨fun b p o h1 h2 => hR.obj b p o h1 (cov b o h2), fun b b' p p' o o' h1 h2 h3 h4 => hR.inj b b' p p' o o' h1 h2 (cov b o h3) (cov b' o' h4), fun b hb => ?_⟩
    cases hq2 : q.heap.get b with
    | none => rfl
    | some o => have := cov b o hq2; rw [hR.fresh b (by omega)] at this; cases this
  have hfree' : Free ρ q.heap.next Hx.next := by rw [hnext, r2]; exact hfree
  have run := ((evalN_sound hE hX hN hS n).1).call f q.args q.heap q.out Hx hrun ρ w args' relP (fun k hk => by rw [hg] at hk; exact absurd hk (Nat.not_lt_zero k)) ha hfree'
  refine Calls.mono' run ?_
  rintro e' w' ⟨ρ', v', rfl, hp, hv⟩
  refine ⟨ρ', v', rfl, ?_, hv⟩
  have lowN : ∀ b o, H.get b = some o → b < H.next := fun b o e => by
    refine Nat.lt_of_not_le fun hb => ?_
    rw [hR.fresh b hb] at e; cases e
  -- a block of which the piece knows nothing
  have named : ∀ b p, b < H.next → ρ' b = some p → ρ b = some p := by
    intro b p hb e
    cases h0 : ρ b with
    | none => have := (hp.dom b p h0 e).1; omega
    | some p0 => have := hp.ext b p0 h0; rw [e] at this; cases this; rfl
  have idle : ∀ b p o, ρ b = some p → H.get b = some o → q.heap.get b = none → Idle ρ q.heap p.c := by
    intro b p o h1 h2 h3 b1 p1 o1 k1 k2 k3 hc
    have := hR.inj b1 b p1 p o1 o k1 h1 (cov b1 o1 k2) h2 k3 hc
    subst this
    rw [h3] at k2; cases k2
  -- where a block's contents come from
  have src : ∀ b o, (q.app H).get b = some o → Hx.get b = some o ∨ (H.get b = some o ∧ q.heap.get b = none ∧ lastU q.upd b = none) := by
    intro b o e
    rw [got] at e
    cases hu : lastU q.upd b with
    | some x => rw [hu] at e; simp only at e; rw [e] at hu; exact .inl (AU b _ hu)
    | none =>
      rw [hu] at e
      simp only at e
      cases hq2 : q.heap.get b with
      | some x => have := cov b x hq2; rw [e] at this; cases this; exact .inl (AN b o hu hq2)
      | none => exact .inr ⟨e, rfl, rfl⟩
  refine { ext := hp.ext, dom := fun b p h1 h2 => ?_, next := ?_, kept := fun b h1 h2 => ?_, os := hp.os, tape := hp.tape, output := hp.output, size := hp.size, frame := fun c hc hi => ?_, img := fun b p o h1 h2 h3 => ?_, rel := ⟨fun b p o h1 h2 => ?_, fun b b' p p' o o' h1 h2 h3 h4 h5 h6 => ?_, fun b hb => ?_⟩ }
  · have := hp.dom b p h1 h2
    rw [← hnext]; exact ⟨this.1, by rw [r2] at this; exact this.2⟩
  · rw [← hnext]; exact r3
  · rw [got]
    cases hu : lastU q.upd b with
    | none => rfl
    | some x =>
      rcases dom b x hu with k | ⟨o1, k⟩
      · omega
      · have e2 := hp.kept b (by omega) h2
        rw [k] at e2
        cases x with
        | none => rw [AK b hu] at e2; cases e2
        | some x =>
          rw [AU b x hu] at e2
          cases e2
          exact (cov b _ k).symm
  · exact hp.frame c hc fun b p o k1 k2 => hi b p o k1 (cov b o k2)
  · rcases src b o h2 with k | ⟨k1, k2, k3⟩
    · obtain ⟨b0, p0, o0, i1, i2, i3, i4⟩ := hp.img b p o h1 k h3
      exact ⟨b0, p0, o0, i1, cov b0 o0 i2, i3, i4⟩
    · exact ⟨b, p, o, named b p (lowN b o k1) h1, k1, id, rfl⟩
  · rcases src b o h2 with k | ⟨k1, k2, k3⟩
    · exact hp.rel.obj b p o h1 k
    · have hn := named b p (lowN b o k1) h1
      obtain ⟨ob, g1, g2⟩ := hR.obj b p o hn k1
      refine ⟨ob, ?_, g2.mono hp.ext⟩
      rw [hp.frame p.c (Array.getElem?_eq_some_iff.1 g1).1 (idle b p o hn k1 k2)]
      exact g1
  · rcases src b o h3 with k | ⟨k1, k2, k3⟩
    · rcases src b' o' h4 with k' | ⟨k1', k2', k3'⟩
      · exact hp.rel.inj b b' p p' o o' h1 h2 k k' h5 h6
      · exfalso
        have hn := named b' p' (lowN b' o' k1') h2
        obtain ⟨ob, g1, _⟩ := hR.obj b' p' o' hn k1'
        have hlt := (Array.getElem?_eq_some_iff.1 g1).1
        obtain ⟨b0, p0, o0, i1, i2, i3, i4⟩ := hp.img b p o h1 k (by rw [h6]; exact hlt)
        have := hR.inj b0 b' p0 p' o0 o' i1 hn (cov b0 o0 i2) k1' (i3 h5) (by rw [i4, h6])
        subst this
        rw [k2'] at i2; cases i2
    · have hn := named b p (lowN b o k1) h1
      obtain ⟨ob, g1, _⟩ := hR.obj b p o hn k1
      have hlt := (Array.getElem?_eq_some_iff.1 g1).1
      rcases src b' o' h4 with k' | ⟨k1', k2', k3'⟩
      · exfalso
        obtain ⟨b0, p0, o0, i1, i2, i3, i4⟩ := hp.img b' p' o' h2 k' (by rw [← h6]; exact hlt)
        have := hR.inj b b0 p p0 o o0 hn i1 k1 (cov b0 o0 i2) h5 (by rw [i4, h6])
        subst this
        rw [k2] at i2; cases i2
      · exact hR.inj b b' p p' o o' hn (named b' p' (lowN b' o' k1') h2) k1 k1' h5 h6
  · have hb : q.next ≤ b := hb
    rw [got]
    cases hu : lastU q.upd b with
    | some x => cases x with
      | none => rfl
      | some x => have := AU b x hu; rw [hp.rel.fresh b (by rw [r2]; exact hb)] at this; cases this
    | none => exact hR.fresh b (by omega)
end Go.Ev
namespace Go.Ev
open Go Go.RowKit
/-! ### The bulk of what comes in -/
mutual
def bk {Hh : Type} : DataW Hh → Nat
  | .lit (.string bytes) => bytes.length + 1
  | .lit _ => 1
  | .nil => 1
  | .ptr d => bk d + 1
  | .slice elems spare => bkAll elems + bkAll spare + 1
  | .agg parts => bkAll parts + 1
  | .iface _ d => bk d + 1
  | .map entries => bkEs entries + 1
  | .held _ => 1
def bkAll {Hh : Type} : List (DataW Hh) → Nat
  | [] => 0
  | d :: r => bk d + bkAll r
def bkEs {Hh : Type} : List (Lit × DataW Hh) → Nat
  | [] => 0
  | x :: r => bkE x + bkEs r
def bkE {Hh : Type} : Lit × DataW Hh → Nat
  | (.string bytes, d) => bytes.length + bk d + 1
  | (_, d) => bk d + 1
end
section
variable {Hh : Type} {P : Program} {W : World} [Sy] {M : Nat}
variable {enc : TypeId × Value → Hh} {t : TypeId}
/-! ### Structs: field behind field -/
/-! ### Arguments -/
end
end Go.Ev
