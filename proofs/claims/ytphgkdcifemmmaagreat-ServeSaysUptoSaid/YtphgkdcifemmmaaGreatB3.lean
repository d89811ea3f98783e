/- What comes in, laid as cells that are read alone. A law on laid arguments. Calls that are known: several; the library's sort of whole numbers. Arrays that come in. A map's keys, sorted: a call that is known. How many jobs are open, of a master that has none: a call that is known. Partitions given to one worker (plan.Assign): a call that is known. Long runs in pieces: what a call comes to on a heap that was printed, wherever a heap holds that one. What comes in, of a bulk that is bounded: laid as cells that are read alone. -/
import Derived.Test.YtphgkdcifemmmaaGreatB2
import Derived.Test.YtphgkdcifemmmaaGreatEv32
import Derived.SizedLaws
import Derived.Shelf.Sort.Plain
import Derived.Maps.Range
import Derived.Lib.SlKeysI
namespace Go.Ev
open Go Go.RowKit
section
variable {Hh : Type} {P : Program} {W : World}
def Stable {α : Type} (R : AH → List Value → α → Prop) : Prop := ∀ H H' cs x, Grow H H' → R H cs x → R H' cs x
def RInt (k : IntKind) (_ : AH) (cs : List Value) (x : Int) : Prop := cs = [.int k x] ∧ (Lit.int k x).wf = true
def RBool (_ : AH) (cs : List Value) (x : Bool) : Prop := cs = [.bool x]
theorem cells?_some {base n : Nat} {a : Addr} {l : List Value} (h : W.cells? base a n = some l) : l.length = n ∧ ∀ j v, l[j]? = some v → W.cell? (a.add j) = some v := by
  unfold World.cells? at h
  split at h
  · have gen : ∀ (is : List Nat) (l : List Value), is.mapM (fun i => W.cell? (a.add i)) = some l → l.length = is.length ∧ ∀ (j : Nat) (v : Value) (i : Nat), l[j]? = some v → is[j]? = some i → W.cell? (a.add i) = some v := by
      intro is
      induction is with
      | nil => intro l h; simp at h; subst h; exact ⟨rfl, by simp⟩
      | cons i is ih =>
        intro l h
        rw [List.mapM_cons] at h
        cases h1 : W.cell? (a.add i) with
        | none => rw [h1] at h; simp at h
        | some v =>
          rw [h1] at h
          simp only [Option.bind_eq_bind, Option.bind_some] at h
          cases h2 : is.mapM (fun i => W.cell? (a.add i)) with
          | none => rw [h2] at h; simp at h
          | some l' =>
            rw [h2] at h
            simp at h
            subst h
            obtain ⟨k1, k2⟩ := ih l' h2
            refine ⟨by simp [k1], fun j v i' hj hi => ?_⟩
            cases j with
            | zero => simp at hj hi; subst hj hi; exact h1
            | succ j => exact k2 j v i' (by simpa using hj) (by simpa using hi)
    obtain ⟨k1, k2⟩ := gen _ l h
    rw [List.length_range] at k1
    refine ⟨k1, fun j v hj => k2 j v j hj ?_⟩
    have := (List.getElem?_eq_some_iff.1 hj).1
    exact List.getElem?_range (by omega)
  · cases h
def PCs {α : Type} (R : AH → List Value → α → Prop) (H : AH) (b o : Nat) (x : α) : Prop := ∃ cs, (∀ j v, cs[j]? = some v → H.cell b (o + j) = some v) ∧ R H cs x
theorem mapM_range_some {β : Type} {f : Nat → Option β} : ∀ {n : Nat} {l : List β}, (List.range n).mapM f = some l → l.length = n ∧ ∀ i (h : i < l.length), f i = some l[i] := by
  have gen : ∀ (is : List Nat) (l : List β), is.mapM f = some l → l.length = is.length ∧ ∀ j (h : j < l.length) i, is[j]? = some i → f i = some l[j] := by
    intro is
    induction is with
    | nil => intro l h; simp at h; subst h; exact ⟨rfl, fun j h => by simp at h⟩
    | cons i is ih =>
      intro l h
      rw [List.mapM_cons] at h
      cases h1 : f i with
      | none => rw [h1] at h; simp at h
      | some v =>
        rw [h1] at h
        simp only [Option.bind_eq_bind, Option.bind_some] at h
        cases h2 : is.mapM f with
        | none => rw [h2] at h; simp at h
        | some l' =>
          rw [h2] at h
          simp at h
          subst h
          obtain ⟨k1, k2⟩ := ih l' h2
          refine ⟨by simp [k1], fun j hj i' hi => ?_⟩
          cases j with
          | zero => simp at hi; subst hi; exact h1
          | succ j => exact k2 j (by simpa using hj) i' (by simpa using hi)
  intro n l h
  obtain ⟨k1, k2⟩ := gen _ l h
  rw [List.length_range] at k1
  exact ⟨k1, fun i hi => k2 i hi i (List.getElem?_range (by omega))⟩
def RNil (_ : AH) (cs : List Value) (_ : Unit) : Prop := cs = []
def RCons {α β : Type} (R1 : AH → List Value → α → Prop) (R2 : AH → List Value → β → Prop) (H : AH) (cs : List Value) (x : α × β) : Prop := ∃ c1 c2, cs = c1 ++ c2 ∧ R1 H c1 x.1 ∧ R2 H c2 x.2
theorem stable_int {k : IntKind} : Stable (RInt k) := fun _ _ _ _ _ h => h
theorem stable_bool : Stable RBool := fun _ _ _ _ _ h => h
theorem stable_nil : Stable RNil := fun _ _ _ _ _ h => h
theorem stable_cons {α β : Type} {R1 : AH → List Value → α → Prop} {R2 : AH → List Value → β → Prop} (h1 : Stable R1) (h2 : Stable R2) : Stable (RCons R1 R2) :=
  fun _ _ _ _ g ⟨c1, c2, e, a, b⟩ => ⟨c1, c2, e, h1 _ _ _ _ g a, h2 _ _ _ _ g b⟩
theorem loc_pcs {α : Type} {R : AH → List Value → α → Prop} (hR : Stable R) {H H' : AH} {b o : Nat} {x : α} (g : Grow H H') (h : PCs R H b o x) : PCs R H' b o x :=
  let ⟨cs, k1, k2⟩ := h; ⟨cs, fun j v e => g.cell id (k1 j v e), hR _ _ _ _ g k2⟩
def ROne {α : Type} (R : AH → List Value → α → Prop) (H : AH) (vs : List Value) (x : α) : Prop := R H vs x
def RAgg {α : Type} (R : AH → List Value → α → Prop) (H : AH) (vs : List Value) (x : α) : Prop := ∃ cs, vs = [.agg ⟨cs⟩] ∧ R H cs x
def structB (P : Program) (t : TypeId) : Bool := match P.underlying t with
  | some (.struct _) => true
  | _ => false
theorem mapM_fields {β : Type} (g : TypeId → Nat → Option β) : ∀ (fs : List Field), fs.mapM (fun f => g f.type f.offset) = (fs.map fun f => (f.type, f.offset)).mapM fun d => g d.1 d.2
  | [] => rfl
  | f :: fs => by rw [List.mapM_cons, List.map_cons, List.mapM_cons, mapM_fields g fs]
def fieldsB (P : Program) (t : TypeId) (ds : List (TypeId × Nat)) : Bool := match P.underlying t with
  | some (.struct fs) => fs.toList.map (fun f => (f.type, f.offset)) == ds
  | _ => false
end
section
variable {Hh : Type} {P : Program} {W : World} [Sy]
structure St (ρ : Ren) (H : AH) (W : World) : Prop where
  rel : Rel ρ H W
  ro : ∀ b o, H.get b = some o → o.wr = false
  dom : ∀ b p, ρ b = some p → b < H.next
variable {enc : TypeId × Value → Hh} {t : TypeId}
theorem Grow.st {ρ : Ren} {H : AH} (hs : St ρ H W) : Grow H H := .refl hs.rel.fresh
theorem St.row {ρ : Ren} {H : AH} (hs : St ρ H W) {cs cs' : List Value} {c d : Nat} {arr : Array Value} {ty : TypeId} {fz : Nat × Nat} (hh : W.heap[c]? = some (.cells arr ty fz)) (hv : VRs ρ cs' cs)
    (hc : ∀ j v, cs[j]? = some v → arr[d + j]? = some v) (hp : 0 < cs.length) :
    St (ρ.add H.next ⟨c, d, 0, arr.size⟩) (H.new (.ro cs')) W ∧ Ext ρ (ρ.add H.next ⟨c, d, 0, arr.size⟩) ∧ Grow H (H.new (.ro cs')) := by
  have hnone : ρ H.next = none := by
    cases e : ρ H.next with
    | none => rfl
    | some p => have := hs.dom _ _ e; omega
  have hx := Ren.ext_add (p := ⟨c, d, 0, arr.size⟩) hnone
  have hlen := hv.length
  have hro : ∀ b o, (H.new (.ro cs')).get b = some o → o.wr = false := by
    intro b o e
    rw [AH.get_new] at e
    split at e
    · cases e; rfl
    · exact hs.ro b o e
  refine ⟨⟨⟨?_, ?_, ?_⟩, hro, ?_⟩, hx, Grow.new hs.rel.fresh _⟩
  · intro b p o hb ho
    unfold Ren.add at hb
    rw [AH.get_new] at ho
    by_cases e : b = H.next
    · rw [if_pos e] at hb ho; cases hb; cases ho
      refine ⟨_, hh, .ro rfl ?_ ?_⟩
      · have hl : (cs[cs.length - 1]? : Option Value) = some (cs[cs.length - 1]'(by omega)) := List.getElem?_eq_getElem _
        have := (Array.getElem?_eq_some_iff.1 (hc _ _ hl)).1
        simp only
        omega
      · intro i v e2
        obtain ⟨v', g1, g2⟩ := hv.get e2
        exact ⟨v', hc i v' g1, g2.mono hx⟩
    · rw [if_neg e] at hb ho
      obtain ⟨ob, g1, g2⟩ := hs.rel.obj b p o hb ho
      exact ⟨ob, g1, g2.mono hx⟩
  · intro b b' p p' o o' _ _ ho _ hw _
    rw [hro b o ho] at hw; cases hw
  · exact (Ok.new hs.rel.fresh _)
  · intro b p e
    unfold Ren.add at e
    simp only [AH.new_next]
    by_cases h : b = H.next
    · omega
    · rw [if_neg h] at e; have := hs.dom b p e; omega
/-! ### Structs: field behind field -/
/-! ### Arguments -/
end
theorem St.empty [Sy] (W : World) : St nowhere AH0 W := ⟨rel0, (fun b o h => by cases h), (fun b p h => by cases h)⟩
theorem calls_laid [Sy] {E : Env} {P : Program} (hE : EnvOk E P) (hX : ExtOk E P) (hN : ExtNext E) (hS : SumOk E P) (hg : E.g = 0) {ρ : Ren} {H : AH} {W : World} (hs : St ρ H W) {f : FuncId} {vs vs' : List Value} (hv : VRs ρ vs' vs)
    (h : FW E f vs' H fun r _ => r = .bool true) : Calls P f ⟨vs⟩ W fun e W' => e = .returned (.bool true) ∧ Below W.heap.size W W' := by
  obtain ⟨n, v, H', h1, rfl⟩ := h.run
  have hfree : Free ρ H.next H'.next := by
    intro x h1 _
    cases e : ρ x with
    | none => rfl
    | some p => have := hs.dom x p e; omega
  refine Calls.mono' ((evalN_sound hE hX hN hS n).1.call f vs' H _ H' h1 ρ W vs hs.rel (fun k hk => by rw [hg] at hk; omega) hv hfree) ?_
  rintro e w' ⟨ρ', v', rfl, hp, hv'⟩
  cases hv'
  refine ⟨rfl, hp.below (Nat.le_refl _) fun c _ b p o _ ho hw => ?_⟩
  rw [hs.ro b o ho] at hw; cases hw
end Go.Ev
namespace Go.Ev
open Go Go.RowKit
end Go.Ev
namespace Go.Ev
open Go Go.RowKit
/-! ### The sort -/
def iv (x : Int) : Value := .int .i64 x
end Go.Ev
namespace Go.Ev
open Go Go.RowKit
theorem mapM_map {α β γ : Type} (g : α → β) (f : β → Option γ) : ∀ (l : List α), l.mapM (fun x => f (g x)) = (l.map g).mapM f
  | [] => rfl
  | a :: l => by rw [List.mapM_cons, List.map_cons, List.mapM_cons, mapM_map g f l]
section
variable {Hh : Type} {P : Program} {W : World} [Sy] {enc : TypeId × Value → Hh} {t : TypeId}
end
end Go.Ev
namespace Go.Ev
open Go Go.RowKit Go.Maps
open Go.WideElems (Fit rd rg)
/-! ### Keys that are whole numbers -/
def mkeys : List MapEntry → Option (List Int)
  | [] => some []
  | e :: es => match e.key with
    | .int .i64 x => (mkeys es).map (x :: ·)
    | _ => none
structure Ents (es : List MapEntry) (clock : Nat) (zs : List Int) : Prop where
  keys : mkeys es = some zs
  born : ∀ e ∈ es, e.born < clock
  once : (es.map (·.born)).Nodup
  nodup : zs.Nodup
  wf : ∀ x ∈ zs, I64 x
  room : zs.length * 8 ≤ 140737488355328
theorem mkeys_len : ∀ {es : List MapEntry} {zs : List Int}, mkeys es = some zs → es.length = zs.length
  | [], zs, h => by simp [mkeys] at h; subst h; rfl
  | e :: es, zs, h => by
    unfold mkeys at h
    split at h
    · cases h1 : mkeys es with
      | none => rw [h1] at h; cases h
      | some ys =>
        rw [h1] at h
        simp only [Option.map_some, Option.some.injEq] at h
        subst h
        simp [mkeys_len h1]
    · cases h
theorem mkeys_at : ∀ {es : List MapEntry} {zs : List Int}, mkeys es = some zs → es.map (·.key) = zs.map iv
  | [], zs, h => by simp [mkeys] at h; subst h; rfl
  | e :: es, zs, h => by
    unfold mkeys at h
    split at h
    · rename_i x hk
      cases h1 : mkeys es with
      | none => rw [h1] at h; cases h
      | some ys =>
        rw [h1] at h
        simp only [Option.map_some, Option.some.injEq] at h
        subst h
        simp only [List.map_cons, mkeys_at h1, hk]; rfl
    · cases h
theorem mkeys_mk : ∀ {es : List MapEntry} {zs : List Int}, es.map (·.key) = zs.map iv → mkeys es = some zs
  | [], [], _ => rfl
  | [], _ :: _, h => by simp at h
  | _ :: _, [], h => by simp at h
  | e :: es, z :: zs, h => by
    simp only [List.map_cons, List.cons.injEq] at h
    unfold mkeys
    rw [h.1]
    simp only [iv, mkeys_mk h.2, Option.map_some]
theorem ERs.keys [Sy] {ρ : Ren} : ∀ {es es' : List MapEntry}, ERs ρ es es' → ∀ {zs : List Int}, es.map (·.key) = zs.map iv → es'.map (·.key) = zs.map iv ∧ es'.map (·.born) = es.map (·.born)
  | _, _, .nil, zs, h => ⟨h, rfl⟩
  | _, _, .cons h t, [], k => by simp at k
  | _, _, .cons (a := a) (b := b) h t, z :: zs, k => by
    simp only [List.map_cons, List.cons.injEq] at k
    obtain ⟨k1, k2⟩ := t.keys k.2
    have h1 := h.key
    rw [k.1] at h1
    have h2 : b.key = iv z := by
      generalize b.key = v at h1
      cases h1; rfl
    exact ⟨by simp only [List.map_cons, k1, h2], by simp only [List.map_cons, k2, h.born]⟩
abbrev RU : Value → Option (DataW Unit × List MemPlace) := fun _ => some (.nil, [])
structure SortedKeys (P : Program) (f g : FuncId) (k T : TypeId) : Prop where
  some_ : ∀ (b nn : Nat) (D0 : DataW Unit) (w : World) (B : Nat), B < w.heap.size → w.cell? ⟨B, 0, none⟩ = some (.map (some b)) → w.ownsMap P k RU b nn D0 → Maps.size D0 ≤ maxLen → Maps.size D0 * 8 ≤ 140737488355328 →
    Calls P f #[.func (.func g) #[] #[.pointer (some ⟨B, 0, none⟩)]] w fun e w' => ∃ (v : Value) (ss : List Int), e = .returned v ∧ ss.Perm (intKeys D0) ∧
      w'.ownsRow w.heap.size T 1 v ss.length ((ss.mergeSort (fun x y => decide (x ≤ y))).map encZ) ∧ (v = .slice none 0 0 ↔ ss = []) ∧ Below w.heap.size w w'
  none_ : ∀ (w : World) (B : Nat), B < w.heap.size → w.cell? ⟨B, 0, none⟩ = some (.map none) →
    Calls P f #[.func (.func g) #[] #[.pointer (some ⟨B, 0, none⟩)]] w fun e w' => e = .returned (.slice none 0 0) ∧ Below w.heap.size w w'
end Go.Ev
namespace Go.Ev
open Go Go.RowKit
end Go.Ev
namespace Go.Ev
open Go Go.RowKit
end Go.Ev
namespace Go.Ev
open Go Go.RowKit
structure Piece where
  args : List Value
  heap : AH
  out : Value
  next : Nat
  upd : List (Nat × Option AObj)
end Go.Ev
namespace Go.Ev
open Go Go.RowKit
/-! ### The bulk of what comes in -/
mutual
def bk {Hh : Type} : DataW Hh → Nat
  | .lit (.string bytes) => bytes.length + 1
  | .lit _ => 1
  | .nil => 1
  | .ptr d => bk d + 1
  | .slice elems spare => bkAll elems + bkAll spare + 1
  | .agg parts => bkAll parts + 1
  | .iface _ d => bk d + 1
  | .map entries => bkEs entries + 1
  | .held _ => 1
def bkAll {Hh : Type} : List (DataW Hh) → Nat
  | [] => 0
  | d :: r => bk d + bkAll r
def bkEs {Hh : Type} : List (Lit × DataW Hh) → Nat
  | [] => 0
  | x :: r => bkE x + bkEs r
def bkE {Hh : Type} : Lit × DataW Hh → Nat
  | (.string bytes, d) => bytes.length + bk d + 1
  | (_, d) => bk d + 1
end
theorem bk_one {Hh : Type} (d : DataW Hh) : 1 ≤ bk d := by
  cases d with
  | lit l => cases l <;> simp [bk]
  | nil => simp [bk]
  | ptr d => simp [bk]
  | slice elems spare => simp [bk]
  | agg parts => simp [bk]
  | iface t d => simp [bk]
  | map entries => simp [bk]
  | held h => simp [bk]
theorem bkAll_mem {Hh : Type} {d : DataW Hh} {l : List (DataW Hh)} (h : d ∈ l) : bk d ≤ bkAll l := by
  induction l with
  | nil => cases h
  | cons x r ih =>
    simp only [bkAll]
    cases List.mem_cons.1 h with
    | inl e => subst e; omega
    | inr e => have := ih e; omega
theorem bkAll_len {Hh : Type} (l : List (DataW Hh)) : l.length ≤ bkAll l := by
  induction l with
  | nil => simp [bkAll]
  | cons x r ih => have := bk_one x; simp only [bkAll, List.length_cons]; omega
def RStrB (M : Nat) (_ : AH) (cs : List Value) (x : List UInt8) : Prop := cs = [.string ⟨⟨x⟩⟩] ∧ x.length ≤ M
def RSlB (M : Nat) {α : Type} (n : Nat) (R : AH → List Value → α → Prop) (H : AH) (cs : List Value) (xs : List α) : Prop :=
  ∃ a l c, cs = [.slice a l c] ∧ Sl (fun _ => True) H n (PCs R) a l xs ∧ xs.length ≤ M
theorem stable_strB {M : Nat} : Stable (RStrB M) := fun _ _ _ _ _ h => h
theorem stable_sliceB {M : Nat} {α : Type} {n : Nat} {R : AH → List Value → α → Prop} (hR : Stable R) : Stable (RSlB M n R) :=
  fun _ _ _ _ g ⟨a, l, c, h1, h2, h3⟩ => ⟨a, l, c, h1, ⟨h2.len, h2.base, fun i hi => loc_pcs hR g (h2.cells i hi)⟩, h3⟩
section
variable {Hh : Type} {P : Program} {W : World} [Sy] {M : Nat}
def LayB (M : Nat) (enc : TypeId × Value → Hh) (P : Program) (W : World) (t : TypeId) {α : Type} (R : AH → List Value → α → Prop) : Prop :=
  ∀ (fuel : Nat) (cs : List Value) (d : DataW Hh) (ps : List MemPlace), DataW.trod enc P W 0 (fun _ => true) true fuel t cs = some (d, ps) → bk d ≤ M →
    ∀ (ρ : Ren) (H : AH), St ρ H W → ∃ ρ' H' cs' x, St ρ' H' W ∧ Ext ρ ρ' ∧ Grow H H' ∧ VRs ρ' cs' cs ∧ R H' cs' x
variable {enc : TypeId × Value → Hh} {t : TypeId}
theorem lay_intB {k : IntKind} (hu : P.underlying t = some (.int k)) : LayB M enc P W t (RInt k) := by
  intro fuel cs d ps h hw ρ H hs
  cases fuel with
  | zero => simp [DataW.trod] at h
  | succ fuel =>
    unfold DataW.trod at h
    split at h
    case h_2 =>
      rename_i q q' n heq
      rw [hu] at heq
      cases heq
      split at h
      · rename_i hc
        obtain ⟨rfl, hwf⟩ := hc
        exact ⟨ρ, H, [.int q' n], n, hs, Ext.refl _, .refl hs.rel.fresh, .cons (.int _ _) .nil, rfl, hwf⟩
      · cases h
    all_goals first
      | (cases h; done)
      | (rename_i heq; rw [hu] at heq; cases heq; done)
theorem lay_boolB (hu : P.underlying t = some .bool) : LayB M enc P W t RBool := by
  intro fuel cs d ps h hw ρ H hs
  cases fuel with
  | zero => simp [DataW.trod] at h
  | succ fuel =>
    unfold DataW.trod at h
    split at h
    case h_1 =>
      rename_i b heq
      exact ⟨ρ, H, [.bool b], b, hs, Ext.refl _, .refl hs.rel.fresh, .cons (.bool _) .nil, rfl⟩
    all_goals first
      | (cases h; done)
      | (rename_i heq; rw [hu] at heq; cases heq; done)
theorem lay_strB (hu : P.underlying t = some .string) : LayB M enc P W t (RStrB M) := by
  intro fuel cs d ps h hw ρ H hs
  cases fuel with
  | zero => simp [DataW.trod] at h
  | succ fuel =>
    unfold DataW.trod at h
    split at h
    case h_4 =>
      rename_i s heq
      split at h
      · cases h
        obtain ⟨⟨l⟩⟩ := s
        refine ⟨ρ, H, [.string ⟨⟨l⟩⟩], l, hs, Ext.refl _, .refl hs.rel.fresh, .cons (.str _) .nil, rfl, ?_⟩
        have h2 : l.length + 1 ≤ M := hw
        omega
      · cases h
    all_goals first
      | (cases h; done)
      | (rename_i heq; rw [hu] at heq; cases heq; done)
theorem lay_sliceB {α : Type} {e : TypeId} {n : Nat} {R : AH → List Value → α → Prop} (hu : P.underlying t = some (.slice e)) (hn : P.cellsOf e = n) (h0 : 0 < n) (hl : LayB M enc P W e R) (hR : Stable R) (hlen : ∀ H cs x, R H cs x → cs.length = n) :
    LayB M enc P W t (RSlB M n R) := by
  intro fuel cs d ps h hw ρ H hs
  cases fuel with
  | zero => simp [DataW.trod] at h
  | succ fuel =>
    unfold DataW.trod at h
    split at h
    case h_7 =>
      rename_i heq
      cases h
      exact ⟨ρ, H, [.slice none 0 0], [], hs, Ext.refl _, .st hs, .cons .snil .nil, none, 0, 0, rfl, ⟨rfl, fun h => by omega, fun i h => by simp at h⟩, by simp⟩
    case h_8 =>
      rename_i e' a len cap heq
      rw [hu] at heq
      cases heq
      split at h
      · rename_i hc
        dsimp only at h
        cases h1 : (List.range len).mapM (fun i => (W.cells? 0 (a.add (i * P.cellsOf e)) (P.cellsOf e)).bind (DataW.trod enc P W 0 (fun _ => true) true fuel e)) with
        | none => rw [h1] at h; simp at h
        | some elems =>
          rw [h1] at h
          simp only [Option.bind_some, if_true] at h
          cases h2 : (List.range (cap - len)).mapM (fun j => (W.cells? 0 (a.add ((len + j) * P.cellsOf e)) (P.cellsOf e)).bind (DataW.trod enc P W 0 (fun _ => true) true fuel e)) with
          | none => rw [h2] at h; simp at h
          | some rest =>
            rw [h2] at h
            simp only [Option.map_some, Option.some.injEq, Prod.mk.injEq] at h
            obtain ⟨rfl, _⟩ := h
            obtain ⟨g1, g2⟩ := mapM_range_some h1
            subst hn
            simp only [bk] at hw
            have wlen : len ≤ M := by
              have := bkAll_len (elems.map (·.1))
              rw [List.length_map, g1] at this
              omega
            rcases Nat.eq_zero_or_pos len with hz | hpos
            · subst hz
              exact ⟨ρ, H, [.slice none 0 1], [], hs, Ext.refl _, .st hs, .cons (.sany _ _) .nil, none, 0, 1, rfl, ⟨rfl, fun h => by omega, fun i h => by simp at h⟩, by simp⟩
            · -- element by element
              have each : ∀ i, i < len → ∃ (cells : List Value) (x : DataW Hh × List MemPlace), W.cells? 0 (a.add (i * P.cellsOf e)) (P.cellsOf e) = some cells ∧ DataW.trod enc P W 0 (fun _ => true) true fuel e cells = some x ∧ bk x.1 ≤ M := by
                intro i hi
                have h3 := g2 i (by omega)
                cases h4 : W.cells? 0 (a.add (i * P.cellsOf e)) (P.cellsOf e) with
                | none => rw [h4] at h3; simp at h3
                | some cells =>
                  rw [h4] at h3
                  simp only [Option.bind_some] at h3
                  refine ⟨cells, _, rfl, h3, ?_⟩
                  have := bkAll_mem (List.mem_map_of_mem (f := (·.1)) (List.getElem_mem (l := elems) (n := i) (by omega)))
                  omega
              obtain ⟨c0, _, hc0, _, _⟩ := each 0 hpos
              obtain ⟨l0, f0⟩ := cells?_some hc0
              have hfirst : W.cell? a = some (c0[0]'(by omega)) := by
                have := f0 0 _ (List.getElem?_eq_getElem (by omega))
                rw [Nat.zero_mul] at this
                simpa [Addr.add] using this
              have hheap : ∃ arr ty fz, W.heap[a.block]? = some (.cells arr ty fz) ∧ a.spot = none := by
                unfold World.cell? at hfirst
                split at hfirst
                · rename_i arr ty fz hg
                  cases hsp : a.spot with
                  | none => exact ⟨arr, ty, fz, hg, rfl⟩
                  | some s => rw [hsp] at hfirst; simp at hfirst
                · cases hfirst
              obtain ⟨arr, ty, fz, hh, hsp⟩ := hheap
              have ha : a = ⟨a.block, a.off, none⟩ := by cases a; simp at hsp; subst hsp; rfl
              have cellAt : ∀ j v, W.cell? (a.add j) = some v → arr[a.off + j]? = some v := by
                intro j v hv
                rw [ha, add_none] at hv
                simp only [World.cell?, hh] at hv
                simpa using hv
              have addadd : ∀ i j, (a.add i).add j = a.add (i + j) := by
                intro i j; rw [ha, add_none, add_none, add_none]; congr 1; omega
              have go : ∀ k, k ≤ len → ∃ (ρ' : Ren) (H' : AH) (cells cs' : List Value) (xs : List α), St ρ' H' W ∧ Ext ρ ρ' ∧ Grow H H' ∧ VRs ρ' cs' cells ∧ cells.length = k * P.cellsOf e ∧ (∀ j v, cells[j]? = some v → arr[a.off + j]? = some v) ∧ xs.length = k ∧
                  ∀ i (hi : i < xs.length), R H' ((cs'.drop (i * P.cellsOf e)).take (P.cellsOf e)) xs[i] := by
                intro k
                induction k with
                | zero => intro _; exact ⟨ρ, H, [], [], [], hs, Ext.refl _, .st hs, .nil, by simp, by simp, rfl, fun i h => by simp at h⟩
                | succ k ih =>
                  intro hk
                  obtain ⟨ρ1, H1, cells, cs1, xs, s1, x1, gr1, v1, ln1, at1, lx1, r1⟩ := ih (by omega)
                  obtain ⟨ck, x, hck, htr, hwt⟩ := each k (by omega)
                  obtain ⟨lk, fk⟩ := cells?_some hck
                  obtain ⟨ρ2, H2, cs2, y, s2, x2, gr2, v2, r2⟩ := hl fuel ck x.1 x.2 htr hwt ρ1 H1 s1
                  have hl2 := v2.length
                  have hl1 := v1.length
                  refine ⟨ρ2, H2, cells ++ ck, cs1 ++ cs2, xs ++ [y], s2, x1.trans x2, gr1.trans gr2, VRs.append (VRs.mono x2 v1) v2, by rw [List.length_append, ln1, lk, Nat.add_mul, Nat.one_mul], ?_, by simp [lx1], ?_⟩
                  · intro j v hj
                    rcases Nat.lt_or_ge j cells.length with h5 | h5
                    · exact at1 j v (by rw [List.getElem?_append_left h5] at hj; exact hj)
                    · rw [List.getElem?_append_right h5] at hj
                      have := cellAt (k * P.cellsOf e + (j - cells.length)) v (by rw [← addadd]; exact fk _ v hj)
                      rw [show a.off + (k * P.cellsOf e + (j - cells.length)) = a.off + j from by omega] at this
                      exact this
                  · intro i hi
                    rcases Nat.lt_or_ge i xs.length with h5 | h5
                    · rw [List.getElem_append_left h5]
                      have h6 : i * P.cellsOf e + P.cellsOf e ≤ cs1.length := by
                        rw [← hl1, ln1, ← Nat.succ_mul]
                        exact Nat.mul_le_mul_right _ (by omega)
                      rw [List.drop_append_of_le_length (by omega), List.take_append_of_le_length (by rw [List.length_drop]; omega)]
                      exact hR _ _ _ _ gr2 (r1 i h5)
                    · have : i = xs.length := by simp at hi; omega
                      subst this
                      rw [List.getElem_append_right (Nat.le_refl _)]
                      have h6 : xs.length * P.cellsOf e = cs1.length := by rw [lx1, ← ln1, hl1]
                      rw [h6, List.drop_left, List.take_of_length_le (by omega)]
                      simpa using r2
              obtain ⟨ρ1, H1, cells, cs1, xs, s1, x1, gr1, v1, ln1, at1, lx1, r1⟩ := go len (Nat.le_refl _)
              have hcl : 0 < cells.length := by rw [ln1]; exact Nat.mul_pos hpos h0
              obtain ⟨s2, x2, gr2⟩ := s1.row hh v1 at1 hcl
              have hl1 := v1.length
              refine ⟨_, _, [.slice (some ⟨H1.next, 0, none⟩) len (2 * cap)], xs, s2, x1.trans x2, gr1.trans gr2, ?_, some ⟨H1.next, 0, none⟩, len, 2 * cap, rfl, ⟨lx1.symm, fun _ => ⟨rfl, trivial⟩, fun i hi => ?_⟩, (by rw [lx1]; exact wlen)⟩
              · rw [ha]
                have := VR.sl (ρ := ρ1.add H1.next ⟨a.block, a.off, 0, arr.size⟩) (b := H1.next) (o := 0) (n := len) (c := 2 * cap) (c' := cap) (p := ⟨a.block, a.off, 0, arr.size⟩) (Ren.add_self _ _ _) (by omega) (by omega) (by omega)
                exact .cons this .nil
              · refine ⟨_, ?_, hR _ _ _ _ gr2 (r1 i hi)⟩
                intro j v hj
                have hjn : j < P.cellsOf e := by
                  have := (List.getElem?_eq_some_iff.1 hj).1
                  rw [List.length_take] at this; omega
                rw [List.getElem?_take, if_pos hjn, List.getElem?_drop] at hj
                simp only [adr, Nat.zero_add]
                unfold AH.cell AH.rd
                rw [get_new_self]
                exact hj
      · cases h
    all_goals first
      | (cases h; done)
      | (rename_i heq; rw [hu] at heq; cases heq; done)
/-! ### Structs: field behind field -/
def LayFsB (M : Nat) (enc : TypeId × Value → Hh) (P : Program) (W : World) (fs : List (TypeId × Nat)) (off total : Nat) {α : Type} (R : AH → List Value → α → Prop) : Prop :=
  ∀ (fuel : Nat) (cs : List Value) (xs : List (DataW Hh × List MemPlace)), cs.length = total → (fs.mapM fun f => DataW.trod enc P W 0 (fun _ => true) true fuel f.1 ((cs.drop f.2).take (P.cellsOf f.1))) = some xs →
    bkAll (xs.map (·.1)) ≤ M →
    ∀ (ρ : Ren) (H : AH), St ρ H W → ∃ ρ' H' cs' x, St ρ' H' W ∧ Ext ρ ρ' ∧ Grow H H' ∧ VRs ρ' cs' (cs.drop off) ∧ R H' cs' x
theorem lay_fnilB {total : Nat} : LayFsB M enc P W [] total total RNil := by
  intro fuel cs xs hlen _ _ ρ H hs
  exact ⟨ρ, H, [], (), hs, Ext.refl _, .st hs, by rw [List.drop_of_length_le (by omega)]; exact .nil, rfl⟩
theorem lay_fconsB {α β : Type} {f : TypeId × Nat} {fs : List (TypeId × Nat)} {off n total : Nat} {R1 : AH → List Value → α → Prop} {R2 : AH → List Value → β → Prop} (ho : f.2 = off) (hn : P.cellsOf f.1 = n) (h1 : LayB M enc P W f.1 R1) (s1 : Stable R1)
    (h2 : LayFsB M enc P W fs (off + n) total R2) : LayFsB M enc P W (f :: fs) off total (RCons R1 R2) := by
  intro fuel cs xs hlen hm hw ρ H hs
  rw [List.mapM_cons] at hm
  cases e1 : DataW.trod enc P W 0 (fun _ => true) true fuel f.1 ((cs.drop f.2).take (P.cellsOf f.1)) with
  | none => rw [e1] at hm; simp at hm
  | some x =>
    rw [e1] at hm
    simp only [Option.bind_eq_bind, Option.bind_some] at hm
    cases e2 : fs.mapM (fun f => DataW.trod enc P W 0 (fun _ => true) true fuel f.1 ((cs.drop f.2).take (P.cellsOf f.1))) with
    | none => rw [e2] at hm; simp at hm
    | some ys =>
      rw [e2] at hm
      simp at hm
      subst hm
      simp only [List.map_cons, bkAll] at hw
      obtain ⟨ρ1, H1, c1, y, a1, a2, a3, a4, a5⟩ := h1 fuel _ x.1 x.2 e1 (by omega) ρ H hs
      obtain ⟨ρ2, H2, c2, z, b1, b2, b3, b4, b5⟩ := h2 fuel cs ys hlen e2 (by omega) ρ1 H1 a1
      refine ⟨ρ2, H2, c1 ++ c2, (y, z), b1, a2.trans b2, a3.trans b3, ?_, c1, c2, rfl, s1 _ _ _ _ b3 a5, b5⟩
      subst ho; subst hn
      have : cs.drop f.2 = (cs.drop f.2).take (P.cellsOf f.1) ++ cs.drop (f.2 + P.cellsOf f.1) := by
        rw [← List.drop_drop, List.take_append_drop]
      rw [this]
      exact VRs.append (VRs.mono b2 a4) b4
theorem lay_structB {α : Type} {ds : List (TypeId × Nat)} {total : Nat} {R : AH → List Value → α → Prop} (hf : fieldsB P t ds = true) (hn : P.cellsOf t = total) (h : LayFsB M enc P W ds 0 total R) : LayB M enc P W t R := by
  intro fuel cs d ps ht hw ρ H hs
  unfold fieldsB at hf
  split at hf
  case h_2 => cases hf
  rename_i fs hu
  have hf := eq_of_beq hf
  cases fuel with
  | zero => simp [DataW.trod] at ht
  | succ fuel =>
    unfold DataW.trod at ht
    split at ht
    case h_9 =>
      rename_i fs' heq
      rw [hu] at heq
      cases heq
      split at ht
      · rename_i cs _ _ hc
        rw [mapM_fields (fun t o => DataW.trod enc P W 0 (fun _ => true) true fuel t ((cs.drop o).take (P.cellsOf t)))] at ht
        obtain ⟨fs⟩ := fs
        simp only at hf
        rw [hf] at ht
        cases e : ds.mapM (fun f => DataW.trod enc P W 0 (fun _ => true) true fuel f.1 ((cs.drop f.2).take (P.cellsOf f.1))) with
        | none => rw [e] at ht; simp at ht
        | some xs =>
          rw [e] at ht
          simp only [Option.map_some, Option.some.injEq, Prod.mk.injEq] at ht
          obtain ⟨rfl, _⟩ := ht
          simp only [bk] at hw
          obtain ⟨ρ1, H1, c1, y, a1, a2, a3, a4, a5⟩ := h fuel cs xs (by rw [hc, hn]) e (by omega) ρ H hs
          exact ⟨ρ1, H1, c1, y, a1, a2, a3, by simpa using a4, a5⟩
      · cases ht
    all_goals first
      | (cases ht; done)
      | (rename_i heq; rw [hu] at heq; cases heq; done)
/-! ### Arguments -/
def LayAsB (M : Nat) (enc : TypeId × Value → Hh) (P : Program) (W : World) (ts : List TypeId) {α : Type} (R : AH → List Value → α → Prop) : Prop :=
  ∀ (base : Nat) (vs : List Value) (ds : List (DataW Hh)) (p : List MemPlace), DataW.TrodAll enc P W 0 (fun _ => true) true ts vs ds p → (∀ (j : Nat) t v, ts[j]? = some t → vs[j]? = some v → Value.okWide P W .any base t v) →
    bkAll ds ≤ M →
    ∀ (ρ : Ren) (H : AH), St ρ H W → ∃ ρ' H' vs' x, St ρ' H' W ∧ Ext ρ ρ' ∧ Grow H H' ∧ VRs ρ' vs' vs ∧ R H' vs' x
theorem lay_anilB : LayAsB M enc P W [] RNil := by
  intro base vs ds p h _ _ ρ H hs
  cases vs with
  | nil => exact ⟨ρ, H, [], (), hs, Ext.refl _, .st hs, .nil, rfl⟩
  | cons v vs => simp [DataW.TrodAll] at h
theorem lay_aconsB {α β : Type} {ts : List TypeId} {R1 : AH → List Value → α → Prop} {R2 : AH → List Value → β → Prop} (h1 : LayB M enc P W t R1) (s1 : Stable R1) (hns : ∀ fs n e, P.underlying t ≠ some (.struct fs) ∧ P.underlying t ≠ some (.array n e)) (h2 : LayAsB M enc P W ts R2) :
    LayAsB M enc P W (t :: ts) (RCons (ROne R1) R2) := by
  intro base vs ds p h hv hw ρ H hs
  match vs, ds, h with
  | [], _, h => simp [DataW.TrodAll] at h
  | _ :: _, [], h => simp [DataW.TrodAll] at h
  | v :: vs, d :: ds, h =>
    obtain ⟨p1, p2, ⟨fuel, e1⟩, e2, _⟩ := h
    simp only [bkAll] at hw
    obtain ⟨ρ1, H1, c1, y, a1, a2, a3, a4, a5⟩ := h1 fuel _ d p1 e1 (by omega) ρ H hs
    obtain ⟨ρ2, H2, c2, z, b1, b2, b3, b4, b5⟩ := h2 base vs ds p2 e2 (fun j t v h1 h2 => hv (j + 1) t v (by simpa using h1) (by simpa using h2)) (by omega) ρ1 H1 a1
    refine ⟨ρ2, H2, c1 ++ c2, (y, z), b1, a2.trans b2, a3.trans b3, ?_, c1, c2, rfl, s1 _ _ _ _ b3 a5, b5⟩
    have hok := hv 0 t v rfl rfl
    have hone : v.cells.toList = [v] := by
      unfold Value.okWide at hok
      split at hok
      · rename_i heq; exact ((hns _ 0 0).1 heq).elim
      · rename_i heq; exact ((hns #[] _ _).2 heq).elim
      · have := okWide_one hok
        cases v <;> first | rfl | cases this
    rw [hone] at a4
    exact VRs.append (VRs.mono b2 a4) b4
theorem lay_aaggB {α β : Type} {ts : List TypeId} {R1 : AH → List Value → α → Prop} {R2 : AH → List Value → β → Prop} (hb : structB P t = true) (h1 : LayB M enc P W t R1) (s1 : Stable R1) (h2 : LayAsB M enc P W ts R2) :
    LayAsB M enc P W (t :: ts) (RCons (RAgg R1) R2) := by
  intro base vs ds p h hv hw ρ H hs
  unfold structB at hb
  split at hb
  case h_2 => cases hb
  rename_i fs hu
  match vs, ds, h with
  | [], _, h => simp [DataW.TrodAll] at h
  | _ :: _, [], h => simp [DataW.TrodAll] at h
  | v :: vs, d :: ds, h =>
    obtain ⟨p1, p2, ⟨fuel, e1⟩, e2, _⟩ := h
    simp only [bkAll] at hw
    obtain ⟨ρ1, H1, c1, y, a1, a2, a3, a4, a5⟩ := h1 fuel _ d p1 e1 (by omega) ρ H hs
    obtain ⟨ρ2, H2, c2, z, b1, b2, b3, b4, b5⟩ := h2 base vs ds p2 e2 (fun j t v h1 h2 => hv (j + 1) t v (by simpa using h1) (by simpa using h2)) (by omega) ρ1 H1 a1
    refine ⟨ρ2, H2, [.agg ⟨c1⟩] ++ c2, (y, z), b1, a2.trans b2, a3.trans b3, ?_, _, c2, rfl, ⟨c1, rfl, s1 _ _ _ _ b3 a5⟩, b5⟩
    have hok := hv 0 t v rfl rfl
    have hagg : ∃ cs, v = .agg cs := by
      unfold Value.okWide at hok
      rw [hu] at hok
      obtain ⟨cs, rfl, _⟩ := hok
      exact ⟨cs, rfl⟩
    obtain ⟨⟨cs⟩, rfl⟩ := hagg
    have a4 : VRs ρ1 c1 cs := a4
    exact VRs.append (.cons (.agg (VRs.mono b2 a4)) .nil) b4
theorem lay_arrayB {α : Type} {e : TypeId} {n total : Nat} {ds : List (TypeId × Nat)} {R : AH → List Value → α → Prop} (hu : P.underlying t = some (.array n e)) (hd : (List.range n).map (fun i => (e, i * P.cellsOf e)) = ds) (hn : P.cellsOf t = total) (h : LayFsB M enc P W ds 0 total R) : LayB M enc P W t R := by
  intro fuel cs d ps ht hw ρ H hs
  cases fuel with
  | zero => simp [DataW.trod] at ht
  | succ fuel =>
    unfold DataW.trod at ht
    split at ht
    case h_10 =>
      rename_i n' e' heq
      rw [hu] at heq
      cases heq
      split at ht
      · rename_i cs _ _ hc
        have hm : (List.range n).mapM (fun i => DataW.trod enc P W 0 (fun _ => true) true fuel e ((cs.drop (i * P.cellsOf e)).take (P.cellsOf e))) = ds.mapM (fun f => DataW.trod enc P W 0 (fun _ => true) true fuel f.1 ((cs.drop f.2).take (P.cellsOf f.1))) := by
          rw [← hd]
          exact mapM_map (fun i => (e, i * P.cellsOf e)) (fun f : TypeId × Nat => DataW.trod enc P W 0 (fun _ => true) true fuel f.1 ((cs.drop f.2).take (P.cellsOf f.1))) (List.range n)
        rw [hm] at ht
        cases e1 : ds.mapM (fun f => DataW.trod enc P W 0 (fun _ => true) true fuel f.1 ((cs.drop f.2).take (P.cellsOf f.1))) with
        | none => rw [e1] at ht; simp at ht
        | some xs =>
          rw [e1] at ht
          simp only [Option.map_some, Option.some.injEq, Prod.mk.injEq] at ht
          obtain ⟨rfl, _⟩ := ht
          simp only [bk] at hw
          obtain ⟨ρ1, H1, c1, y, a1, a2, a3, a4, a5⟩ := h fuel cs xs (by rw [hc, hn]) e1 (by omega) ρ H hs
          exact ⟨ρ1, H1, c1, y, a1, a2, a3, by simpa using a4, a5⟩
      · cases ht
    all_goals first
      | (cases ht; done)
      | (rename_i heq; rw [hu] at heq; cases heq; done)
end
theorem calls_rowB [Sy] {E : Env} {P : Program} (hE : EnvOk E P) (hX : ExtOk E P) (hN : ExtNext E) (hS : SumOk E P) (hg : E.g = 0) {Hh : Type} {enc : TypeId × Value → Hh} {W : World} {ts : List TypeId} {α : Type} {M : Nat} {R : AH → List Value → α → Prop}
    (hL : LayAsB M enc P W ts R) {f : FuncId} {vs : List Value} {ds : List (DataW Hh)} {p : List MemPlace} {base : Nat} (hA : DataW.TrodAll enc P W 0 (fun _ => true) true ts vs ds p)
    (hv : ∀ (j : Nat) t v, ts[j]? = some t → vs[j]? = some v → Value.okWide P W .any base t v) (hw : bkAll ds ≤ M)
    (law : ∀ H vs x, Ok H → R H vs x → FW E f vs H fun r _ => r = .bool true) : Calls P f ⟨vs⟩ W fun e W' => e = .returned (.bool true) ∧ Below W.heap.size W W' := by
  obtain ⟨ρ, H, vs', x, hs, _, _, hvr, hR⟩ := hL base vs ds p hA hv hw nowhere AH0 (St.empty W)
  exact calls_laid hE hX hN hS hg hs hvr (law H vs' x hs.rel.fresh hR)
end Go.Ev
