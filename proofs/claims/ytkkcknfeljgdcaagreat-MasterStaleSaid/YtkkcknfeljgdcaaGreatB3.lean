/- What comes in, laid as cells that are read alone. A law on laid arguments. Calls that are known: several; the library's sort of whole numbers. Arrays that come in. A map's keys, sorted: a call that is known. How many jobs are open, of a master that has none: a call that is known. Partitions given to one worker (plan.Assign): a call that is known. -/
import Derived.Test.YtkkcknfeljgdcaaGreatB2
import Derived.Test.YtkkcknfeljgdcaaGreatEv32
import Derived.SizedLaws
import Derived.Shelf.Sort.Plain
import Derived.Maps.Range
import Derived.Lib.SlKeysI
namespace Go.Ev
open Go Go.RowKit

section
variable {Hh : Type} {P : Program} {W : World}

/-- what R says stays where all that is there stays -/
def Stable {α : Type} (R : AH → List Value → α → Prop) : Prop := ∀ H H' cs x, Grow H H' → R H cs x → R H' cs x

def RInt (k : IntKind) (_ : AH) (cs : List Value) (x : Int) : Prop := cs = [.int k x] ∧ (Lit.int k x).wf = true
def RBool (_ : AH) (cs : List Value) (x : Bool) : Prop := cs = [.bool x]
def RStr (_ : AH) (cs : List Value) (x : List UInt8) : Prop := cs = [.string ⟨⟨x⟩⟩] ∧ x.length ≤ 140737488351232

/-- the cells that the machine has from an address on -/
theorem cells?_some {base n : Nat} {a : Addr} {l : List Value} (h : W.cells? base a n = some l) : l.length = n ∧ ∀ j v, l[j]? = some v → W.cell? (a.add j) = some v := by
  unfold World.cells? at h
  split at h
  · have gen : ∀ (is : List Nat) (l : List Value), is.mapM (fun i => W.cell? (a.add i)) = some l → l.length = is.length ∧ ∀ (j : Nat) (v : Value) (i : Nat), l[j]? = some v → is[j]? = some i → W.cell? (a.add i) = some v := by
      intro is
      induction is with
      | nil => intro l h; simp at h; subst h; exact ⟨rfl, by simp⟩
      | cons i is ih =>
        intro l h
        rw [List.mapM_cons] at h
        cases h1 : W.cell? (a.add i) with
        | none => rw [h1] at h; simp at h
        | some v =>
          rw [h1] at h
          simp only [Option.bind_eq_bind, Option.bind_some] at h
          cases h2 : is.mapM (fun i => W.cell? (a.add i)) with
          | none => rw [h2] at h; simp at h
          | some l' =>
            rw [h2] at h
            simp at h
            subst h
            obtain ⟨k1, k2⟩ := ih l' h2
            refine ⟨by simp [k1], fun j v i' hj hi => ?_⟩
            cases j with
            | zero => simp at hj hi; subst hj hi; exact h1
            | succ j => exact k2 j v i' (by simpa using hj) (by simpa using hi)
    obtain ⟨k1, k2⟩ := gen _ l h
    rw [List.length_range] at k1
    refine ⟨k1, fun j v hj => k2 j v j hj ?_⟩
    have := (List.getElem?_eq_some_iff.1 hj).1
    exact List.getElem?_range (by omega)
  · cases h

/-- an element of a list, by its cells -/
def PCs {α : Type} (R : AH → List Value → α → Prop) (H : AH) (b o : Nat) (x : α) : Prop := ∃ cs, (∀ j v, cs[j]? = some v → H.cell b (o + j) = some v) ∧ R H cs x
/-- as much room as there are elements, and no more is open -/
def Room (l c : Nat) : Prop := 0 < l → c % 2 = 0 ∧ l ≤ c / 2
def RSl {α : Type} (n bytes : Nat) (R : AH → List Value → α → Prop) (H : AH) (cs : List Value) (xs : List α) : Prop :=
  ∃ a l c, cs = [.slice a l c] ∧ Sl (fun _ => True) H n (PCs R) a l xs ∧ xs.length * bytes ≤ 140737488351232 ∧ Room l c

theorem weightsAll_mem {e : TypeId} : ∀ {ds : List (DataW Hh)} {d : DataW Hh}, d ∈ ds → ∀ n ∈ d.weights P e, n ∈ DataW.weightsAll P e ds
  | [], _, h, _, _ => by simp at h
  | x :: ds, d, h, n, hn => by
    simp only [DataW.weightsAll, List.mem_append]
    rcases List.mem_cons.1 h with rfl | h
    · exact .inl hn
    · exact .inr (weightsAll_mem h n hn)
theorem mapM_range_some {β : Type} {f : Nat → Option β} : ∀ {n : Nat} {l : List β}, (List.range n).mapM f = some l → l.length = n ∧ ∀ i (h : i < l.length), f i = some l[i] := by
  have gen : ∀ (is : List Nat) (l : List β), is.mapM f = some l → l.length = is.length ∧ ∀ j (h : j < l.length) i, is[j]? = some i → f i = some l[j] := by
    intro is
    induction is with
    | nil => intro l h; simp at h; subst h; exact ⟨rfl, fun j h => by simp at h⟩
    | cons i is ih =>
      intro l h
      rw [List.mapM_cons] at h
      cases h1 : f i with
      | none => rw [h1] at h; simp at h
      | some v =>
        rw [h1] at h
        simp only [Option.bind_eq_bind, Option.bind_some] at h
        cases h2 : is.mapM f with
        | none => rw [h2] at h; simp at h
        | some l' =>
          rw [h2] at h
          simp at h
          subst h
          obtain ⟨k1, k2⟩ := ih l' h2
          refine ⟨by simp [k1], fun j hj i' hi => ?_⟩
          cases j with
          | zero => simp at hi; subst hi; exact h1
          | succ j => exact k2 j (by simpa using hj) i' (by simpa using hi)
  intro n l h
  obtain ⟨k1, k2⟩ := gen _ l h
  rw [List.length_range] at k1
  exact ⟨k1, fun i hi => k2 i hi i (List.getElem?_range (by omega))⟩

def RNil (_ : AH) (cs : List Value) (_ : Unit) : Prop := cs = []
def RCons {α β : Type} (R1 : AH → List Value → α → Prop) (R2 : AH → List Value → β → Prop) (H : AH) (cs : List Value) (x : α × β) : Prop := ∃ c1 c2, cs = c1 ++ c2 ∧ R1 H c1 x.1 ∧ R2 H c2 x.2
theorem stable_int {k : IntKind} : Stable (RInt k) := fun _ _ _ _ _ h => h
theorem stable_bool : Stable RBool := fun _ _ _ _ _ h => h
theorem stable_str : Stable RStr := fun _ _ _ _ _ h => h
theorem stable_nil : Stable RNil := fun _ _ _ _ _ h => h
theorem stable_cons {α β : Type} {R1 : AH → List Value → α → Prop} {R2 : AH → List Value → β → Prop} (h1 : Stable R1) (h2 : Stable R2) : Stable (RCons R1 R2) :=
  fun _ _ _ _ g ⟨c1, c2, e, a, b⟩ => ⟨c1, c2, e, h1 _ _ _ _ g a, h2 _ _ _ _ g b⟩
theorem loc_pcs {α : Type} {R : AH → List Value → α → Prop} (hR : Stable R) {H H' : AH} {b o : Nat} {x : α} (g : Grow H H') (h : PCs R H b o x) : PCs R H' b o x :=
  let ⟨cs, k1, k2⟩ := h; ⟨cs, fun j v e => g.cell id (k1 j v e), hR _ _ _ _ g k2⟩
theorem stable_slice {α : Type} {n bytes : Nat} {R : AH → List Value → α → Prop} (hR : Stable R) : Stable (RSl n bytes R) :=
  fun _ _ _ _ g ⟨a, l, c, e, h, hb⟩ => ⟨a, l, c, e, ⟨h.len, h.base, fun i hi => loc_pcs hR g (h.cells i hi)⟩, hb⟩

/-- a value that is one cell -/
def ROne {α : Type} (R : AH → List Value → α → Prop) (H : AH) (vs : List Value) (x : α) : Prop := R H vs x
/-- a value of several cells -/
def RAgg {α : Type} (R : AH → List Value → α → Prop) (H : AH) (vs : List Value) (x : α) : Prop := ∃ cs, vs = [.agg ⟨cs⟩] ∧ R H cs x
def structB (P : Program) (t : TypeId) : Bool := match P.underlying t with
  | some (.struct _) => true
  | _ => false
theorem mapM_fields {β : Type} (g : TypeId → Nat → Option β) : ∀ (fs : List Field), fs.mapM (fun f => g f.type f.offset) = (fs.map fun f => (f.type, f.offset)).mapM fun d => g d.1 d.2
  | [] => rfl
  | f :: fs => by rw [List.mapM_cons, List.map_cons, List.mapM_cons, mapM_fields g fs]
/-- the fields of a struct: types and places -/
def fieldsB (P : Program) (t : TypeId) (ds : List (TypeId × Nat)) : Bool := match P.underlying t with
  | some (.struct fs) => fs.toList.map (fun f => (f.type, f.offset)) == ds
  | _ => false
end

section
variable {Hh : Type} {P : Program} {W : World} [Sy]

structure St (ρ : Ren) (H : AH) (W : World) : Prop where
  rel : Rel ρ H W
  ro : ∀ b o, H.get b = some o → o.wr = false
  dom : ∀ b p, ρ b = some p → b < H.next

def LayT (enc : TypeId × Value → Hh) (P : Program) (W : World) (t : TypeId) {α : Type} (R : AH → List Value → α → Prop) : Prop :=
  ∀ (fuel : Nat) (cs : List Value) (d : DataW Hh) (ps : List MemPlace), DataW.trod enc P W 0 (fun _ => true) true fuel t cs = some (d, ps) → (d.weights P t).all (· ≤ reachBytes) = true →
    ∀ (ρ : Ren) (H : AH), St ρ H W → ∃ ρ' H' cs' x, St ρ' H' W ∧ Ext ρ ρ' ∧ Grow H H' ∧ VRs ρ' cs' cs ∧ R H' cs' x
variable {enc : TypeId × Value → Hh} {t : TypeId}

theorem lay_int {k : IntKind} (hu : P.underlying t = some (.int k)) : LayT enc P W t (RInt k) := by
  intro fuel cs d ps h hw ρ H hs
  cases fuel with
  | zero => simp [DataW.trod] at h
  | succ fuel =>
    unfold DataW.trod at h
    split at h
    case h_2 =>
      rename_i q q' n heq
      rw [hu] at heq
      cases heq
      split at h
      · rename_i hc
        obtain ⟨rfl, hwf⟩ := hc
        exact ⟨ρ, H, [.int q' n], n, hs, Ext.refl _, .refl hs.rel.fresh, .cons (.int _ _) .nil, rfl, hwf⟩
      · cases h
    all_goals first
      | (cases h; done)
      | (rename_i heq; rw [hu] at heq; cases heq; done)
theorem lay_bool (hu : P.underlying t = some .bool) : LayT enc P W t RBool := by
  intro fuel cs d ps h hw ρ H hs
  cases fuel with
  | zero => simp [DataW.trod] at h
  | succ fuel =>
    unfold DataW.trod at h
    split at h
    case h_1 =>
      rename_i b heq
      exact ⟨ρ, H, [.bool b], b, hs, Ext.refl _, .refl hs.rel.fresh, .cons (.bool _) .nil, rfl⟩
    all_goals first
      | (cases h; done)
      | (rename_i heq; rw [hu] at heq; cases heq; done)
theorem lay_str (hu : P.underlying t = some .string) : LayT enc P W t RStr := by
  intro fuel cs d ps h hw ρ H hs
  cases fuel with
  | zero => simp [DataW.trod] at h
  | succ fuel =>
    unfold DataW.trod at h
    split at h
    case h_4 =>
      rename_i s heq
      split at h
      · cases h
        obtain ⟨⟨l⟩⟩ := s
        refine ⟨ρ, H, [.string ⟨⟨l⟩⟩], l, hs, Ext.refl _, .refl hs.rel.fresh, .cons (.str _) .nil, rfl, ?_⟩
        have := List.all_eq_true.1 hw l.length (by simp [DataW.weights])
        have h2 : l.length ≤ reachBytes := of_decide_eq_true this
        unfold reachBytes at h2
        exact h2
      · cases h
    all_goals first
      | (cases h; done)
      | (rename_i heq; rw [hu] at heq; cases heq; done)

theorem Grow.st {ρ : Ren} {H : AH} (hs : St ρ H W) : Grow H H := .refl hs.rel.fresh

/-- a row of cells that is read alone -/
theorem St.row {ρ : Ren} {H : AH} (hs : St ρ H W) {cs cs' : List Value} {c d : Nat} {arr : Array Value} {ty : TypeId} {fz : Nat × Nat} (hh : W.heap[c]? = some (.cells arr ty fz)) (hv : VRs ρ cs' cs)
    (hc : ∀ j v, cs[j]? = some v → arr[d + j]? = some v) (hp : 0 < cs.length) :
    St (ρ.add H.next ⟨c, d, 0, arr.size⟩) (H.new (.ro cs')) W ∧ Ext ρ (ρ.add H.next ⟨c, d, 0, arr.size⟩) ∧ Grow H (H.new (.ro cs')) := by
  have hnone : ρ H.next = none := by
    cases e : ρ H.next with
    | none => rfl
    | some p => have := hs.dom _ _ e; omega
  have hx := Ren.ext_add (p := ⟨c, d, 0, arr.size⟩) hnone
  have hlen := hv.length
  have hro : ∀ b o, (H.new (.ro cs')).get b = some o → o.wr = false := by
    intro b o e
    rw [AH.get_new] at e
    split at e
    · cases e; rfl
    · exact hs.ro b o e
  refine ⟨⟨⟨?_, ?_, ?_⟩, hro, ?_⟩, hx, Grow.new hs.rel.fresh _⟩
  · intro b p o hb ho
    unfold Ren.add at hb
    rw [AH.get_new] at ho
    by_cases e : b = H.next
    · rw [if_pos e] at hb ho; cases hb; cases ho
      refine ⟨_, hh, .ro rfl ?_ ?_⟩
      · have hl : (cs[cs.length - 1]? : Option Value) = some (cs[cs.length - 1]'(by omega)) := List.getElem?_eq_getElem _
        have := (Array.getElem?_eq_some_iff.1 (hc _ _ hl)).1
        simp only
        omega
      · intro i v e2
        obtain ⟨v', g1, g2⟩ := hv.get e2
        exact ⟨v', hc i v' g1, g2.mono hx⟩
    · rw [if_neg e] at hb ho
      obtain ⟨ob, g1, g2⟩ := hs.rel.obj b p o hb ho
      exact ⟨ob, g1, g2.mono hx⟩
  · intro b b' p p' o o' _ _ ho _ hw _
    rw [hro b o ho] at hw; cases hw
  · exact (Ok.new hs.rel.fresh _)
  · intro b p e
    unfold Ren.add at e
    simp only [AH.new_next]
    by_cases h : b = H.next
    · omega
    · rw [if_neg h] at e; have := hs.dom b p e; omega

theorem lay_slice {α : Type} {e : TypeId} {n bytes : Nat} {R : AH → List Value → α → Prop} (hu : P.underlying t = some (.slice e)) (hn : P.cellsOf e = n) (h0 : 0 < n) (hb : P.bytesOf e = bytes) (hl : LayT enc P W e R) (hR : Stable R) (hlen : ∀ H cs x, R H cs x → cs.length = n) :
    LayT enc P W t (RSl n bytes R) := by
  intro fuel cs d ps h hw ρ H hs
  cases fuel with
  | zero => simp [DataW.trod] at h
  | succ fuel =>
    unfold DataW.trod at h
    split at h
    case h_7 =>
      rename_i heq
      cases h
      exact ⟨ρ, H, [.slice none 0 0], [], hs, Ext.refl _, .st hs, .cons .snil .nil, none, 0, 0, rfl, ⟨rfl, fun h => by omega, fun i h => by simp at h⟩, by simp, fun h => absurd h (Nat.lt_irrefl 0)⟩
    case h_8 =>
      rename_i e' a len cap heq
      rw [hu] at heq
      cases heq
      split at h
      · rename_i hc
        dsimp only at h
        cases h1 : (List.range len).mapM (fun i => (W.cells? 0 (a.add (i * P.cellsOf e)) (P.cellsOf e)).bind (DataW.trod enc P W 0 (fun _ => true) true fuel e)) with
        | none => rw [h1] at h; simp at h
        | some elems =>
          rw [h1] at h
          simp only [Option.bind_some, if_true] at h
          cases h2 : (List.range (cap - len)).mapM (fun j => (W.cells? 0 (a.add ((len + j) * P.cellsOf e)) (P.cellsOf e)).bind (DataW.trod enc P W 0 (fun _ => true) true fuel e)) with
          | none => rw [h2] at h; simp at h
          | some rest =>
            rw [h2] at h
            simp only [Option.map_some, Option.some.injEq, Prod.mk.injEq] at h
            obtain ⟨rfl, _⟩ := h
            obtain ⟨g1, g2⟩ := mapM_range_some h1
            simp only [DataW.weights, hu, List.all_cons, Bool.and_eq_true, List.all_append, decide_eq_true_eq] at hw
            obtain ⟨w1, w2, _⟩ := hw
            subst hn
            have wbound : len * bytes ≤ 140737488351232 := by
              have h3 : (len + rest.length) * bytes ≤ 140737488351232 := by
                rw [← hb]; simp only [List.length_map, g1] at w1; unfold reachBytes at w1; exact w1
              have := Nat.mul_le_mul_right bytes (Nat.le_add_right len rest.length)
              omega
            rcases Nat.eq_zero_or_pos len with hz | hpos
            · subst hz
              exact ⟨ρ, H, [.slice none 0 1], [], hs, Ext.refl _, .st hs, .cons (.sany _ _) .nil, none, 0, 1, rfl, ⟨rfl, fun h => by omega, fun i h => by simp at h⟩, by simp, fun h => absurd h (Nat.lt_irrefl 0)⟩
            · -- element by element
              have each : ∀ i, i < len → ∃ (cells : List Value) (x : DataW Hh × List MemPlace), W.cells? 0 (a.add (i * P.cellsOf e)) (P.cellsOf e) = some cells ∧ DataW.trod enc P W 0 (fun _ => true) true fuel e cells = some x ∧ (x.1.weights P e).all (· ≤ reachBytes) = true := by
                intro i hi
                have h3 := g2 i (by omega)
                cases h4 : W.cells? 0 (a.add (i * P.cellsOf e)) (P.cellsOf e) with
                | none => rw [h4] at h3; simp at h3
                | some cells =>
                  rw [h4] at h3
                  simp only [Option.bind_some] at h3
                  refine ⟨cells, _, rfl, h3, List.all_eq_true.2 fun m hm => ?_⟩
                  exact List.all_eq_true.1 w2 m (weightsAll_mem (List.mem_map_of_mem (List.getElem_mem _)) m hm)
              obtain ⟨c0, _, hc0, _, _⟩ := each 0 hpos
              obtain ⟨l0, f0⟩ := cells?_some hc0
              have hfirst : W.cell? a = some (c0[0]'(by omega)) := by
                have := f0 0 _ (List.getElem?_eq_getElem (by omega))
                rw [Nat.zero_mul] at this
                simpa [Addr.add] using this
              have hheap : ∃ arr ty fz, W.heap[a.block]? = some (.cells arr ty fz) ∧ a.spot = none := by
                unfold World.cell? at hfirst
                split at hfirst
                · rename_i arr ty fz hg
                  cases hsp : a.spot with
                  | none => exact ⟨arr, ty, fz, hg, rfl⟩
                  | some s => rw [hsp] at hfirst; simp at hfirst
                · cases hfirst
              obtain ⟨arr, ty, fz, hh, hsp⟩ := hheap
              have ha : a = ⟨a.block, a.off, none⟩ := by cases a; simp at hsp; subst hsp; rfl
              have cellAt : ∀ j v, W.cell? (a.add j) = some v → arr[a.off + j]? = some v := by
                intro j v hv
                rw [ha, add_none] at hv
                simp only [World.cell?, hh] at hv
                simpa using hv
              have addadd : ∀ i j, (a.add i).add j = a.add (i + j) := by
                intro i j; rw [ha, add_none, add_none, add_none]; congr 1; omega
              have go : ∀ k, k ≤ len → ∃ (ρ' : Ren) (H' : AH) (cells cs' : List Value) (xs : List α), St ρ' H' W ∧ Ext ρ ρ' ∧ Grow H H' ∧ VRs ρ' cs' cells ∧ cells.length = k * P.cellsOf e ∧ (∀ j v, cells[j]? = some v → arr[a.off + j]? = some v) ∧ xs.length = k ∧
                  ∀ i (hi : i < xs.length), R H' ((cs'.drop (i * P.cellsOf e)).take (P.cellsOf e)) xs[i] := by
                intro k
                induction k with
                | zero => intro _; exact ⟨ρ, H, [], [], [], hs, Ext.refl _, .st hs, .nil, by simp, by simp, rfl, fun i h => by simp at h⟩
                | succ k ih =>
                  intro hk
                  obtain ⟨ρ1, H1, cells, cs1, xs, s1, x1, gr1, v1, ln1, at1, lx1, r1⟩ := ih (by omega)
                  obtain ⟨ck, x, hck, htr, hwt⟩ := each k (by omega)
                  obtain ⟨lk, fk⟩ := cells?_some hck
                  obtain ⟨ρ2, H2, cs2, y, s2, x2, gr2, v2, r2⟩ := hl fuel ck x.1 x.2 htr hwt ρ1 H1 s1
                  have hl2 := v2.length
                  have hl1 := v1.length
                  refine ⟨ρ2, H2, cells ++ ck, cs1 ++ cs2, xs ++ [y], s2, x1.trans x2, gr1.trans gr2, VRs.append (VRs.mono x2 v1) v2, by rw [List.length_append, ln1, lk, Nat.add_mul, Nat.one_mul], ?_, by simp [lx1], ?_⟩
                  · intro j v hj
                    rcases Nat.lt_or_ge j cells.length with h5 | h5
                    · exact at1 j v (by rw [List.getElem?_append_left h5] at hj; exact hj)
                    · rw [List.getElem?_append_right h5] at hj
                      have := cellAt (k * P.cellsOf e + (j - cells.length)) v (by rw [← addadd]; exact fk _ v hj)
                      rw [show a.off + (k * P.cellsOf e + (j - cells.length)) = a.off + j from by omega] at this
                      exact this
                  · intro i hi
                    rcases Nat.lt_or_ge i xs.length with h5 | h5
                    · rw [List.getElem_append_left h5]
                      have h6 : i * P.cellsOf e + P.cellsOf e ≤ cs1.length := by
                        rw [← hl1, ln1, ← Nat.succ_mul]
                        exact Nat.mul_le_mul_right _ (by omega)
                      rw [List.drop_append_of_le_length (by omega), List.take_append_of_le_length (by rw [List.length_drop]; omega)]
                      exact hR _ _ _ _ gr2 (r1 i h5)
                    · have : i = xs.length := by simp at hi; omega
                      subst this
                      rw [List.getElem_append_right (Nat.le_refl _)]
                      have h6 : xs.length * P.cellsOf e = cs1.length := by rw [lx1, ← ln1, hl1]
                      rw [h6, List.drop_left, List.take_of_length_le (by omega)]
                      simpa using r2
              obtain ⟨ρ1, H1, cells, cs1, xs, s1, x1, gr1, v1, ln1, at1, lx1, r1⟩ := go len (Nat.le_refl _)
              have hcl : 0 < cells.length := by rw [ln1]; exact Nat.mul_pos hpos h0
              obtain ⟨s2, x2, gr2⟩ := s1.row hh v1 at1 hcl
              have hl1 := v1.length
              refine ⟨_, _, [.slice (some ⟨H1.next, 0, none⟩) len (2 * cap)], xs, s2, x1.trans x2, gr1.trans gr2, ?_, some ⟨H1.next, 0, none⟩, len, 2 * cap, rfl, ⟨lx1.symm, fun _ => ⟨rfl, trivial⟩, fun i hi => ?_⟩, (by rw [lx1]; exact wbound), fun _ => ⟨by omega, by omega⟩⟩
              · rw [ha]
                have := VR.sl (ρ := ρ1.add H1.next ⟨a.block, a.off, 0, arr.size⟩) (b := H1.next) (o := 0) (n := len) (c := 2 * cap) (c' := cap) (p := ⟨a.block, a.off, 0, arr.size⟩) (Ren.add_self _ _ _) (by omega) (by omega) (by omega)
                exact .cons this .nil
              · refine ⟨_, ?_, hR _ _ _ _ gr2 (r1 i hi)⟩
                intro j v hj
                have hjn : j < P.cellsOf e := by
                  have := (List.getElem?_eq_some_iff.1 hj).1
                  rw [List.length_take] at this; omega
                rw [List.getElem?_take, if_pos hjn, List.getElem?_drop] at hj
                simp only [adr, Nat.zero_add]
                unfold AH.cell AH.rd
                rw [get_new_self]
                exact hj
      · cases h
    all_goals first
      | (cases h; done)
      | (rename_i heq; rw [hu] at heq; cases heq; done)

/-! ### Structs: field behind field -/
def LayFs (enc : TypeId × Value → Hh) (P : Program) (W : World) (fs : List (TypeId × Nat)) (off total : Nat) {α : Type} (R : AH → List Value → α → Prop) : Prop :=
  ∀ (fuel : Nat) (cs : List Value) (xs : List (DataW Hh × List MemPlace)), cs.length = total → (fs.mapM fun f => DataW.trod enc P W 0 (fun _ => true) true fuel f.1 ((cs.drop f.2).take (P.cellsOf f.1))) = some xs →
    (DataW.weightsEach P (fs.map (·.1)) (xs.map (·.1))).all (· ≤ reachBytes) = true →
    ∀ (ρ : Ren) (H : AH), St ρ H W → ∃ ρ' H' cs' x, St ρ' H' W ∧ Ext ρ ρ' ∧ Grow H H' ∧ VRs ρ' cs' (cs.drop off) ∧ R H' cs' x
theorem lay_fnil {total : Nat} : LayFs enc P W [] total total RNil := by
  intro fuel cs xs hlen _ _ ρ H hs
  exact ⟨ρ, H, [], (), hs, Ext.refl _, .st hs, by rw [List.drop_of_length_le (by omega)]; exact .nil, rfl⟩
theorem lay_fcons {α β : Type} {f : TypeId × Nat} {fs : List (TypeId × Nat)} {off n total : Nat} {R1 : AH → List Value → α → Prop} {R2 : AH → List Value → β → Prop} (ho : f.2 = off) (hn : P.cellsOf f.1 = n) (h1 : LayT enc P W f.1 R1) (s1 : Stable R1)
    (h2 : LayFs enc P W fs (off + n) total R2) : LayFs enc P W (f :: fs) off total (RCons R1 R2) := by
  intro fuel cs xs hlen hm hw ρ H hs
  rw [List.mapM_cons] at hm
  cases e1 : DataW.trod enc P W 0 (fun _ => true) true fuel f.1 ((cs.drop f.2).take (P.cellsOf f.1)) with
  | none => rw [e1] at hm; simp at hm
  | some x =>
    rw [e1] at hm
    simp only [Option.bind_eq_bind, Option.bind_some] at hm
    cases e2 : fs.mapM (fun f => DataW.trod enc P W 0 (fun _ => true) true fuel f.1 ((cs.drop f.2).take (P.cellsOf f.1))) with
    | none => rw [e2] at hm; simp at hm
    | some ys =>
      rw [e2] at hm
      simp at hm
      subst hm
      simp only [List.map_cons, DataW.weightsEach, List.all_append, Bool.and_eq_true] at hw
      obtain ⟨ρ1, H1, c1, y, a1, a2, a3, a4, a5⟩ := h1 fuel _ x.1 x.2 e1 hw.1 ρ H hs
      obtain ⟨ρ2, H2, c2, z, b1, b2, b3, b4, b5⟩ := h2 fuel cs ys hlen e2 hw.2 ρ1 H1 a1
      refine ⟨ρ2, H2, c1 ++ c2, (y, z), b1, a2.trans b2, a3.trans b3, ?_, c1, c2, rfl, s1 _ _ _ _ b3 a5, b5⟩
      subst ho; subst hn
      have : cs.drop f.2 = (cs.drop f.2).take (P.cellsOf f.1) ++ cs.drop (f.2 + P.cellsOf f.1) := by
        rw [← List.drop_drop, List.take_append_drop]
      rw [this]
      exact VRs.append (VRs.mono b2 a4) b4
theorem lay_struct {α : Type} {ds : List (TypeId × Nat)} {total : Nat} {R : AH → List Value → α → Prop} (hf : fieldsB P t ds = true) (hn : P.cellsOf t = total) (h : LayFs enc P W ds 0 total R) : LayT enc P W t R := by
  intro fuel cs d ps ht hw ρ H hs
  unfold fieldsB at hf
  split at hf
  case h_2 => cases hf
  rename_i fs hu
  have hf := eq_of_beq hf
  cases fuel with
  | zero => simp [DataW.trod] at ht
  | succ fuel =>
    unfold DataW.trod at ht
    split at ht
    case h_9 =>
      rename_i fs' heq
      rw [hu] at heq
      cases heq
      split at ht
      · rename_i cs _ _ hc
        rw [mapM_fields (fun t o => DataW.trod enc P W 0 (fun _ => true) true fuel t ((cs.drop o).take (P.cellsOf t)))] at ht
        obtain ⟨fs⟩ := fs
        simp only at hf
        rw [hf] at ht
        cases e : ds.mapM (fun f => DataW.trod enc P W 0 (fun _ => true) true fuel f.1 ((cs.drop f.2).take (P.cellsOf f.1))) with
        | none => rw [e] at ht; simp at ht
        | some xs =>
          rw [e] at ht
          simp only [Option.map_some, Option.some.injEq, Prod.mk.injEq] at ht
          obtain ⟨rfl, _⟩ := ht
          simp only [DataW.weights, hu] at hw
          have hty : fs.map (·.type) = ds.map (·.1) := by rw [← hf, List.map_map]; rfl
          rw [hty] at hw
          obtain ⟨ρ1, H1, c1, y, a1, a2, a3, a4, a5⟩ := h fuel cs xs (by rw [hc, hn]) e hw ρ H hs
          exact ⟨ρ1, H1, c1, y, a1, a2, a3, by simpa using a4, a5⟩
      · cases ht
    all_goals first
      | (cases ht; done)
      | (rename_i heq; rw [hu] at heq; cases heq; done)

/-! ### Arguments -/
/-- arguments of such types: each laid -/
def LayAs (enc : TypeId × Value → Hh) (P : Program) (W : World) (ts : List TypeId) {α : Type} (R : AH → List Value → α → Prop) : Prop :=
  ∀ (base : Nat) (vs : List Value) (ds : List (DataW Hh)) (p : List MemPlace), DataW.TrodAll enc P W 0 (fun _ => true) true ts vs ds p → (∀ (j : Nat) t v, ts[j]? = some t → vs[j]? = some v → Value.okWide P W .any base t v) →
    (DataW.weightsEach P ts ds).all (· ≤ reachBytes) = true →
    ∀ (ρ : Ren) (H : AH), St ρ H W → ∃ ρ' H' vs' x, St ρ' H' W ∧ Ext ρ ρ' ∧ Grow H H' ∧ VRs ρ' vs' vs ∧ R H' vs' x
theorem lay_anil : LayAs enc P W [] RNil := by
  intro base vs ds p h _ _ ρ H hs
  cases vs with
  | nil => exact ⟨ρ, H, [], (), hs, Ext.refl _, .st hs, .nil, rfl⟩
  | cons v vs => simp [DataW.TrodAll] at h
theorem lay_acons {α β : Type} {ts : List TypeId} {R1 : AH → List Value → α → Prop} {R2 : AH → List Value → β → Prop} (h1 : LayT enc P W t R1) (s1 : Stable R1) (hns : ∀ fs n e, P.underlying t ≠ some (.struct fs) ∧ P.underlying t ≠ some (.array n e)) (h2 : LayAs enc P W ts R2) :
    LayAs enc P W (t :: ts) (RCons (ROne R1) R2) := by
  intro base vs ds p h hv hw ρ H hs
  match vs, ds, h with
  | [], _, h => simp [DataW.TrodAll] at h
  | _ :: _, [], h => simp [DataW.TrodAll] at h
  | v :: vs, d :: ds, h =>
    obtain ⟨p1, p2, ⟨fuel, e1⟩, e2, _⟩ := h
    simp only [DataW.weightsEach, List.all_append, Bool.and_eq_true] at hw
    obtain ⟨ρ1, H1, c1, y, a1, a2, a3, a4, a5⟩ := h1 fuel _ d p1 e1 hw.1 ρ H hs
    obtain ⟨ρ2, H2, c2, z, b1, b2, b3, b4, b5⟩ := h2 base vs ds p2 e2 (fun j t v h1 h2 => hv (j + 1) t v (by simpa using h1) (by simpa using h2)) hw.2 ρ1 H1 a1
    refine ⟨ρ2, H2, c1 ++ c2, (y, z), b1, a2.trans b2, a3.trans b3, ?_, c1, c2, rfl, s1 _ _ _ _ b3 a5, b5⟩
    have hok := hv 0 t v rfl rfl
    have hone : v.cells.toList = [v] := by
      unfold Value.okWide at hok
      split at hok
      · rename_i heq; exact ((hns _ 0 0).1 heq).elim
      · rename_i heq; exact ((hns #[] _ _).2 heq).elim
      · have := okWide_one hok
        cases v <;> first | rfl | cases this
    rw [hone] at a4
    exact VRs.append (VRs.mono b2 a4) b4
theorem lay_aagg {α β : Type} {ts : List TypeId} {R1 : AH → List Value → α → Prop} {R2 : AH → List Value → β → Prop} (hb : structB P t = true) (h1 : LayT enc P W t R1) (s1 : Stable R1) (h2 : LayAs enc P W ts R2) :
    LayAs enc P W (t :: ts) (RCons (RAgg R1) R2) := by
  intro base vs ds p h hv hw ρ H hs
  unfold structB at hb
  split at hb
  case h_2 => cases hb
  rename_i fs hu
  match vs, ds, h with
  | [], _, h => simp [DataW.TrodAll] at h
  | _ :: _, [], h => simp [DataW.TrodAll] at h
  | v :: vs, d :: ds, h =>
    obtain ⟨p1, p2, ⟨fuel, e1⟩, e2, _⟩ := h
    simp only [DataW.weightsEach, List.all_append, Bool.and_eq_true] at hw
    obtain ⟨ρ1, H1, c1, y, a1, a2, a3, a4, a5⟩ := h1 fuel _ d p1 e1 hw.1 ρ H hs
    obtain ⟨ρ2, H2, c2, z, b1, b2, b3, b4, b5⟩ := h2 base vs ds p2 e2 (fun j t v h1 h2 => hv (j + 1) t v (by simpa using h1) (by simpa using h2)) hw.2 ρ1 H1 a1
    refine ⟨ρ2, H2, [.agg ⟨c1⟩] ++ c2, (y, z), b1, a2.trans b2, a3.trans b3, ?_, _, c2, rfl, ⟨c1, rfl, s1 _ _ _ _ b3 a5⟩, b5⟩
    have hok := hv 0 t v rfl rfl
    have hagg : ∃ cs, v = .agg cs := by
      unfold Value.okWide at hok
      rw [hu] at hok
      obtain ⟨cs, rfl, _⟩ := hok
      exact ⟨cs, rfl⟩
    obtain ⟨⟨cs⟩, rfl⟩ := hagg
    have a4 : VRs ρ1 c1 cs := a4
    exact VRs.append (.cons (.agg (VRs.mono b2 a4)) .nil) b4
end

theorem St.empty [Sy] (W : World) : St nowhere AH0 W := ⟨rel0, (fun b o h => by cases h), (fun b p h => by cases h)⟩

/-- what a call comes to on laid arguments, it comes to on the machine; what came in stays -/
theorem calls_laid [Sy] {E : Env} {P : Program} (hE : EnvOk E P) (hX : ExtOk E P) (hN : ExtNext E) (hS : SumOk E P) (hg : E.g = 0) {ρ : Ren} {H : AH} {W : World} (hs : St ρ H W) {f : FuncId} {vs vs' : List Value} (hv : VRs ρ vs' vs)
    (h : FW E f vs' H fun r _ => r = .bool true) : Calls P f ⟨vs⟩ W fun e W' => e = .returned (.bool true) ∧ Below W.heap.size W W' := by
  obtain ⟨n, v, H', h1, rfl⟩ := h.run
  have hfree : Free ρ H.next H'.next := by
    intro x h1 _
    cases e : ρ x with
    | none => rfl
    | some p => have := hs.dom x p e; omega
  refine Calls.mono' ((evalN_sound hE hX hN hS n).1.call f vs' H _ H' h1 ρ W vs hs.rel (fun k hk => by rw [hg] at hk; omega) hv hfree) ?_
  rintro e w' ⟨ρ', v', rfl, hp, hv'⟩
  cases hv'
  refine ⟨rfl, hp.below (Nat.le_refl _) fun c _ b p o _ ho hw => ?_⟩
  rw [hs.ro b o ho] at hw; cases hw
end Go.Ev

namespace Go.Ev
open Go Go.RowKit

/-- a law that answers true on whatever the row's precondition lays, answers true on the machine and leaves all as it was -/
theorem calls_row [Sy] {E : Env} {P : Program} (hE : EnvOk E P) (hX : ExtOk E P) (hN : ExtNext E) (hS : SumOk E P) (hg : E.g = 0) {Hh : Type} {enc : TypeId × Value → Hh} {W : World} {ts : List TypeId} {α : Type} {R : AH → List Value → α → Prop}
    (hL : LayAs enc P W ts R) {f : FuncId} {vs : List Value} {ds : List (DataW Hh)} {p : List MemPlace} {base : Nat} (hA : DataW.TrodAll enc P W 0 (fun _ => true) true ts vs ds p)
    (hv : ∀ (j : Nat) t v, ts[j]? = some t → vs[j]? = some v → Value.okWide P W .any base t v) (hw : (DataW.weightsEach P ts ds).all (· ≤ reachBytes) = true)
    (law : ∀ H vs x, Ok H → R H vs x → FW E f vs H fun r _ => r = .bool true) : Calls P f ⟨vs⟩ W fun e W' => e = .returned (.bool true) ∧ Below W.heap.size W W' := by
  obtain ⟨ρ, H, vs', x, hs, _, _, hvr, hR⟩ := hL base vs ds p hA hv hw nowhere AH0 (St.empty W)
  exact calls_laid hE hX hN hS hg hs hvr (law H vs' x hs.rel.fresh hR)
end Go.Ev

namespace Go.Ev
open Go Go.RowKit

abbrev Known := List Value → AH → Option (Value × AH)
def sums : List (FuncId × Known) → Tr Known
  | [] => .leaf
  | (f, g) :: l => (sums l).set f (some g)
theorem sums_get {f : FuncId} {g : Known} : ∀ {l : List (FuncId × Known)}, (sums l).get f = some g → (f, g) ∈ l
  | [], h => by simp [sums, Tr.get] at h
  | (f1, g1) :: l, h => by
    unfold sums at h
    rw [Tr.get_set] at h
    by_cases e : f = f1
    · rw [if_pos e] at h
      obtain rfl := Option.some.inj h
      rw [e]; exact List.mem_cons_self
    · rw [if_neg e] at h
      exact List.mem_cons_of_mem _ (sums_get h)
/-- a call that is known is so -/
def KnownOk [Sy] (P : Program) (f : FuncId) (g : Known) : Prop := ∀ args H v H', g args H = some (v, H') → H.next ≤ H'.next ∧ ∀ ρ w args', Rel ρ H w → VRs ρ args args' →
  Calls P f ⟨args'⟩ w fun e w' => ∃ ρ' v', e = .returned v' ∧ Post ρ H w ρ' H' w' ∧ VR ρ' v v'
theorem truth_known [Sy] {P : Program} {f : FuncId} (hf : ∀ w, Calls P f #[] w fun e w' => e = .returned (.bool true) ∧ Below w.heap.size w w') : KnownOk P f truth := by
  intro args H v H' e
  obtain ⟨rfl, rfl, rfl⟩ := truth_some e
  refine ⟨Nat.le_refl _, fun ρ w args' hR ha => ?_⟩
  cases ha
  refine Calls.mono' (hf w) ?_
  rintro e' w' ⟨rfl, hb⟩
  exact ⟨ρ, .bool true, rfl, Post.of_below hR hb, .bool true⟩

/-! ### The sort -/
def iv (x : Int) : Value := .int .i64 x
def sortI (zs : List Int) : List Int := zs.mergeSort fun x y => decide (x ≤ y)
end Go.Ev

namespace Go.Ev
open Go Go.RowKit
theorem weightsEach_same {Hh : Type} {P : Program} {e : TypeId} : ∀ (xs : List (DataW Hh)), DataW.weightsEach P (List.replicate xs.length e) xs = DataW.weightsAll P e xs
  | [] => by simp [DataW.weightsEach, DataW.weightsAll]
  | x :: xs => by simp only [List.length_cons, List.replicate_succ, DataW.weightsEach, DataW.weightsAll, weightsEach_same xs]
theorem mapM_len {α β : Type} {f : α → Option β} : ∀ {l : List α} {r : List β}, l.mapM f = some r → r.length = l.length
  | [], r, h => by simp at h; subst h; rfl
  | a :: l, r, h => by
    rw [List.mapM_cons] at h
    cases e1 : f a with
    | none => rw [e1] at h; simp at h
    | some x =>
      rw [e1] at h
      simp only [Option.bind_eq_bind, Option.bind_some] at h
      cases e2 : l.mapM f with
      | none => rw [e2] at h; simp at h
      | some ys =>
        rw [e2] at h
        simp at h
        subst h
        simp [mapM_len e2]
theorem mapM_map {α β γ : Type} (g : α → β) (f : β → Option γ) : ∀ (l : List α), l.mapM (fun x => f (g x)) = (l.map g).mapM f
  | [] => rfl
  | a :: l => by rw [List.mapM_cons, List.map_cons, List.mapM_cons, mapM_map g f l]
section
variable {Hh : Type} {P : Program} {W : World} [Sy] {enc : TypeId × Value → Hh} {t : TypeId}
theorem lay_array {α : Type} {e : TypeId} {n total : Nat} {ds : List (TypeId × Nat)} {R : AH → List Value → α → Prop} (hu : P.underlying t = some (.array n e)) (hd : (List.range n).map (fun i => (e, i * P.cellsOf e)) = ds) (hn : P.cellsOf t = total) (h : LayFs enc P W ds 0 total R) : LayT enc P W t R := by
  intro fuel cs d ps ht hw ρ H hs
  cases fuel with
  | zero => simp [DataW.trod] at ht
  | succ fuel =>
    unfold DataW.trod at ht
    split at ht
    case h_10 =>
      rename_i n' e' heq
      rw [hu] at heq
      cases heq
      split at ht
      · rename_i cs _ _ hc
        have hm : (List.range n).mapM (fun i => DataW.trod enc P W 0 (fun _ => true) true fuel e ((cs.drop (i * P.cellsOf e)).take (P.cellsOf e))) = ds.mapM (fun f => DataW.trod enc P W 0 (fun _ => true) true fuel f.1 ((cs.drop f.2).take (P.cellsOf f.1))) := by
          rw [← hd]
          exact mapM_map (fun i => (e, i * P.cellsOf e)) (fun f : TypeId × Nat => DataW.trod enc P W 0 (fun _ => true) true fuel f.1 ((cs.drop f.2).take (P.cellsOf f.1))) (List.range n)
        rw [hm] at ht
        cases e1 : ds.mapM (fun f => DataW.trod enc P W 0 (fun _ => true) true fuel f.1 ((cs.drop f.2).take (P.cellsOf f.1))) with
        | none => rw [e1] at ht; simp at ht
        | some xs =>
          rw [e1] at ht
          simp only [Option.map_some, Option.some.injEq, Prod.mk.injEq] at ht
          obtain ⟨rfl, _⟩ := ht
          simp only [DataW.weights, hu] at hw
          have hl := mapM_len e1
          have hty : ds.map (·.1) = List.replicate (xs.map (·.1)).length e := by
            rw [List.length_map, hl, ← hd, List.length_map, List.length_range, List.map_map]
            refine List.eq_replicate_iff.2 ⟨by simp, fun b hb => ?_⟩
            obtain ⟨i, _, rfl⟩ := List.mem_map.1 hb
            rfl
          rw [← weightsEach_same, ← hty] at hw
          obtain ⟨ρ1, H1, c1, y, a1, a2, a3, a4, a5⟩ := h fuel cs xs (by rw [hc, hn]) e1 hw ρ H hs
          exact ⟨ρ1, H1, c1, y, a1, a2, a3, by simpa using a4, a5⟩
      · cases ht
    all_goals first
      | (cases ht; done)
      | (rename_i heq; rw [hu] at heq; cases heq; done)
end
end Go.Ev

namespace Go.Ev
open Go Go.RowKit Go.Maps
open Go.WideElems (Fit rd rg)

/-- a call that is known is so, where its new names are free -/
def KnownF [Sy] (P : Program) (f : FuncId) (g : Known) : Prop := ∀ args H v H', g args H = some (v, H') → H.next ≤ H'.next ∧ ∀ ρ w args', Rel ρ H w → Free ρ H.next H'.next → VRs ρ args args' →
  Calls P f ⟨args'⟩ w fun e w' => ∃ ρ' v', e = .returned v' ∧ Post ρ H w ρ' H' w' ∧ VR ρ' v v'
theorem KnownOk.toF [Sy] {P : Program} {f : FuncId} {g : Known} (h : KnownOk P f g) : KnownF P f g := fun args H v H' e => ⟨(h args H v H' e).1, fun ρ w args' hR _ ha => (h args H v H' e).2 ρ w args' hR ha⟩
theorem sumsF_ok [Sy] {E : Env} {P : Program} {l : List (FuncId × Known)} (hE : E.sum = sums l) (h : ∀ p ∈ l, KnownF P p.1 p.2) : SumOk E P := by
  intro f g e args H v H' e2 ρ w args' hR _ ha hf
  rw [hE] at e
  exact (h _ (sums_get e) args H v H' e2).2 ρ w args' hR hf ha
theorem sumsF_next [Sy] {E : Env} {P : Program} {l : List (FuncId × Known)} (hx : E.ext = .leaf) (hE : E.sum = sums l) (h : ∀ p ∈ l, KnownF P p.1 p.2) : ExtNext E := by
  refine ⟨fun g h e => by rw [hx] at e; simp [Tr.get] at e, fun f g e a H v H' e2 => ?_⟩
  rw [hE] at e
  exact (h _ (sums_get e) a H v H' e2).1

/-- what was below stays; one new block is named -/
theorem Post.below_new [Sy] {ρ : Ren} {H : AH} {w w' : World} (hR : Rel ρ H w) (hf : ρ H.next = none) (hb : Below w.heap.size w w') {o : AObj} {ob : Obj} {p : Pl} (hp : w.heap.size ≤ p.c) (hg : w'.heap[p.c]? = some ob) (ho : OR (ρ.add H.next p) p o ob) :
    Post ρ H w (ρ.add H.next p) (H.new o) w' := by
  obtain ⟨b1, b2, b3, b4, b5⟩ := hb
  have hx : Ext ρ (ρ.add H.next p) := Ren.ext_add hf
  have low : ∀ b q o', ρ b = some q → H.get b = some o' → q.c < w.heap.size := fun b q o' h1 h2 => by
    obtain ⟨ob', g1, _⟩ := hR.obj b q o' h1 h2
    exact (Array.getElem?_eq_some_iff.1 g1).1
  refine ⟨hx, ?_, Nat.le_succ _, ?_, b1, b2, b3, b4, fun c hc _ => b5 c hc, ?_, ⟨?_, ?_, ?_⟩⟩
  · intro b q a e
    unfold Ren.add at e
    by_cases h : b = H.next
    · subst h; exact ⟨Nat.le_refl _, Nat.lt_succ_self _⟩
    · rw [if_neg h, a] at e; cases e
  · intro b h1 _
    rw [AH.get_new, if_neg (by omega)]
  · intro b q o' e1 e2 hc
    unfold Ren.add at e1
    rw [AH.get_new] at e2
    by_cases h : b = H.next
    · rw [if_pos h] at e1; cases e1; omega
    · rw [if_neg h] at e1 e2; exact ⟨b, q, o', e1, e2, id, rfl⟩
  · intro b q o' e1 e2
    unfold Ren.add at e1
    rw [AH.get_new] at e2
    by_cases h : b = H.next
    · rw [if_pos h] at e1 e2; cases e1; cases e2; exact ⟨ob, hg, ho⟩
    · rw [if_neg h] at e1 e2
      obtain ⟨ob', g1, g2⟩ := hR.obj b q o' e1 e2
      exact ⟨ob', by rw [b5 q.c (low b q o' e1 e2)]; exact g1, g2.mono hx⟩
  · intro b b' q q' o1 o2 e1 e2 k1 k2 hw he
    unfold Ren.add at e1 e2
    rw [AH.get_new] at k1 k2
    by_cases h : b = H.next
    · by_cases h' : b' = H.next
      · rw [h, h']
      · rw [if_pos h] at e1; rw [if_neg h'] at e2 k2; cases e1
        have := low b' q' o2 e2 k2; omega
    · by_cases h' : b' = H.next
      · rw [if_neg h] at e1 k1; rw [if_pos h'] at e2; cases e2
        have := low b q o1 e1 k1; omega
      · rw [if_neg h] at e1 k1; rw [if_neg h'] at e2 k2
        exact hR.inj b b' q q' o1 o2 e1 e2 k1 k2 hw he
  · intro b h
    have h : H.next + 1 ≤ b := h
    rw [AH.get_new, if_neg (by omega)]; exact hR.fresh b (by omega)

/-! ### Keys that are whole numbers -/
def mkeys : List MapEntry → Option (List Int)
  | [] => some []
  | e :: es => match e.key with
    | .int .i64 x => (mkeys es).map (x :: ·)
    | _ => none
/-- as the machine wants a map's entries -/
structure Ents (es : List MapEntry) (clock : Nat) (zs : List Int) : Prop where
  keys : mkeys es = some zs
  born : ∀ e ∈ es, e.born < clock
  once : (es.map (·.born)).Nodup
  nodup : zs.Nodup
  wf : ∀ x ∈ zs, I64 x
  room : zs.length * 8 ≤ 140737488355328
open Classical in
/-- slices.Sorted of maps.Keys: the iterators that may be handed in -/
noncomputable def keysW (gs : List FuncId) : Known := fun args H => match args with
  | [.func (.func g) ⟨[]⟩ ⟨[.pointer (some ⟨B, 0, none⟩)]⟩] => bif gs.contains g then (match H.get B with
    | some (.cells [.map none] 0) => some (.slice none 0 0, H)
    | some (.cells [.map (some m)] 0) => (match H.get m with
      | some (.map es clock) => (match mkeys es with
        | some zs => if Ents es clock zs then (if zs = [] then some (.slice none 0 0, H) else some (.slice (some ⟨H.next, 0, none⟩) zs.length (2 * zs.length + 1), H.new (.cells ((sortI zs).map iv) 1))) else none
        | none => none)
      | _ => none)
    | _ => none) else none
  | _ => none
theorem mkeys_len : ∀ {es : List MapEntry} {zs : List Int}, mkeys es = some zs → es.length = zs.length
  | [], zs, h => by simp [mkeys] at h; subst h; rfl
  | e :: es, zs, h => by
    unfold mkeys at h
    split at h
    · cases h1 : mkeys es with
      | none => rw [h1] at h; cases h
      | some ys =>
        rw [h1] at h
        simp only [Option.map_some, Option.some.injEq] at h
        subst h
        simp [mkeys_len h1]
    · cases h
theorem mkeys_at : ∀ {es : List MapEntry} {zs : List Int}, mkeys es = some zs → es.map (·.key) = zs.map iv
  | [], zs, h => by simp [mkeys] at h; subst h; rfl
  | e :: es, zs, h => by
    unfold mkeys at h
    split at h
    · rename_i x hk
      cases h1 : mkeys es with
      | none => rw [h1] at h; cases h
      | some ys =>
        rw [h1] at h
        simp only [Option.map_some, Option.some.injEq] at h
        subst h
        simp only [List.map_cons, mkeys_at h1, hk]; rfl
    · cases h
theorem mkeys_mk : ∀ {es : List MapEntry} {zs : List Int}, es.map (·.key) = zs.map iv → mkeys es = some zs
  | [], [], _ => rfl
  | [], _ :: _, h => by simp at h
  | _ :: _, [], h => by simp at h
  | e :: es, z :: zs, h => by
    simp only [List.map_cons, List.cons.injEq] at h
    unfold mkeys
    rw [h.1]
    simp only [iv, mkeys_mk h.2, Option.map_some]
theorem ERs.keys [Sy] {ρ : Ren} : ∀ {es es' : List MapEntry}, ERs ρ es es' → ∀ {zs : List Int}, es.map (·.key) = zs.map iv → es'.map (·.key) = zs.map iv ∧ es'.map (·.born) = es.map (·.born)
  | _, _, .nil, zs, h => ⟨h, rfl⟩
  | _, _, .cons h t, [], k => by simp at k
  | _, _, .cons (a := a) (b := b) h t, z :: zs, k => by
    simp only [List.map_cons, List.cons.injEq] at k
    obtain ⟨k1, k2⟩ := t.keys k.2
    have h1 := h.key
    rw [k.1] at h1
    have h2 : b.key = iv z := by
      generalize b.key = v at h1
      cases h1; rfl
    exact ⟨by simp only [List.map_cons, k1, h2], by simp only [List.map_cons, k2, h.born]⟩
abbrev RU : Value → Option (DataW Unit × List MemPlace) := fun _ => some (.nil, [])
theorem wf_i64 {x : Int} (h : I64 x) : (Lit.int .i64 x).wf = true := by
  have h1 : IntKind.i64.min = -9223372036854775808 := by decide
  have h2 : IntKind.i64.max = 9223372036854775807 := by decide
  simp only [Lit.wf, Bool.and_eq_true, decide_eq_true_eq, h1, h2]
  exact h
/-- a map of the machine's whose keys are whole numbers -/
theorem owns_map {P : Program} {w : World} {k : TypeId} (hk : P.underlying k = some (.int .i64)) {b : Nat} {es' : Array MapEntry} {clock : Nat} {zs : List Int} (hb : w.heap[b]? = some (.map es' clock)) (h1 : es'.toList.map (·.key) = zs.map iv)
    (h2 : ∀ x ∈ es'.toList.map (·.born), x < clock) (h3 : (es'.toList.map (·.born)).Nodup) (h4 : zs.Nodup) (h5 : ∀ x ∈ zs, I64 x) (h6 : zs.length ≤ 140737488355327) :
    ∃ D0 : DataW Unit, w.ownsMap P k RU b zs.length D0 ∧ zs.Perm (intKeys D0) ∧ Maps.size D0 = zs.length := by
  have hlen : es'.size = zs.length := by
    have := congrArg List.length h1
    simpa using this
  have hrd : ∀ x ∈ es'.toList, ∃ z, z ∈ zs ∧ x.key = iv z ∧ rd P k RU x = some (.int .i64 z, .nil) := by
    intro x hx
    have : x.key ∈ es'.toList.map (·.key) := List.mem_map_of_mem hx
    rw [h1] at this
    obtain ⟨z, hz, e⟩ := List.mem_map.1 this
    refine ⟨z, hz, e.symm, ?_⟩
    have hkey : keyOf P k x.key = some (.int .i64 z) := by
      rw [← e]
      exact keyOf_int_mk hk (wf_i64 (h5 z hz))
    unfold rd
    rw [hkey]; rfl
  have F : Fit P k RU es' clock := by
    refine ⟨by rw [hlen]; unfold maxLen; omega, (MapKept.stamped_iff es' clock).2 ⟨fun x hx => h2 _ (List.mem_map_of_mem hx), h3, ?_⟩, fun x hx => ?_⟩
    · have : (es'.toList.map (·.key)).Nodup := by
        rw [h1]
        exact List.pairwise_map.2 (h4.imp fun hne e => hne (by simpa [iv] using e))
      exact List.pairwise_map.1 this
    · obtain ⟨z, _, _, h⟩ := hrd x hx
      exact ⟨_, h⟩
  have hown : w.ownsMap P k RU b zs.length (.map ((es'.toList.map (rg P k RU)).foldr DataW.insert [])) := ⟨es', clock, hb, F, by omega, rfl⟩
  refine ⟨_, hown, ?_, ?_⟩
  · have hper : (intKeys (.map ((es'.toList.map (rg P k RU)).foldr DataW.insert []))).Perm (intKeys (.map (es'.toList.map (rg P k RU)))) := (WideShapes.sorted_perm _).map _
    have heq : intKeys (.map (es'.toList.map (rg P k RU))) = zs := by
      show (es'.toList.map (rg P k RU)).map (fun p => intOf p.1) = zs
      rw [List.map_map]
      have : es'.toList.map ((fun p => intOf p.1) ∘ rg P k RU) = (es'.toList.map (·.key)).map (fun v => match v with | .int _ x => x | _ => 0) := by
        rw [List.map_map]
        refine List.map_congr_left fun x hx => ?_
        obtain ⟨z, _, hz, hr⟩ := hrd x hx
        simp only [Function.comp, hz, iv, rg, hr]; rfl
      rw [this, h1, List.map_map]
      exact List.map_id'' (fun x => rfl) zs
    rw [heq] at hper
    exact hper.symm
  · show ((es'.toList.map (rg P k RU)).foldr DataW.insert []).length = zs.length
    rw [WideShapes.sorted_perm _ |>.length_eq]
    simpa using hlen

/-- what the library's contract says of slices.Sorted at an iterator of maps.Keys -/
structure SortedKeys (P : Program) (f g : FuncId) (k T : TypeId) : Prop where
  some_ : ∀ (b nn : Nat) (D0 : DataW Unit) (w : World) (B : Nat), B < w.heap.size → w.cell? ⟨B, 0, none⟩ = some (.map (some b)) → w.ownsMap P k RU b nn D0 → Maps.size D0 ≤ maxLen → Maps.size D0 * 8 ≤ 140737488355328 →
    Calls P f #[.func (.func g) #[] #[.pointer (some ⟨B, 0, none⟩)]] w fun e w' => ∃ (v : Value) (ss : List Int), e = .returned v ∧ ss.Perm (intKeys D0) ∧
      w'.ownsRow w.heap.size T 1 v ss.length ((ss.mergeSort (fun x y => decide (x ≤ y))).map encZ) ∧ (v = .slice none 0 0 ↔ ss = []) ∧ Below w.heap.size w w'
  none_ : ∀ (w : World) (B : Nat), B < w.heap.size → w.cell? ⟨B, 0, none⟩ = some (.map none) →
    Calls P f #[.func (.func g) #[] #[.pointer (some ⟨B, 0, none⟩)]] w fun e w' => e = .returned (.slice none 0 0) ∧ Below w.heap.size w w'
theorem keys_known [Sy] {P : Program} {f : FuncId} {k T : TypeId} {gs : List FuncId} (hk : P.underlying k = some (.int .i64)) (h : ∀ g ∈ gs, SortedKeys P f g k T) : KnownF P f (keysW gs) := by
  intro args H v H' e
  unfold keysW at e
  split at e
  case h_2 => cases e
  rename_i g B
  cases hg : gs.contains g with
  | false => rw [hg] at e; cases e
  | true =>
    rw [hg] at e
    simp only [cond_true] at e
    have hc := h g (List.contains_iff_mem.1 hg)
    -- the box
    have box : ∀ {ρ : Ren} {w : World} {args' : List Value} {m : Option Nat}, Rel ρ H w → VRs ρ [.func (.func g) ⟨[]⟩ ⟨[.pointer (some ⟨B, 0, none⟩)]⟩] args' → H.get B = some (.cells [.map m] 0) →
        ∃ c m', args' = [.func (.func g) #[] #[.pointer (some ⟨c, 0, none⟩)]] ∧ c < w.heap.size ∧ w.cell? ⟨c, 0, none⟩ = some (.map m') ∧ VR ρ (.map m) (.map m') := by
      intro ρ w args' m hR ha hB
      cases ha with
      | cons h1 h2 =>
        cases h2
        cases h1 with
        | func _ hn hf hcs =>
          cases hf
          cases hcs with
          | cons h3 h4 =>
            cases h4
            cases h3 with
            | @ptr _ _ p hp =>
              obtain ⟨ob, g1, g2⟩ := hR.obj B p _ hp hB
              cases g2 with
              | @cells _ _ arr t fz hz he hl hcc hfz hd =>
                have hd0 : p.d = 0 := hd rfl (by simp)
                obtain ⟨v', k1, k2⟩ := hcc 0 _ rfl
                have hm' : ∃ m', v' = .map m' := by cases k2 <;> exact ⟨_, rfl⟩
                obtain ⟨m', rfl⟩ := hm'
                refine ⟨p.c, m', by rw [hd0], (Array.getElem?_eq_some_iff.1 g1).1, ?_, k2⟩
                rw [hd0] at k1
                simp only [World.cell?, g1]
                simpa using k1
    split at e
    · -- no map
      rename_i hB
      cases e
      refine ⟨Nat.le_refl _, fun ρ w args' hR _ ha => ?_⟩
      obtain ⟨c, m', rfl, h1, h2, h3⟩ := box hR ha hB
      cases h3
      refine Calls.mono' (hc.none_ w c h1 h2) ?_
      rintro e' w' ⟨rfl, hb⟩
      exact ⟨ρ, .slice none 0 0, rfl, Post.of_below hR hb, .snil⟩
    · rename_i m hB
      split at e
      · rename_i es clock hm
        split at e
        · rename_i zs hz
          split at e
          · rename_i hE
            have hzr := hE.room
            -- the machine's map
            have mach : ∀ {ρ : Ren} {w : World} {args' : List Value}, Rel ρ H w → VRs ρ [.func (.func g) ⟨[]⟩ ⟨[.pointer (some ⟨B, 0, none⟩)]⟩] args' → Calls P f ⟨args'⟩ w fun e w' => ∃ (v : Value) (ss : List Int), e = .returned v ∧ ss.Perm zs ∧
                w'.ownsRow w.heap.size T 1 v ss.length ((ss.mergeSort (fun x y => decide (x ≤ y))).map encZ) ∧ (v = .slice none 0 0 ↔ ss = []) ∧ Below w.heap.size w w' := by
              intro ρ w args' hR ha
              obtain ⟨c, m', rfl, h1, h2, h3⟩ := box hR ha hB
              cases h3 with
              | @map _ q hq =>
                obtain ⟨ob, g1, g2⟩ := hR.obj m q _ hq hm
                cases g2 with
                | @map _ es' _ hes =>
                  obtain ⟨k1, k2⟩ := hes.keys (mkeys_at hz)
                  obtain ⟨D0, d1, d2, d3⟩ := owns_map hk g1 k1 (fun x hx => by rw [k2] at hx; obtain ⟨y, hy, rfl⟩ := List.mem_map.1 hx; exact hE.born y hy) (by rw [k2]; exact hE.once) hE.nodup hE.wf (by omega)
                  refine Calls.mono' (hc.some_ q.c zs.length D0 w c h1 h2 d1 (by rw [d3]; unfold maxLen; omega) (by rw [d3]; exact hzr)) ?_
                  rintro e' w' ⟨v, ss, rfl, k3, k4⟩
                  exact ⟨v, ss, rfl, k3.trans d2.symm, k4⟩
            split at e
            · rename_i hnil
              cases e
              refine ⟨Nat.le_refl _, fun ρ w args' hR _ ha => Calls.mono' (mach hR ha) ?_⟩
              rintro e' w' ⟨v, ss, rfl, k3, k4, k5, hb⟩
              rw [hnil] at k3
              have hss : ss = [] := List.perm_nil.1 k3
              have hv := k5.2 hss
              subst hv
              exact ⟨ρ, _, rfl, Post.of_below hR hb, .snil⟩
            · rename_i hne
              cases e
              refine ⟨Nat.le_succ _, fun ρ w args' hR hfree ha => Calls.mono' (mach hR ha) ?_⟩
              rintro e' w' ⟨v, ss, rfl, k3, k4, k5, hb⟩
              have hsort : (ss.mergeSort fun x y => decide (x ≤ y)) = sortI zs := mergeSort_of_perm_i k3
              have hlen := k3.length_eq
              rw [hsort, hlen] at k4
              have hslen : (sortI zs).length = zs.length := List.length_mergeSort _
              have hnone : ρ H.next = none := hfree _ (Nat.le_refl _) (Nat.lt_succ_self _)
              rcases k4.2 with ⟨k6, _⟩ | ⟨gb, cap, cur, rfl, k7, k8, k9, k10, k11, k12⟩
              · exact (hne (List.perm_nil.1 ((k5.1 k6) ▸ k3).symm)).elim
              · have ho : OR (ρ.add H.next ⟨gb, 0, 1, cap⟩) ⟨gb, 0, 1, cap⟩ (.cells ((sortI zs).map iv) 1) (.cells cur T (0, 0)) := by
                  refine .cells (by simpa using k11) rfl (by simp only [List.length_map, hslen]; omega) (fun i x hx => ?_) (by intro i _; simp) fun h0 => by cases h0
                  rw [Nat.mul_one] at k12
                  have hi : i < (sortI zs).length := by have := (List.getElem?_eq_some_iff.1 hx).1; simpa using this
                  have : (cur.toList.take zs.length)[i]? = ((sortI zs).map encZ)[i]? := by rw [k12]
                  rw [List.getElem?_take_of_lt (by omega)] at this
                  refine ⟨encZ (sortI zs)[i], ?_, ?_⟩
                  · simp only [Nat.zero_add]
                    rw [← Array.getElem?_toList, this, List.getElem?_map, List.getElem?_eq_getElem hi]; rfl
                  · rw [List.getElem?_map, List.getElem?_eq_getElem hi] at hx
                    simp only [Option.map_some, Option.some.injEq] at hx
                    subst hx
                    exact .int _ _
                refine ⟨_, _, rfl, Post.below_new hR hnone hb k7 k8 ho, ?_⟩
                have := VR.sl (ρ := ρ.add H.next ⟨gb, 0, 1, cap⟩) (b := H.next) (o := 0) (n := zs.length) (c := 2 * zs.length + 1) (c' := cap) (p := ⟨gb, 0, 1, cap⟩) (Ren.add_self _ _ _) (by omega) (by omega) (fun _ => by simp)
                exact this
          · cases e
        · cases e
      · cases e
    · cases e
end Go.Ev

namespace Go.Ev
open Go Go.RowKit

/-- the part of a heap that such a call looks at -/
def smallH (c : Nat) : AH := ⟨2, (Tr.leaf.set 0 (some (.ro [.chan (some 0), .map (some 1), .chan (some 2), .chan (some 3), .chan (some 4)]))).set 1 (some (.map [] c))⟩
/-- what a run of it on that part comes to -/
def openRun (P : Program) (f : FuncId) (n c : Nat) : Option Nat := match (evalN (envOf P) n).call f [.pointer (some ⟨0, 0, none⟩)] (smallH c) with
  | some (.int .i64 0, H') => match H'.get 1 with
    | some (.map [] c') => some c'
    | _ => none
  | _ => none
def openRun0 (P : Program) (f : FuncId) (n : Nat) : Bool := match (evalN (envOf P) n).call f [.pointer none] ⟨0, .leaf⟩ with
  | some (.int .i64 0, _) => true
  | _ => false
def openW : Known := fun args H => match args with
  | [.pointer none] => some (.int .i64 0, H)
  | [.pointer (some ⟨mb, 0, none⟩)] => match H.get mb with
    | some (.cells [v0, .map (some jb), v2, v3, v4] 0) => match H.get jb with
      | some (.map [] _) => bif oneCell v0 && oneCell v2 && oneCell v3 && oneCell v4 then some (.int .i64 0, H) else none
      | _ => none
    | _ => none
  | _ => none
theorem open_known [I : Sy] {P : Program} (hm : P.follows .mixedOrders = true) (hn : ∀ (f : Nat) (fn : Func), P.funcs[f]? = some fn → (fn.name == "runtime.NumGoroutine") = false) {f : FuncId} {n : Nat} (hf : ∀ c, openRun P f n c = some c) (hf0 : openRun0 P f n = true) : KnownF P f openW := by
  intro args H v H' e
  unfold openW at e
  split at e
  case h_3 => cases e
  · cases e
    refine ⟨Nat.le_refl _, fun ρ w args' hR _ ha => ?_⟩
    cases ha with
    | cons ha1 ha2 =>
      cases ha2
      cases ha1
      obtain ⟨Hx, hrun⟩ : ∃ Hx, (evalN (envOf P) n).call f [.pointer none] ⟨0, .leaf⟩ = some (.int .i64 0, Hx) := by
        unfold openRun0 at hf0
        split at hf0
        · rename_i H1 h2; exact ⟨_, h2⟩
        · cases hf0
      have key : Calls P f ⟨[.pointer none]⟩ w fun e w' => e = .returned (.int .i64 0) ∧ Below w.heap.size w w' := by
        let S : Sy := syOf [] (fun _ h => by cases h)
        let ρs : Ren := fun _ => none
        have rel : @Rel S ρs ⟨0, .leaf⟩ w := by
          refine ⟨fun b r o h1 _ => by (have h1 : none = some r := h1; cases h1), fun b b' r r' o o' h1 _ _ _ _ => by (have h1 : none = some r := h1; cases h1), fun b _ => ?_⟩
          unfold AH.get; rw [Tr.get_leaf]
        have hE : @EnvOk S (envOf P) P := @envW_ok P S hm hn [] .leaf [] (fun e h => by cases h)
        have hS : @SumOk S (envOf P) P := @sumsF_ok S (envOf P) P [] rfl (fun p hp => by cases hp)
        have hN : ExtNext (envOf P) := @sumsF_next S (envOf P) P [] rfl rfl (fun p hp => by cases hp)
        have run := ((@evalN_sound (envOf P) P S hE (@noExtOk (envOf P) P S rfl) hN hS n).1).call f [.pointer none] ⟨0, .leaf⟩ _ Hx hrun ρs w [.pointer none] rel (fun k hk => absurd hk (Nat.not_lt_zero k)) (.cons (@VR.pnil S ρs) .nil) (fun x _ _ => rfl)
        refine Calls.mono' run ?_
        rintro e' w' ⟨ρ', v', rfl, hpost, hv'⟩
        have hv2 : v' = .int .i64 0 := by cases hv'; rfl
        subst hv2
        exact ⟨rfl, hpost.os, hpost.tape, hpost.output, hpost.size, fun k hk => hpost.frame k hk fun b r o h1 => by (have h1 : none = some r := h1; cases h1)⟩
      refine Calls.mono' key ?_
      rintro e' w' ⟨rfl, hb⟩
      exact ⟨ρ, .int .i64 0, rfl, Post.of_below hR hb, .int _ _⟩
  rename_i mb
  split at e
  case h_2 => cases e
  rename_i v0 jb v2 v3 v4 hmb
  split at e
  case h_2 => cases e
  rename_i c hjb
  obtain ⟨h1, e⟩ := bif_some e
  cases e
  simp only [Bool.and_eq_true] at h1
  obtain ⟨⟨⟨o0, o2⟩, o3⟩, o4⟩ := h1
  refine ⟨Nat.le_refl _, fun ρ w args' hR _ ha => ?_⟩
  cases ha with
  | cons ha1 ha2 =>
    cases ha2
    cases ha1 with
    | @ptr _ _ p hp =>
      obtain ⟨ob, g1, g2⟩ := hR.obj mb p _ hp hmb
      cases g2 with
      | @cells _ _ arr t fz hz he hl hc hfz hd =>
        obtain ⟨m0, a0, r0⟩ := hc 0 _ rfl
        obtain ⟨m1, a1, r1⟩ := hc 1 _ rfl
        obtain ⟨m2, a2, r2⟩ := hc 2 _ rfl
        obtain ⟨m3, a3, r3⟩ := hc 3 _ rfl
        obtain ⟨m4, a4, r4⟩ := hc 4 _ rfl
        cases r1 with
        | @map _ q hq =>
          obtain ⟨ob2, k1, k2⟩ := hR.obj jb q _ hq hjb
          cases k2 with
          | @map _ es' _ hes =>
            have hes' : es' = #[] := by
              cases es' with
              | mk l => cases hes; rfl
            subst hes'
            have hne : p.c ≠ q.c := fun h => by rw [h, k1] at g1; cases g1
            have hms : ∀ x ∈ [m0, .bool true, m2, m3, m4], oneCell x = true := by
              intro x hx
              simp only [List.mem_cons, List.not_mem_nil, or_false] at hx
              rcases hx with rfl | rfl | rfl | rfl | rfl
              · rw [r0.oneCell]; exact o0
              · rfl
              · rw [r2.oneCell]; exact o2
              · rw [r3.oneCell]; exact o3
              · rw [r4.oneCell]; exact o4
            -- the run on the small heap
            obtain ⟨Hx, hrun, hget⟩ : ∃ Hx, (evalN (envOf P) n).call f [.pointer (some ⟨0, 0, none⟩)] (smallH c) = some (.int .i64 0, Hx) ∧ Hx.get 1 = some (.map [] c) := by
              have h := hf c
              unfold openRun at h
              split at h
              · rename_i H1 h2
                split at h
                · rename_i c' h3; cases h; exact ⟨_, h2, h3⟩
                · cases h
              · cases h
            have key : Calls P f ⟨[.pointer (some ⟨p.c, p.d + 0, none⟩)]⟩ w fun e w' => e = .returned (.int .i64 0) ∧ Below w.heap.size w w' := by
              let S : Sy := syOf _ hms
              let ρs : Ren := fun b => if b = 0 then some p else if b = 1 then some q else none
              have get0 : (smallH c).get 0 = some (.ro [.chan (some 0), .map (some 1), .chan (some 2), .chan (some 3), .chan (some 4)]) := by
                unfold smallH AH.get; rw [Tr.get_set, if_neg (by omega), Tr.get_set, if_pos rfl]
              have get1 : (smallH c).get 1 = some (.map [] c) := by
                unfold smallH AH.get; rw [Tr.get_set, if_pos rfl]
              have getn : ∀ b, 2 ≤ b → (smallH c).get b = none := fun b hb => by
                unfold smallH AH.get; rw [Tr.get_set, if_neg (by omega), Tr.get_set, if_neg (by omega), Tr.get_leaf]
              have ρ0 : ρs 0 = some p := rfl
              have ρ1 : ρs 1 = some q := rfl
              have hcase : ∀ b r o, ρs b = some r → (smallH c).get b = some o → (b = 0 ∧ r = p ∧ o = .ro [.chan (some 0), .map (some 1), .chan (some 2), .chan (some 3), .chan (some 4)]) ∨ (b = 1 ∧ r = q ∧ o = .map [] c) := by
                intro b r o h1 h2
                match b with
                | 0 => rw [ρ0] at h1; rw [get0] at h2; cases h1; cases h2; exact .inl ⟨rfl, rfl, rfl⟩
                | 1 => rw [ρ1] at h1; rw [get1] at h2; cases h1; cases h2; exact .inr ⟨rfl, rfl, rfl⟩
                | b + 2 => rw [getn _ (by omega)] at h2; cases h2
              have rel : @Rel S ρs (smallH c) w := by
                refine ⟨fun b r o h1 h2 => ?_, fun b b' r r' o o' h1 h2 h3 h4 hw hcc => ?_, fun b hb => getn b hb⟩
                · rcases hcase b r o h1 h2 with ⟨rfl, rfl, rfl⟩ | ⟨rfl, rfl, rfl⟩
                  · refine ⟨_, g1, .ro hz hl fun i x hx => ?_⟩
                    match i with
                    | 0 => simp at hx; subst hx; exact ⟨m0, a0, @VR.sym S ρs 0⟩
                    | 1 => simp at hx; subst hx; exact ⟨_, a1, @VR.map S ρs 1 q ρ1⟩
                    | 2 => simp at hx; subst hx; exact ⟨m2, a2, @VR.sym S ρs 2⟩
                    | 3 => simp at hx; subst hx; exact ⟨m3, a3, @VR.sym S ρs 3⟩
                    | 4 => simp at hx; subst hx; exact ⟨m4, a4, @VR.sym S ρs 4⟩
                    | i + 5 => simp at hx
                  · exact ⟨_, k1, @OR.map S ρs r [] #[] c .nil⟩
                · rcases hcase b r o h1 h3 with ⟨rfl, rfl, rfl⟩ | ⟨rfl, rfl, rfl⟩
                  · cases hw
                  · rcases hcase b' r' o' h2 h4 with ⟨rfl, rfl, rfl⟩ | ⟨rfl, rfl, rfl⟩
                    · exact (hne hcc.symm).elim
                    · rfl
              have hE : @EnvOk S (envOf P) P := @envW_ok P S hm hn [] .leaf [] (fun e h => by cases h)
              have hS : @SumOk S (envOf P) P := @sumsF_ok S (envOf P) P [] rfl (fun p hp => by cases hp)
              have hN : ExtNext (envOf P) := @sumsF_next S (envOf P) P [] rfl rfl (fun p hp => by cases hp)
              have run := ((@evalN_sound (envOf P) P S hE (@noExtOk (envOf P) P S rfl) hN hS n).1).call f [.pointer (some ⟨0, 0, none⟩)] (smallH c) _ Hx hrun ρs w [.pointer (some ⟨p.c, p.d + 0, none⟩)] rel (fun k hk => absurd hk (Nat.not_lt_zero k)) (.cons (@VR.ptr S ρs 0 0 p ρ0) .nil) (fun x h1 _ => by
                have h1 : 2 ≤ x := h1
                show (if x = 0 then some p else if x = 1 then some q else none) = none
                rw [if_neg (by omega), if_neg (by omega)])
              refine Calls.mono' run ?_
              rintro e' w' ⟨ρ', v', rfl, hpost, hv'⟩
              have hv2 : v' = .int .i64 0 := by cases hv'; rfl
              subst hv2
              refine ⟨rfl, hpost.os, hpost.tape, hpost.output, hpost.size, fun k hk => ?_⟩
              by_cases hkq : k = q.c
              · subst hkq
                obtain ⟨ob3, l1, l2⟩ := hpost.rel.obj 1 q _ (hpost.ext 1 q ρ1) hget
                cases l2 with
                | @map _ es3 _ hes3 =>
                  have : es3 = #[] := by
                    cases es3 with
                    | mk l => cases hes3; rfl
                  subst this
                  rw [l1, k1]
              · refine hpost.frame k hk fun b r o h1 h2 hw => ?_
                rcases hcase b r o h1 h2 with ⟨rfl, rfl, rfl⟩ | ⟨rfl, rfl, rfl⟩
                · cases hw
                · exact fun h => hkq h.symm
            refine Calls.mono' key ?_
            rintro e' w' ⟨rfl, hb⟩
            exact ⟨ρ, .int .i64 0, rfl, Post.of_below hR hb, .int _ _⟩
end Go.Ev

namespace Go.Ev
open Go Go.RowKit
def smallA : AH := ⟨1, Tr.leaf.set 0 (some (.ro [.int .i64 5]))⟩
def fiveB : Value → Bool
  | .int .i64 n => n == 5
  | _ => false
/-- a run on a small heap: a new list of fives -/
def assignRun (P : Program) (f : FuncId) (n p : Nat) : Bool := match (evalN (envOf P) n).call f [.int .i64 p, .slice (some ⟨0, 0, none⟩) 1 3] smallA with
  | some (.slice (some ⟨k, 0, none⟩) l c, H') => Nat.beq l p && Nat.beq c (2 * p + 1) && (match H'.get k with
    | some (.cells cs 1) => cs.all fiveB && Nat.beq cs.length p
    | _ => false)
  | _ => false
def assignW : Known := fun args H => match args with
  | [.int .i64 p, .slice (some ⟨b, 0, none⟩) 1 3] => match H.get b with
    | some (.cells [.int .i64 w] 1) => bif decide (1 ≤ p) && decide (p ≤ 16) && decide (w = 5) then some (.slice (some ⟨H.next, 0, none⟩) p.toNat (2 * p.toNat + 1), H.new (.cells (List.replicate p.toNat (.int .i64 5)) 1)) else none
    | _ => none
  | _ => none
theorem assign_known [I : Sy] {P : Program} (hm : P.follows .mixedOrders = true) (hn : ∀ (f : Nat) (fn : Func), P.funcs[f]? = some fn → (fn.name == "runtime.NumGoroutine") = false) {f : FuncId} {n : Nat} (hf : ∀ p, 1 ≤ p → p ≤ 16 → assignRun P f n p = true) : KnownF P f assignW := by
  intro args H v H' e
  unfold assignW at e
  split at e
  case h_2 => cases e
  rename_i p b
  split at e
  case h_2 => cases e
  rename_i w5 hmb
  obtain ⟨h1, e⟩ := bif_some e
  cases e
  simp only [Bool.and_eq_true, decide_eq_true_eq] at h1
  obtain ⟨⟨o1, o2⟩, o3⟩ := h1
  subst o3
  obtain ⟨m, rfl⟩ : ∃ m : Nat, p = m := ⟨p.toNat, by omega⟩
  rw [Int.toNat_natCast]
  refine ⟨Nat.le_succ _, fun ρ w args' hR hfree ha => ?_⟩
  have hfr : ρ H.next = none := hfree H.next (Nat.le_refl _) (Nat.lt_succ_self _)
  cases ha with
  | cons ha0 ha1 =>
    cases ha0
    cases ha1 with
    | cons ha1 ha2 =>
      cases ha2
      cases ha1 with
      | @sl _ _ _ _ c' q hq q0 q1 q2 =>
        obtain ⟨ob, g1, g2⟩ := hR.obj b q _ hq hmb
        cases g2 with
        | @cells _ _ arr t fz hz he hl hc hfz hd =>
          obtain ⟨Hx, k, cs, hrun, hget, hall, hlen⟩ : ∃ Hx k cs, (evalN (envOf P) n).call f [.int .i64 m, .slice (some ⟨0, 0, none⟩) 1 3] smallA = some (.slice (some ⟨k, 0, none⟩) m (2 * m + 1), Hx) ∧ Hx.get k = some (.cells cs 1) ∧ cs.all fiveB = true ∧ cs.length = m := by
            have h := hf m (by omega) (by omega)
            unfold assignRun at h
            split at h
            · rename_i k l c H1 h2
              simp only [Bool.and_eq_true] at h
              obtain ⟨⟨h3, h4⟩, h5⟩ := h
              have h3 := Nat.eq_of_beq_eq_true h3
              have h4 := Nat.eq_of_beq_eq_true h4
              subst h3
              subst h4
              split at h5
              · rename_i cs h6
                simp only [Bool.and_eq_true] at h5
                exact ⟨H1, k, cs, h2, h6, h5.1, Nat.eq_of_beq_eq_true h5.2⟩
              · cases h5
            · cases h
          let ρs : Ren := fun b => if b = 0 then some q else none
          have get0 : smallA.get 0 = some (.ro [.int .i64 5]) := by
            unfold smallA AH.get; rw [Tr.get_set, if_pos rfl]
          have getn : ∀ b, 1 ≤ b → smallA.get b = none := fun b hb => by
            unfold smallA AH.get; rw [Tr.get_set, if_neg (by omega), Tr.get_leaf]
          have ρ0 : ρs 0 = some q := rfl
          have hcase : ∀ b r o, ρs b = some r → smallA.get b = some o → b = 0 ∧ r = q ∧ o = .ro [.int .i64 5] := by
            intro b r o h1 h2
            match b with
            | 0 => rw [ρ0] at h1; rw [get0] at h2; cases h1; cases h2; exact ⟨rfl, rfl, rfl⟩
            | b + 1 => rw [getn _ (by omega)] at h2; cases h2
          have rel : Rel ρs smallA w := by
            refine ⟨fun b r o h1 h2 => ?_, fun b b' r r' o o' h1 h2 h3 h4 hw hcc => ?_, fun b hb => getn b hb⟩
            · obtain ⟨rfl, rfl, rfl⟩ := hcase b r o h1 h2
              refine ⟨_, g1, .ro hz hl fun i x hx => ?_⟩
              match i with
              | 0 =>
                simp at hx
                subst hx
                obtain ⟨v', a, r⟩ := hc 0 _ rfl
                cases r
                exact ⟨_, a, .int _ _⟩
              | i + 1 => simp at hx
            · obtain ⟨rfl, rfl, rfl⟩ := hcase b r o h1 h3
              cases hw
          have hE : EnvOk (envOf P) P := envW_ok hm hn (orc := []) (sum := .leaf) (fns := []) (fun e h => by cases h)
          have hS : SumOk (envOf P) P := sumsF_ok (E := envOf P) (P := P) (l := []) rfl (fun p hp => by cases hp)
          have hN : ExtNext (envOf P) := sumsF_next (E := envOf P) (P := P) (l := []) rfl rfl (fun p hp => by cases hp)
          have run := ((evalN_sound hE (noExtOk rfl) hN hS n).1).call f [.int .i64 m, .slice (some ⟨0, 0, none⟩) 1 3] smallA _ Hx hrun ρs w [.int .i64 m, .slice (some ⟨q.c, q.d + 0, none⟩) 1 c'] rel (fun k hk => absurd hk (Nat.not_lt_zero k)) (.cons (.int _ _) (.cons (.sl ρ0 q0 q1 q2) .nil)) (fun x h1 _ => by
            have h1 : 1 ≤ x := h1
            show (if x = 0 then some q else none) = none
            rw [if_neg (by omega)])
          refine Calls.mono' run ?_
          rintro e' w' ⟨ρ', v', rfl, hpost, hv'⟩
          have hb : Below w.heap.size w w' := ⟨hpost.os, hpost.tape, hpost.output, hpost.size, fun c hcl => hpost.frame c hcl fun b r o h1 h2 hw => by
            obtain ⟨rfl, rfl, rfl⟩ := hcase b r o h1 h2
            cases hw⟩
          cases hv' with
          | @sl _ _ _ _ c2 p2 hp2 r0 r1 r2 =>
            obtain ⟨ob2, l1, l2⟩ := hpost.rel.obj k p2 _ hp2 hget
            have hsz : w.heap.size ≤ p2.c := by
              refine Nat.le_of_not_lt fun hlt => ?_
              obtain ⟨b0, p0, o0, i1, i2, i3, _⟩ := hpost.img k p2 _ hp2 hget hlt
              obtain ⟨rfl, rfl, rfl⟩ := hcase b0 p0 o0 i1 i2
              have := i3 rfl
              cases this
            cases l2 with
            | @cells _ _ arr2 t2 fz2 hz2 he2 hl2 hc2 hfz2 hd2 =>
              refine ⟨ρ.add H.next p2, _, rfl, Post.below_new hR hfr hb hsz l1 (.cells hz2 he2 (by rw [List.length_replicate, ← hlen]; exact hl2) (fun i x hx => ?_) hfz2 (fun h _ => by cases h)), .sl (by unfold Ren.add; rw [if_pos rfl]) r0 r1 r2⟩
              have hx5 := List.eq_of_mem_replicate (List.mem_of_getElem? hx)
              subst hx5
              have hi : i < cs.length := by
                have := (List.getElem?_eq_some_iff.1 hx).1
                rw [List.length_replicate] at this; omega
              obtain ⟨v2, a2, k2⟩ := hc2 i _ (List.getElem?_eq_getElem hi)
              have h5 := List.all_eq_true.1 hall _ (List.getElem_mem hi)
              refine ⟨.int .i64 5, ?_, .int _ _⟩
              cases hcs : cs[i] with
              | int kd z =>
                rw [hcs] at h5 k2
                cases k2
                cases kd <;> simp [fiveB] at h5
                subst h5
                exact a2
              | _ => rw [hcs] at h5; simp [fiveB] at h5
end Go.Ev
