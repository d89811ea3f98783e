/- What the formulas say is so: regions. What the formulas say is so: statements and calls. Heaps: what stays, what is added, lists of one's own. Lists of one's own, read. -/
import Derived.Test.YthbphkakekdfkaaGreatDoorB1
namespace Go.Ev
open Go
section
variable {E : Env} {H : AH} {F T : Tmps}
structure RdR (E : Env) (f : Nat → AH) (ver : Nat) (Tn : Tmps) (a : Nat × Oper × Tmps) (b : Nat × Oper × Tmps × Nat) : Prop where
  j : a.1 = b.1
  o : a.2.1 = b.2.1
  fits : Fits b.2.2.1 a.2.2
  ver : b.2.2.2 ≤ ver
  val : ∃ u, readAny E a.2.2 (f b.2.2.2) a.2.1.op = some u ∧ ∀ d, a.2.1.dst = some d → Tn.get d = some u
inductive RdsR (E : Env) (f : Nat → AH) (ver : Nat) (Tn : Tmps) : List (Nat × Oper × Tmps) → List (Nat × Oper × Tmps × Nat) → Prop
  | nil : RdsR E f ver Tn [] []
  | cons {a : Nat × Oper × Tmps} {b : Nat × Oper × Tmps × Nat} {l : List (Nat × Oper × Tmps)} {m : List (Nat × Oper × Tmps × Nat)} (h : RdR E f ver Tn a b) (t : RdsR E f ver Tn l m) : RdsR E f ver Tn (a :: l) (b :: m)
structure NR (E : Env) (f : Nat → AH) (T : Tmps) (H : AH) (W : WNotes) (N : Notes) : Prop where
  hist : N.hist = W.hist.map fun q => (q.1, q.2.2)
  heap : ∀ q ∈ W.hist, q.2.2 = f q.2.1 ∧ q.2.1 ≤ W.ver
  cur : f W.ver = H
  reads : RdsR E f W.ver T N.reads W.reads
  at_ : ∀ a ∈ N.reads, ∃ o, a.2.1 = o
theorem RdsR.mono {f f' : Nat → AH} {ver ver' : Nat} {T T' : Tmps} {l : List (Nat × Oper × Tmps)} {m : List (Nat × Oper × Tmps × Nat)} (h : RdsR E f ver T l m) (hv : ver ≤ ver') (hf : ∀ v, v ≤ ver → f' v = f v)
    (hT : ∀ a ∈ l, ∀ d, a.2.1.dst = some d → T'.get d = T.get d) : RdsR E f' ver' T' l m := by
  induction h with
  | nil => exact .nil
  | cons h _ ih =>
    refine .cons ⟨h.j, h.o, h.fits, Nat.le_trans h.ver hv, ?_⟩ (ih fun a ha => hT a (List.mem_cons_of_mem _ ha))
    obtain ⟨u, h1, h2⟩ := h.val
    refine ⟨u, by rw [hf _ h.ver]; exact h1, fun d hd => by rw [hT _ List.mem_cons_self d hd]; exact h2 d hd⟩
end
end Go.Ev
namespace Go.Ev
open Go
section
variable {E : Env} {H : AH} {F T : Tmps}
/-! ### What a statement leaves of the temporaries -/
structure But (l : List Tmp) (T T' : Tmps) : Prop where
  n : T'.n = T.n
  g : T'.g = T.g
  get : ∀ i, i ∉ l → T'.get i = T.get i
theorem But.refl (l : List Tmp) (T : Tmps) : But l T T := ⟨rfl, rfl, fun _ _ => rfl⟩
theorem But.trans {l : List Tmp} {T T1 T2 : Tmps} (h : But l T T1) (k : But l T1 T2) : But l T T2 := ⟨k.n.trans h.n, k.g.trans h.g, fun i hi => (k.get i hi).trans (h.get i hi)⟩
theorem But.le {l m : List Tmp} {T T1 : Tmps} (h : But l T T1) (hm : ∀ i, i ∈ l → i ∈ m) : But m T T1 := ⟨h.n, h.g, fun i hi => h.get i fun e => hi (hm i e)⟩
/-! ### Kinds of values -/
theorem ckVs_append : ∀ {a b : List Value} {ca cb : List CK}, ckVs a = some ca → ckVs b = some cb → ckVs (a ++ b) = some (ca ++ cb)
  | [], b, ca, cb, ha, hb => by simp only [ckVs, Option.some.injEq] at ha; subst ha; exact hb
  | v :: a, b, ca, cb, ha, hb => by
    unfold ckVs at ha
    split at ha
    · rename_i k hk
      split at ha
      · rename_i ks hks
        simp only [Option.some.injEq] at ha
        subst ha
        simp only [List.cons_append, ckVs, hk, ckVs_append hks hb]
      · cases ha
    · cases ha
theorem ckVs_length : ∀ {a : List Value} {ca : List CK}, ckVs a = some ca → ca.length = a.length
  | [], ca, ha => by simp only [ckVs, Option.some.injEq] at ha; subst ha; rfl
  | v :: a, ca, ha => by
    unfold ckVs at ha
    split at ha
    · split at ha
      · rename_i ks hks
        simp only [Option.some.injEq] at ha
        subst ha
        simp [ckVs_length hks]
      · cases ha
    · cases ha
inductive ShR : List Sh → List Value → Prop
  | nil : ShR [] []
  | one {k : CK} {v : Value} {ss : List Sh} {vs : List Value} (h : ckV v = some k) (t : ShR ss vs) : ShR (.one k :: ss) (v :: vs)
  | agg {ks : List CK} {l : List Value} {ss : List Sh} {vs : List Value} (h : ckVs l = some ks) (t : ShR ss vs) : ShR (.agg ks :: ss) (.agg ⟨l⟩ :: vs)
theorem ShR.flat {ss : List Sh} {vs : List Value} (h : ShR ss vs) : ckVs (flatV vs) = some (flatSh ss) ∧ foldV ss (flatV vs) = vs := by
  induction h with
  | nil => exact ⟨rfl, rfl⟩
  | @one k v ss vs h _ ih =>
    have hc : cellsOf v = [v] := by cases v <;> first | rfl | (simp [ckV] at h)
    constructor
    · simp only [flatV, flatSh, Sh.cks]
      exact ckVs_append (by rw [hc]; simp only [ckVs, h]) ih.1
    · simp only [flatV, hc, List.cons_append, List.nil_append, foldV, ih.2]
  | @agg ks l ss vs h _ ih =>
    constructor
    · simp only [flatV, flatSh, Sh.cks, cellsOf]
      exact ckVs_append h ih.1
    · simp only [flatV, cellsOf, foldV]
      rw [ckVs_length h, List.take_left, List.drop_left, ih.2]
/-! ### Statements -/
def KX (K : KS) : Xt → Tmps → AH → Prop
  | .normal => K.nxt
  | .exit i => K.ext i
  | .ret => K.ret
def CSd (E : Env) (c : Code) (T : Tmps) (H : AH) (K : KS) : Prop := ∃ n x T' H' F', (evalN E n).code c T H = some (x, T', H') ∧ Fits F' T' ∧ KX K x F' H'
theorem CSd.step {c : Code} {K : KS} {n : Nat} {x : Xt} {T' F' : Tmps} {H' : AH} (e : stepCode E (evalN E n) c T H = some (x, T', H')) (hF : Fits F' T') (hk : KX K x F' H') : CSd E c T H K := ⟨n + 1, x, T', H', F', e, hF, hk⟩
/-! ### Calls -/
end
end Go.Ev
namespace Go.Ev
open Go
def Ok (H : AH) : Prop := ∀ b, H.next ≤ b → H.get b = none
theorem Ok.lt {H : AH} (h : Ok H) {b : Nat} {o : AObj} (e : H.get b = some o) : b < H.next := by
  rcases Nat.lt_or_ge b H.next with h1 | h1
  · exact h1
  · rw [h b h1] at e; cases e
theorem Ok.new {H : AH} (h : Ok H) (o : AObj) : Ok (H.new o) := by
  intro b hb
  have hb : H.next + 1 ≤ b := hb
  rw [AH.get_new, if_neg (by omega)]; exact h b (by omega)
theorem Ok.set {H : AH} (h : Ok H) {b : Nat} {o o' : AObj} (e : H.get b = some o) : Ok (H.set b o') := by
  intro c hc
  have hc : H.next ≤ c := hc
  rw [AH.get_set, if_neg]
  · exact h c hc
  · intro e2; subst e2; rw [h _ hc] at e; cases e
theorem Ok.kill {H : AH} (h : Ok H) (b : Nat) : Ok (H.kill b) := by
  intro c hc
  rw [AH.get_kill]; split
  · rfl
  · exact h c hc
@[simp] theorem AH.new_next (H : AH) (o : AObj) : (H.new o).next = H.next + 1 := rfl
@[simp] theorem AH.set_next (H : AH) (b : Nat) (o : AObj) : (H.set b o).next = H.next := rfl
@[simp] theorem AH.kill_next (H : AH) (b : Nat) : (H.kill b).next = H.next := rfl
structure Mod (S : Nat → Prop) (H H' : AH) : Prop where
  ok : Ok H'
  next : H.next ≤ H'.next
  get : ∀ b o, ¬ S b → H.get b = some o → H'.get b = some o
abbrev Grow (H H' : AH) : Prop := Mod (fun _ => False) H H'
theorem Mod.refl {S : Nat → Prop} {H : AH} (h : Ok H) : Mod S H H := ⟨h, Nat.le_refl _, fun _ _ _ e => e⟩
theorem Mod.trans {S : Nat → Prop} {H H1 H2 : AH} (h : Mod S H H1) (k : Mod S H1 H2) : Mod S H H2 := ⟨k.ok, Nat.le_trans h.next k.next, fun b o hs e => k.get b o hs (h.get b o hs e)⟩
theorem Mod.le {S S' : Nat → Prop} {H H' : AH} (h : Mod S H H') (k : ∀ b, S b → b < H.next → S' b) (ok : Ok H) : Mod S' H H' :=
  ⟨h.ok, h.next, fun b o hs e => h.get b o (fun hb => hs (k b hb (ok.lt e))) e⟩
theorem Mod.then {S : Nat → Prop} {H H1 H2 : AH} (h : Grow H H1) (k : Mod S H1 H2) (ok : Ok H) (hs : ∀ b, S b → H.next ≤ b) : Grow H H2 :=
  ⟨k.ok, Nat.le_trans h.next k.next, fun b o _ e => k.get b o (fun hb => by have := hs b hb; have := ok.lt e; omega) (h.get b o id e)⟩
theorem Mod.ext {S S' : Nat → Prop} {H H1 H2 : AH} (h : Mod S H H1) (k : Mod S' H1 H2) (ok : Ok H) (hs : ∀ b, S' b → S b ∨ H.next ≤ b) : Mod S H H2 :=
  ⟨k.ok, Nat.le_trans h.next k.next, fun b o hb e => k.get b o (fun h' => by rcases hs b h' with h2 | h2; exact hb h2; have := ok.lt e; omega) (h.get b o hb e)⟩
theorem Mod.add {S : Nat → Prop} {H H1 H2 : AH} (h : Mod S H H1) (k : Grow H1 H2) : Mod S H H2 :=
  ⟨k.ok, Nat.le_trans h.next k.next, fun b o hb e => k.get b o id (h.get b o hb e)⟩
theorem Grow.new {H : AH} (h : Ok H) (o : AObj) : Grow H (H.new o) :=
  ⟨h.new o, by simp, fun b o' _ e => by rw [AH.get_new, if_neg]; exact e; have := h.lt e; omega⟩
theorem Mod.set {H : AH} (h : Ok H) {b : Nat} {o : AObj} (e : H.get b = some o) (o' : AObj) : Mod (· = b) H (H.set b o') :=
  ⟨h.set e, Nat.le_refl _, fun c o2 hc e2 => by rw [AH.get_set, if_neg hc]; exact e2⟩
theorem get_new_self (H : AH) (o : AObj) : (H.new o).get H.next = some o := by rw [AH.get_new, if_pos rfl]
theorem rd_of {H : AH} {b : Nat} {cs : List Value} {es : Nat} (h : H.get b = some (.cells cs es)) : H.rd b = some cs := by unfold AH.rd; rw [h]
theorem cell_of {H : AH} {b o : Nat} {cs : List Value} {es : Nat} {v : Value} (h : H.get b = some (.cells cs es)) (e : cs[o]? = some v) : H.cell b o = some v := by unfold AH.cell; rw [rd_of h]; exact e
theorem Mod.rd {S : Nat → Prop} {H H' : AH} (h : Mod S H H') {b : Nat} (hs : ¬ S b) {cs : List Value} (e : H.rd b = some cs) : H'.rd b = some cs := by
  unfold AH.rd at e ⊢
  split at e
  · rename_i hg; rw [h.get b _ hs hg]; exact e
  · rename_i hg; rw [h.get b _ hs hg]; exact e
  · cases e
theorem Mod.cell {S : Nat → Prop} {H H' : AH} (h : Mod S H H') {b o : Nat} (hs : ¬ S b) {v : Value} (e : H.cell b o = some v) : H'.cell b o = some v := by
  obtain ⟨cs, h1, h2⟩ := AH.cell_some e
  unfold AH.cell; rw [h.rd hs h1]; exact h2
/-! ### Numbers -/
def I64 (x : Int) : Prop := -9223372036854775808 ≤ x ∧ x ≤ 9223372036854775807
/-! ### Lists that are read -/
structure Sl {α : Type} (F : Nat → Prop) (H : AH) (sz : Nat) (P : AH → Nat → Nat → α → Prop) (a : Option Addr) (l : Nat) (xs : List α) : Prop where
  len : l = xs.length
  base : 0 < l → a.isSome = true ∧ F (adr a).block
  cells : ∀ (i : Nat) (h : i < xs.length), P H (adr a).block ((adr a).off + i * sz) xs[i]
section
variable {α : Type} {F : Nat → Prop} {H H' : AH} {sz : Nat} {P : AH → Nat → Nat → α → Prop} {a : Option Addr} {l : Nat} {xs : List α}
theorem Sl.get (h : Sl F H sz P a l xs) {i : Int} (h0 : 0 ≤ i) (h1 : i < ((l : Nat) : Int)) : a.isSome = true ∧ ∃ hk : i.toNat < xs.length, P H (adr a).block ((adr a).off + i.toNat * sz) xs[i.toNat] := by
  have := h.len
  exact ⟨(h.base (by omega)).1, by omega, h.cells _ _⟩
end
/-! ### Lists of one's own, that grow -/
structure Own (H : AH) (sz : Nat) (a : Option Addr) (l c : Nat) (cs : List Value) : Prop where
  len : cs.length = l * sz
  one : cs.all oneCell = true
  st : (a = none ∧ l = 0 ∧ c = 0) ∨ (∃ b, a = some ⟨b, 0, none⟩ ∧ l = 0 ∧ c = 0 ∧ H.get b = some (.cells [] 0)) ∨ (∃ b, a = some ⟨b, 0, none⟩ ∧ c = 2 * l + 1 ∧ H.get b = some (.cells cs sz))
def Off (a : Option Addr) (b : Nat) : Prop := ∀ x, a = some x → x.block ≠ b
theorem Own.nil (H : AH) (sz : Nat) : Own H sz none 0 0 [] := ⟨by simp, rfl, .inl ⟨rfl, rfl, rfl⟩⟩
theorem Own.empty {H : AH} (sz : Nat) {b : Nat} (h : H.get b = some (.cells [] 0)) : Own H sz (some ⟨b, 0, none⟩) 0 0 [] := ⟨by simp, rfl, .inr (.inl ⟨b, rfl, rfl, rfl, h⟩)⟩
theorem Own.append {H : AH} {sz bytes l c n : Nat} {a : Option Addr} {cs new : List Value} {x : Value} (h : Own H sz a l c cs) (ok : Ok H) (hn : lenOfv x = some n) (hx : takev H sz n x = some new) (hpos : 0 < n)
    (hl : new.length = n * sz) (h1 : new.all oneCell = true) (hb : (l + n) * bytes ≤ 140737488355328) (hb2 : l + n ≤ 140737488355328) :
    ∃ H', apnd H sz bytes a l c x = some (.slice (some ⟨H.next, 0, none⟩) (l + n) (2 * (l + n) + 1), H') ∧ Own H' sz (some ⟨H.next, 0, none⟩) (l + n) (2 * (l + n) + 1) (cs ++ new) ∧ H'.next = H.next + 1 ∧
      Mod (fun b => ¬ Off a b) H H' := by
  have hnb : Nat.beq n 0 = false := by
    cases hq : Nat.beq n 0 with
    | false => rfl
    | true => have := Nat.eq_of_beq_eq_true hq; omega
  have own : ∀ {H1 : AH}, H1.next = H.next → Own (H1.new (.cells (cs ++ new) sz)) sz (some ⟨H.next, 0, none⟩) (l + n) (2 * (l + n) + 1) (cs ++ new) := by
    intro H1 e
    refine ⟨by simp [h.len, hl, Nat.add_mul], by simp only [List.all_append, h.one, h1, Bool.and_self], .inr (.inr ⟨H.next, rfl, rfl, ?_⟩)⟩
    rw [← e]; exact get_new_self _ _
  rcases h.st with ⟨rfl, rfl, rfl⟩ | ⟨b, rfl, rfl, rfl, hg⟩ | ⟨b, rfl, rfl, hg⟩
  · have hcs : cs = [] := List.length_eq_zero_iff.1 (by simpa using h.len)
    subst hcs
    refine ⟨H.new (.cells new sz), ?_, ?_, rfl, ?_⟩
    · rw [Nat.zero_add] at hb hb2
      unfold apnd
      simp only [hn, hx, hnb, cond_false, Nat.zero_add, Nat.ble_eq_true_of_le hb, Nat.ble_eq_true_of_le hb2, Bool.and_self, cond_true, Nat.beq_refl, growv]
    · simpa using own rfl
    · exact (Grow.new ok _).le (fun _ h _ => h.elim) ok
  · have hcs : cs = [] := List.length_eq_zero_iff.1 (by simpa using h.len)
    subst hcs
    refine ⟨H.new (.cells new sz), ?_, ?_, rfl, ?_⟩
    · rw [Nat.zero_add] at hb hb2
      unfold apnd
      have this : Nat.ble n (capN 0) = false := by
        cases hq : Nat.ble n (capN 0) with
        | false => rfl
        | true => have := Nat.le_of_ble_eq_true hq; simp [capN] at this; omega
      simp only [hn, hx, hnb, cond_false, Nat.zero_add, Nat.ble_eq_true_of_le hb, Nat.ble_eq_true_of_le hb2, Bool.and_self, cond_true, this, hg, h1, growv, Nat.zero_mul, List.take_zero, List.nil_append]
      rfl
    · simpa using own rfl
    · exact (Grow.new ok _).le (fun _ h _ => h.elim) ok
  · refine ⟨(H.kill b).new (.cells (cs ++ new) sz), ?_, own rfl, rfl, ?_⟩
    · unfold apnd
      simp only [hn, hx, hnb, cond_false, Nat.ble_eq_true_of_le hb, Nat.ble_eq_true_of_le hb2, Bool.and_self, cond_true]
      have h2 : Nat.ble (l + n) (capN (2 * l + 1)) = false := by
        cases hq : Nat.ble (l + n) (capN (2 * l + 1)) with
        | false => rfl
        | true => have := Nat.le_of_ble_eq_true hq; simp [capN] at this; omega
      have h3 : Nat.beq ((2 * l + 1) % 2) 0 = false := by
        have : (2 * l + 1) % 2 = 1 := by omega
        rw [this]; rfl
      have h4 : Nat.ble (0 + l * sz) cs.length = true := Nat.ble_eq_true_of_le (by rw [h.len]; omega)
      have h5 : (cs.drop 0).take (l * sz) = cs := by simp [← h.len]
      simp only [h2, cond_false, hg, h4, h1, Bool.and_self, cond_true, h3, Nat.beq_refl, h5, growv, AH.kill_next]
    · refine ⟨(ok.kill b).new _, by simp, fun c o hc e => ?_⟩
      have hne : c ≠ b := by
        intro e2; subst e2
        exact hc fun hoff => hoff _ rfl rfl
      have hlt := ok.lt e
      rw [AH.get_new, if_neg (by simp; omega), AH.get_kill, if_neg hne]; exact e
end Go.Ev
namespace Go.Ev
open Go
theorem flatMap_get {α β : Type} {f : α → List β} {sz : Nat} (hf : ∀ x, (f x).length = sz) : ∀ {xs : List α} {i j : Nat} (hi : i < xs.length) (_ : j < sz), (xs.flatMap f)[i * sz + j]? = (f xs[i])[j]?
  | [], _, _, hi, _ => by simp at hi
  | x :: xs, 0, j, _, hj => by
    simp only [List.flatMap_cons, Nat.zero_mul, Nat.zero_add, List.getElem_cons_zero]
    rw [List.getElem?_append_left (by rw [hf]; exact hj)]
  | x :: xs, i + 1, j, hi, hj => by
    simp only [List.flatMap_cons, List.getElem_cons_succ]
    rw [List.getElem?_append_right (by rw [hf, Nat.add_mul]; omega), hf]
    rw [show (i + 1) * sz + j - sz = i * sz + j from by rw [Nat.add_mul]; omega]
    exact flatMap_get hf (by simpa using hi) hj
theorem flatMap_len {α β : Type} {f : α → List β} {sz : Nat} (hf : ∀ x, (f x).length = sz) : ∀ (xs : List α), (xs.flatMap f).length = xs.length * sz
  | [] => by simp
  | x :: xs => by simp only [List.flatMap_cons, List.length_append, hf, flatMap_len hf xs, List.length_cons, Nat.add_mul]; omega
theorem Own.cell {H : AH} {sz l c : Nat} {a : Option Addr} {cs : List Value} (h : Own H sz a l c cs) {i : Nat} {v : Value} (e : cs[i]? = some v) : a.isSome = true ∧ (adr a).off = 0 ∧ H.cell (adr a).block i = some v := by
  rcases h.st with ⟨rfl, rfl, rfl⟩ | ⟨b, rfl, rfl, rfl, hg⟩ | ⟨b, rfl, rfl, hg⟩
  · have : cs = [] := List.length_eq_zero_iff.1 (by simpa using h.len)
    subst this; simp at e
  · have : cs = [] := List.length_eq_zero_iff.1 (by simpa using h.len)
    subst this; simp at e
  · exact ⟨rfl, rfl, cell_of hg e⟩
theorem Own.sl {α : Type} {F : Nat → Prop} {H : AH} {sz l c : Nat} {a : Option Addr} {xs : List α} {f : α → List Value} {P : AH → Nat → Nat → α → Prop} (hf : ∀ x, (f x).length = sz) (h0 : 0 < sz) (h : Own H sz a l c (xs.flatMap f))
    (hF : ∀ x, a = some x → F x.block) (hP : ∀ b o i (hi : i < xs.length), (∀ j v, (f xs[i])[j]? = some v → H.cell b (o + j) = some v) → P H b o xs[i]) : Sl F H sz P a l xs := by
  have hl : l = xs.length := by
    have := h.len
    rw [flatMap_len hf] at this
    exact (Nat.eq_of_mul_eq_mul_right h0 this).symm
  refine ⟨hl, fun hp => ?_, fun i hi => ?_⟩
  · have hx : 0 < xs.length := by omega
    have hv : ∃ v, (f xs[0])[0]? = some v := ⟨_, List.getElem?_eq_getElem (by rw [hf]; exact h0)⟩
    obtain ⟨v, hv⟩ := hv
    have := flatMap_get (i := 0) (j := 0) hf hx h0
    rw [hv] at this
    obtain ⟨g1, _, _⟩ := h.cell this
    refine ⟨g1, ?_⟩
    cases a with
    | none => cases g1
    | some x => exact hF x rfl
  · refine hP _ _ i hi fun j v hv => ?_
    have hj : j < sz := by
      have := (List.getElem?_eq_some_iff.1 hv).1
      rw [hf] at this; exact this
    have := flatMap_get (i := i) (j := j) hf hi hj
    rw [hv] at this
    obtain ⟨_, g2, g3⟩ := h.cell this
    rw [g2, Nat.zero_add]; exact g3
theorem Sl.map {α β : Type} {F : Nat → Prop} {H : AH} {sz : Nat} {P : AH → Nat → Nat → β → Prop} {a : Option Addr} {l : Nat} {xs : List α} (g : α → β) (h : Sl F H sz (fun H b o x => P H b o (g x)) a l xs) : Sl F H sz P a l (xs.map g) :=
  ⟨by rw [List.length_map]; exact h.len, h.base, fun i hi => by rw [List.getElem_map]; exact h.cells i (by simpa using hi)⟩
end Go.Ev
