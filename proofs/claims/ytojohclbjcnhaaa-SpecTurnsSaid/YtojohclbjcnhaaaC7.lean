/- Ranks and labels: the plain law. spec.Ranks. spec.common, spec.Labels. -/
import Derived.Test.YtojohclbjcnhaaaC4
import Derived.Test.YtojohclbjcnhaaaVc4
import Derived.Test.YtojohclbjcnhaaaC6
namespace Go.Ev
open Go
/-- where the edges of a vertex lead, in order -/
def orow (G : List Vtx) (k : Nat) : List Nat := match G[k]? with
  | some v => v.edges.map fun e => fnd G e.1
  | none => []
theorem orow_eq {G : List Vtx} {k : Nat} (h : k < G.length) : orow G k = G[k].edges.map fun e => fnd G e.1 := by
  unfold orow; rw [List.getElem?_eq_getElem h]
theorem filter_flat {G : List Vtx} (hr : Rising G) {i : Nat} (hi : i < G.length) : (flatE G).filter (fun x => fnd G x.1 == i) = G[i].edges.map fun e => (G[i].id, e) := by
  have key : ∀ (l : List Vtx), (∀ v ∈ l, fnd G v.id ≠ i) → (l.flatMap fun v => v.edges.map fun e => (v.id, e)).filter (fun x => fnd G x.1 == i) = [] := by
    intro l hl
    rw [List.filter_eq_nil_iff]
    intro x hx
    obtain ⟨v, hv, hx⟩ := List.mem_flatMap.1 hx
    obtain ⟨e, _, rfl⟩ := List.mem_map.1 hx
    simpa using hl v hv
  have split : G = G.take i ++ G[i] :: G.drop (i + 1) := by
    rw [← List.drop_eq_getElem_cons hi, List.take_append_drop]
  have e1 : flatE G = ((G.take i).flatMap fun v => v.edges.map fun e => (v.id, e)) ++ ((G[i].edges.map fun e => (G[i].id, e)) ++ ((G.drop (i + 1)).flatMap fun v => v.edges.map fun e => (v.id, e))) := by
    show (G.flatMap fun v => v.edges.map fun e => (v.id, e)) = _
    conv => lhs; rw [split]
    rw [List.flatMap_append, List.flatMap_cons]
  rw [e1, List.filter_append, List.filter_append, key (G.take i), key (G.drop (i + 1)), List.nil_append, List.append_nil]
  · rw [List.filter_eq_self]
    intro x hx
    obtain ⟨e, _, rfl⟩ := List.mem_map.1 hx
    simpa using fnd_self hr hi
  · intro v hv
    obtain ⟨k, hk, rfl⟩ := List.mem_iff_getElem.1 hv
    rw [List.length_drop] at hk
    rw [List.getElem_drop, fnd_self hr]
    omega
  · intro v hv
    obtain ⟨k, hk, rfl⟩ := List.mem_iff_getElem.1 hv
    rw [List.length_take] at hk
    rw [List.getElem_take, fnd_self hr]
    omega
theorem outs_eq {G : List Vtx} (hM : May G) {i : Nat} (hi : i < G.length) (h : i < (outs G).length) : (outs G)[i] = nats (orow G i) := by
  simp only [outs, List.getElem_map, List.getElem_range, rawOut]
  rw [filter_flat hM.steps.rising hi, orow_eq hi, nats, List.map_map, List.map_map]
  rfl
theorem orow_lt {G : List Vtx} (hM : May G) {k : Nat} {x : Nat} (hx : x ∈ orow G k) : x < G.length := by
  by_cases hk : k < G.length
  · rw [orow_eq hk] at hx
    obtain ⟨e, he, rfl⟩ := List.mem_map.1 hx
    obtain ⟨j, hj, rfl⟩ := List.mem_iff_getElem.1 he
    exact (isIn_spec (hM.edges k j hk hj).1).1
  · unfold orow at hx
    rw [List.getElem?_eq_none (by omega)] at hx
    simp at hx
theorem orow_len {G : List Vtx} (hM : May G) (k : Nat) : (orow G k).length ≤ 2048 := by
  by_cases hk : k < G.length
  · rw [orow_eq hk, List.length_map]
    have h2 := nE_take hk
    have h3 := nE_take_le G (k + 1)
    have := hM.many
    omega
  · unfold orow
    rw [List.getElem?_eq_none (by omega)]
    simp
def cO (G : List Vtx) (k j : Nat) : Nat := (orow G k).count j
/-- to lead to a place is to lead to the number that stands there -/
theorem fnd_iff {G : List Vtx} (hM : May G) {k e j : Nat} (hk : k < G.length) (he : e < G[k].edges.length) (hj : j < G.length) : fnd G G[k].edges[e].1 = j ↔ G[k].edges[e].1 = G[j].id := by
  obtain ⟨h1, h2⟩ := isIn_spec (hM.edges k e hk he).1
  constructor
  · intro h; subst h; exact h2.symm
  · intro h; rw [h]; exact fnd_self hM.steps.rising hj

/-! sums -/
theorem smTo_add {f g : Nat → Nat} : ∀ {n : Nat}, smTo (fun i => f i + g i) n = smTo f n + smTo g n
  | 0 => rfl
  | n + 1 => by simp only [smTo]; rw [smTo_add]; omega
theorem smTo_zero : ∀ {n : Nat}, smTo (fun _ => 0) n = 0
  | 0 => rfl
  | n + 1 => by simp only [smTo]; rw [smTo_zero]
theorem smTo_const {c : Nat} : ∀ {n : Nat}, smTo (fun _ => c) n = n * c
  | 0 => by simp [smTo]
  | n + 1 => by simp only [smTo]; rw [smTo_const, Nat.add_mul]; omega
theorem smTo_mul {f : Nat → Nat} {c : Nat} : ∀ {n : Nat}, smTo (fun i => f i * c) n = smTo f n * c
  | 0 => by simp [smTo]
  | n + 1 => by simp only [smTo]; rw [smTo_mul, Nat.add_mul]
theorem smTo_mono {f g : Nat → Nat} : ∀ {n : Nat}, (∀ i, i < n → f i ≤ g i) → smTo f n ≤ smTo g n
  | 0, _ => Nat.le_refl _
  | n + 1, h => by
    have := smTo_mono (n := n) fun i hi => h i (by omega)
    have := h n (by omega)
    simp only [smTo]; omega
theorem smTo_swap {f : Nat → Nat → Nat} {m : Nat} : ∀ {n : Nat}, smTo (fun i => smTo (f i) m) n = smTo (fun j => smTo (fun i => f i j) n) m
  | 0 => by simp only [smTo]; exact smTo_zero.symm
  | n + 1 => by
    simp only [smTo]
    rw [smTo_swap, ← smTo_add]
theorem smTo_le_at {f : Nat → Nat} {j : Nat} : ∀ {n : Nat}, j < n → f j ≤ smTo f n
  | 0, h => by omega
  | n + 1, h => by
    simp only [smTo]
    rcases Nat.lt_or_ge j n with h1 | h1
    · have := smTo_le_at (f := f) h1; omega
    · have : j = n := by omega
      subst this; omega
theorem smTo_le_part {f : Nat → Nat} {p : Nat} : ∀ {n : Nat}, p ≤ n → smTo f p ≤ smTo f n
  | 0, h => by
    have : p = 0 := by omega
    subst this; exact Nat.le_refl _
  | n + 1, h => by
    rcases Nat.lt_or_ge p (n + 1) with h1 | h1
    · have := smTo_le_part (f := f) (p := p) (n := n) (by omega)
      simp only [smTo]; omega
    · have : p = n + 1 := by omega
      subst this; exact Nat.le_refl _
theorem count_sum (n : Nat) : ∀ (l : List Nat), smTo (fun j => l.count j) n ≤ l.length
  | [] => by simp only [List.count_nil]; rw [smTo_zero]; exact Nat.zero_le _
  | x :: l => by
    have ih := count_sum n l
    have e : (fun j => (x :: l).count j) = fun j => l.count j + if x = j then 1 else 0 := by
      funext j
      rw [List.count_cons]
      simp
    rw [e, smTo_add]
    have h1 : smTo (fun j => if x = j then 1 else 0) n ≤ 1 := by
      have key : ∀ m, smTo (fun j => if x = j then 1 else 0) m = if x < m then 1 else 0 := by
        intro m
        induction m with
        | zero => rfl
        | succ m ih =>
          simp only [smTo]
          rw [ih]
          by_cases h : x < m
          · rw [if_pos h, if_neg (by omega), if_pos (by omega)]
          · rw [if_neg h]
            by_cases h2 : x = m
            · rw [if_pos h2, if_pos (by omega)]
            · rw [if_neg h2, if_neg (by omega)]
      rw [key]; split <;> omega
    rw [List.length_cons]; omega

/-! ranks -/
def rin (G : List Vtx) (now : Nat → Nat) (j : Nat) : Nat := smTo (fun k => cO G k j * (now k / (orow G k).length)) G.length
def rnext (G : List Vtx) (now : Nat → Nat) (j : Nat) : Nat := 150000 / G.length + rin G now j * 85 / 100
def ranks (G : List Vtx) : Nat → Nat → Nat
  | 0 => fun _ => 1000000 / G.length
  | t + 1 => rnext G (ranks G t)
theorem rin_sum (G : List Vtx) (now : Nat → Nat) : smTo (rin G now) G.length ≤ smTo now G.length := by
  unfold rin
  rw [smTo_swap]
  refine smTo_mono fun k _ => ?_
  rw [smTo_mul]
  have h1 := count_sum G.length (orow G k)
  have h2 := Nat.mul_le_mul_right (now k / (orow G k).length) h1
  have h3 := Nat.mul_div_le (now k) (orow G k).length
  unfold cO
  omega
theorem div_sum {f : Nat → Nat} : ∀ {n : Nat}, smTo (fun j => f j * 85 / 100) n ≤ smTo f n * 85 / 100
  | 0 => by simp [smTo]
  | n + 1 => by
    have := div_sum (f := f) (n := n)
    simp only [smTo]
    rw [Nat.add_mul]; omega
theorem ranks_sum (G : List Vtx) : ∀ t, smTo (ranks G t) G.length ≤ 1000000
  | 0 => by
    show smTo (fun _ => 1000000 / G.length) G.length ≤ 1000000
    rw [smTo_const]
    exact Nat.mul_div_le _ _
  | t + 1 => by
    have ih := ranks_sum G t
    have h1 := rin_sum G (ranks G t)
    show smTo (fun j => 150000 / G.length + rin G (ranks G t) j * 85 / 100) G.length ≤ 1000000
    rw [smTo_add, smTo_const]
    have h2 := Nat.mul_div_le 150000 G.length
    have h3 := div_sum (f := rin G (ranks G t)) (n := G.length)
    have h4 : smTo (rin G (ranks G t)) G.length * 85 / 100 ≤ 850000 := by omega
    omega
theorem ranks_le (G : List Vtx) (t : Nat) {j : Nat} (hj : j < G.length) : ranks G t j ≤ 1000000 := by
  have := smTo_le_at (f := ranks G t) hj
  have := ranks_sum G t
  omega
theorem rin_le (G : List Vtx) (t : Nat) {j : Nat} (hj : j < G.length) : rin G (ranks G t) j ≤ 1000000 := by
  have h1 := smTo_le_at (f := rin G (ranks G t)) hj
  have h2 := rin_sum G (ranks G t)
  have := ranks_sum G t
  omega

/-! labels -/
/-- what comes to a vertex -/
def lin (G : List Vtx) (now : Nat → Int) (p j : Nat) : List Int := (List.range p).flatMap fun k => List.replicate (cO G k j) (now k)
theorem lin_succ (G : List Vtx) (now : Nat → Int) (p j : Nat) : lin G now (p + 1) j = lin G now p j ++ List.replicate (cO G p j) (now p) := by
  unfold lin
  rw [List.range_succ, List.flatMap_append, List.flatMap_singleton]
theorem lin_len (G : List Vtx) (now : Nat → Int) : ∀ (p j : Nat), (lin G now p j).length = smTo (fun k => cO G k j) p
  | 0, _ => rfl
  | p + 1, j => by
    rw [lin_succ, List.length_append, lin_len G now p j, List.length_replicate]; rfl
theorem lin_le {G : List Vtx} (hM : May G) (now : Nat → Int) {p : Nat} (hp : p ≤ G.length) (j : Nat) : (lin G now p j).length ≤ 2048 := by
  rw [lin_len]
  have h0 : smTo (fun k => cO G k j) p ≤ smTo (fun k => (orow G k).length) p := smTo_mono fun k _ => List.count_le_length
  have h1 : ∀ p, p ≤ G.length → smTo (fun k => (orow G k).length) p = nE (G.take p) := by
    intro p
    induction p with
    | zero => intro _; rfl
    | succ p ih =>
      intro hp
      simp only [smTo]
      rw [ih (by omega), orow_eq (by omega), List.length_map]
      have := nE_take (G := G) (k := p) (by omega)
      omega
  have h2 := h1 p hp
  have h3 := nE_take_le G p
  have := hM.many
  omega
/-- the number that stands in a list most often, the least of several -/
structure IsMode (l : List Int) (x : Int) (m : Nat) : Prop where
  mem : x ∈ l
  cnt : l.count x = m
  best : ∀ y ∈ l, l.count y < m ∨ (l.count y = m ∧ x ≤ y)
theorem IsMode.unique {l l' : List Int} {x y : Int} {m n : Nat} (h : IsMode l x m) (k : IsMode l' y n) (hp : l.Perm l') : x = y := by
  have h1 := h.best y (hp.mem_iff.2 k.mem)
  have h2 := k.best x (hp.mem_iff.1 h.mem)
  rw [hp.count_eq y, k.cnt] at h1
  rw [← hp.count_eq x, h.cnt] at h2
  omega
/-- labels behind a turn more -/
def LNext (G : List Vtx) (now next : Nat → Int) : Prop := ∀ j, j < G.length → (lin G now G.length j = [] ∧ next j = now j) ∨ ∃ m, IsMode (lin G now G.length j) (next j) m
theorem LNext.unique {G : List Vtx} {now now' a b : Nat → Int} (e : ∀ j, j < G.length → now j = now' j) (h : LNext G now a) (k : LNext G now' b) : ∀ j, j < G.length → a j = b j := by
  have hl : ∀ j, lin G now G.length j = lin G now' G.length j := fun j => by
    unfold lin
    have : ∀ p, p ≤ G.length → ((List.range p).flatMap fun k => List.replicate (cO G k j) (now k)) = (List.range p).flatMap fun k => List.replicate (cO G k j) (now' k) := by
      intro p
      induction p with
      | zero => intro _; rfl
      | succ p ih =>
        intro hp
        rw [List.range_succ, List.flatMap_append, List.flatMap_append, ih (by omega), List.flatMap_singleton, List.flatMap_singleton, e p (by omega)]
    exact this G.length (Nat.le_refl _)
  intro j hj
  rcases h j hj with ⟨h1, h2⟩ | ⟨m, h1⟩ <;> rcases k j hj with ⟨k1, k2⟩ | ⟨n, k1⟩
  · rw [h2, k2, e j hj]
  · have := k1.mem; rw [← hl, h1] at this; simp at this
  · have := h1.mem; rw [hl, k1] at this; simp at this
  · exact h1.unique k1 (by rw [hl])
/-- labels behind so many turns -/
def LTurns (G : List Vtx) : Nat → (Nat → Int) → Prop
  | 0, f => ∀ j (h : j < G.length), f j = G[j].id
  | t + 1, f => ∃ g, LTurns G t g ∧ LNext G g f
theorem LTurns.unique {G : List Vtx} : ∀ {t : Nat} {f g : Nat → Int}, LTurns G t f → LTurns G t g → ∀ j, j < G.length → f j = g j
  | 0, _, _, h, k, j, hj => by rw [h j hj, k j hj]
  | _ + 1, _, _, ⟨_, h1, h2⟩, ⟨_, k1, k2⟩, j, hj => h2.unique (LTurns.unique h1 k1) k2 j hj
/-! the one that stands most often, of a list in order -/
theorem IsMode.first {x : Int} : IsMode [x] x 1 := ⟨by simp, by simp, fun y hy => by
  have : y = x := by simpa using hy
  subst this; right; simp⟩
theorem mode_more {l : List Int} {b x : Int} {m : Nat} (h : IsMode l b m) (hr : m < l.count x + 1) : IsMode (l ++ [x]) x (l.count x + 1) := by
  refine ⟨by simp, by simp, fun y hy => ?_⟩
  by_cases e : y = x
  · subst e; right; simp
  · left
    have hy : y ∈ l := by simpa [e] using hy
    have : (l ++ [x]).count y = l.count y := by
      rw [List.count_append, List.count_cons_of_ne (fun h => e h.symm)]; simp
    rw [this]
    rcases h.best y hy with h1 | ⟨h1, _⟩ <;> omega
theorem mode_less {l : List Int} {b x : Int} {m : Nat} (h : IsMode l b m) (hr : l.count x + 1 ≤ m) (hle : b ≤ x) : IsMode (l ++ [x]) b m := by
  have hne : b ≠ x := fun e => by rw [← e, h.cnt] at hr; omega
  refine ⟨by simp [h.mem], ?_, fun y hy => ?_⟩
  · rw [List.count_append, h.cnt, List.count_cons_of_ne (fun e => hne e.symm)]; simp
  · by_cases e : y = x
    · subst e
      have : (l ++ [y]).count y = l.count y + 1 := by simp
      rw [this]
      rcases Nat.lt_or_ge (l.count y + 1) m with h1 | h1
      · exact .inl h1
      · exact .inr ⟨by omega, hle⟩
    · have hy : y ∈ l := by simpa [e] using hy
      have : (l ++ [x]).count y = l.count y := by
        rw [List.count_append, List.count_cons_of_ne (fun h => e h.symm)]; simp
      rw [this]; exact h.best y hy
end Go.Ev

namespace Go.Proofs.Cx
open Go Go.Ev
/-- a row of places that edges lead to -/
theorem row_ofO {F : Nat → Prop} {H : AH} {b i : Nat} {G : List Vtx} (hM : May G) (h : SlR F H (some ⟨b, 0, none⟩) G.length (outs G)) (hi : i < G.length) :
    ∃ a l c, ∀ (Hx : AH) (S : Nat → Prop), Mod S H Hx → (∀ b, F b → ¬ S b) → Hx.cell b (0 + i * 1) = some (.slice a l c) ∧ SlI F Hx a l (nats (orow G i)) := by
  obtain ⟨_, a, l, c, h1, h2, h3, h4⟩ := h.nth (k := i) (by rw [outs_len]; exact hi)
  rw [outs_eq hM hi] at h2
  have hF : F b := (h.base (by omega)).2
  exact ⟨a, l, c, fun Hx S hm hs => ⟨hm.cell (hs _ hF) h1, h2.mod loc_int hm hs⟩⟩
theorem count_take {l : List Nat} {k j : Nat} (hk : k < l.length) : (l.take (k + 1)).count j = (l.take k).count j + if l[k] = j then 1 else 0 := by
  rw [List.take_succ_eq_append_getElem hk, List.count_append, List.count_cons]
  simp

theorem ranks_ok {F : Nat → Prop} {a : Option Addr} {l c : Nat} {H : AH} {G : List Vtx} (T : Nat) (hT : T ≤ 100) (ok : Ok H) (hG : SlV F H a l G) (hF : ∀ b, F b → b < H.next) (hM : May G) :
    FW Ee F_spec_Ranks [.agg ⟨[.slice a l c]⟩, .int .i64 T] H fun r H' => ∃ (b : Nat) (f : Nat → Int), r = .slice (some ⟨b, 0, none⟩) G.length (2 * G.length) ∧ H'.get b = some (.cells (tab (fun i => iv (f i)) G.length) 0) ∧ H.next ≤ b ∧
      (∀ j, j < G.length → f j = (ranks G T j : Nat)) ∧ Grow H H' := by
  have hl := hM.len
  have hlen := hG.len
  subst hlen
  refine fw_spec_Ranks ?_
  intro H1 e1
  have g1 : Grow H H1 := e1 ▸ Grow.new ok _
  have b1 : H1.get H.next = some (.cells [.slice a G.length c] 0) := e1 ▸ get_new_self _ _
  have n1 : H1.next = H.next + 1 := by rw [e1]; rfl
  refine ⟨a, G.length, c, cell_of b1 rfl, ?_⟩
  refine (of_ok g1.ok (hG.grow loc_vtx g1) (fun b h => by have := hF b h; omega) hM).mono ?_
  rintro _ H2 ⟨ob, bb, c1, c2, rfl, hO, hB, g2⟩
  refine ⟨_, _, _, _, _, _, _, _, _, rfl, ?_⟩
  intro H3 e3
  obtain ⟨H4, e4, b4, g4, n4⟩ := fresh_store (vs := [.slice a G.length c, .slice (some ⟨ob, 0, none⟩) G.length c1, .slice (some ⟨bb, 0, none⟩) G.length c2]) e3 rfl rfl g2.ok
  have b14 := (g2.trans g4).get _ _ id b1
  refine ⟨H4, e4, a, G.length, c, cell_of b14 rfl, a, G.length, c, cell_of b14 rfl, by omega, by omega, by omega, by omega, ?_⟩
  intro H5 e5
  have g5 : Grow H4 H5 := e5 ▸ Grow.new g4.ok _
  have o5 : H5.get H4.next = some (.cells (tab (fun _ => iv 0) G.length) 0) := by rw [e5, get_new_self, tab_const]; rfl
  have n2 := g2.next
  have n5 : H5.next = H4.next + 1 := by rw [e5]; rfl
  have O5 := (hO.grow loc_row g4).grow loc_row g5
  have v5 := g5.get _ _ id b4
  have g05 : Grow H H5 := ((g1.trans g2).trans g4).trans g5
  have low : ∀ b, New H1 H2 b → ¬ H4.next ≤ b := fun b hb h => by have := hb.2; omega
  have many : 0 < G.length → (if (1 : Int) > ((G.length : Nat) : Int) then 1 else ((G.length : Nat) : Int)) = ((G.length : Nat) : Int) := fun h => by rw [if_neg (by omega)]
  refine ⟨fun m i Hb => ∃ (p : Nat) (f : Nat → Int), i = p ∧ p ≤ G.length ∧ m = G.length - p ∧ Hb.get H4.next = some (.cells (tab (fun j => iv (f j)) G.length) 0) ∧ (∀ j, j < p → f j = (ranks G 0 j : Nat)) ∧ Mod (H4.next ≤ ·) H5 Hb,
    ⟨_, 0, fun _ => 0, rfl, by omega, rfl, o5, fun i h => by omega, .refl g5.ok⟩, ?_⟩
  rintro m i Hb ⟨p, f, rfl, hp, rfl, hf, hdone, hm⟩
  refine cond_dec (fun hlt => ?_) (fun hge => ?_)
  · have hk : p < G.length := by omega
    rw [many (by omega)]
    refine ⟨by omega, ?_⟩
    intro t34 e34
    obtain ⟨Q0, hQ0⟩ : ∃ Q, Q = 1000000 / G.length := ⟨_, rfl⟩
    have hQ0le : Q0 ≤ 1000000 := hQ0 ▸ Nat.div_le_self 1000000 G.length
    obtain rfl : t34 = (Q0 : Int) := e34.trans (wnat (by rw [hQ0]; rfl) (by omega))
    obtain ⟨H6, s1, s2, s3, -⟩ := step_tab (g := iv) (x := (Q0 : Int)) hm.ok hf hk rfl
    refine ⟨by omega, by omega, H6, s1, ?_⟩
    intro t et
    rw [wrap_i64 (by omega) (by omega)] at et
    subst et
    refine ⟨G.length - (p + 1), by omega, p + 1, _, by simp, by omega, rfl, s2, fun j hj => ?_, hm.ext s3 g5.ok fun b hb => .inl (by omega)⟩
    rcases Nat.lt_or_ge j p with h1 | h1
    · rw [upd_ne (by omega)]; exact hdone j h1
    · have : j = p := by omega
      subst this
      rw [upd_self, hQ0]; rfl
  have hpn : p = G.length := by omega
  subst hpn
  refine ⟨fun m t Hc => ∃ (tt : Nat) (f : Nat → Int), t = tt ∧ tt ≤ T ∧ m = T - tt ∧ Hc.get H4.next = some (.cells (tab (fun j => iv (f j)) G.length) 0) ∧ (∀ j, j < G.length → f j = (ranks G tt j : Nat)) ∧ Mod (H4.next ≤ ·) H5 Hc,
    ⟨_, 0, f, rfl, by omega, rfl, hf, hdone, hm⟩, ?_⟩
  clear hf hdone hm f
  rintro m t Hc ⟨tt, f, rfl, htt, rfl, hf, hfr, hm⟩
  refine cond_dec (fun hlt => ?_) (fun hge2 => ?_)
  · refine ⟨by omega, by omega, by omega, by omega, ?_⟩
    intro H9 e9
    have g9 : Grow Hc H9 := e9 ▸ Grow.new hm.ok _
    have i9 : H9.get Hc.next = some (.cells (tab (fun _ => iv 0) G.length) 0) := by rw [e9, get_new_self, tab_const]; rfl
    have n9 : H9.next = Hc.next + 1 := by rw [e9]; rfl
    have nc := hm.next
    have hm9 : Mod (H4.next ≤ ·) H5 H9 := hm.add g9
    have v9 := hm9.get _ _ (show ¬ H4.next ≤ H2.next by omega) v5
    have hlow : H4.next < Hc.next := by omega
    refine ⟨some ⟨ob, 0, none⟩, G.length, c1, cell_of v9 rfl, ?_⟩
    -- what comes to each vertex
    refine ⟨fun m i Hd => ∃ (p : Nat) (g : Nat → Int), i = p ∧ p ≤ G.length ∧ m = G.length - p ∧ Hd.get Hc.next = some (.cells (tab (fun j => iv (g j)) G.length) 0) ∧ Hd.get H4.next = some (.cells (tab (fun j => iv (f j)) G.length) 0) ∧
        (∀ j, j < G.length → g j = (smTo (fun k => cO G k j * (ranks G tt k / (orow G k).length)) p : Nat)) ∧ Mod (H4.next ≤ ·) H5 Hd,
      ⟨_, 0, fun _ => 0, rfl, by omega, rfl, i9, g9.get _ _ id hf, fun j _ => rfl, hm9⟩, ?_⟩
    rintro m i Hd ⟨p, g, rfl, hp, rfl, hgd, hfd, hgs, hmd⟩
    refine cond_dec (fun hlt2 => ?_) (fun hge3 => ?_)
    · have hk : p < G.length := by omega
      obtain ⟨za, zl, zc, row⟩ := row_ofO hM O5 hk
      obtain ⟨ez, hZ⟩ := row Hd _ hmd low
      have hzl := row_len hZ
      have hzn := orow_len hM p
      obtain ⟨dd, hdd⟩ : ∃ dd, dd = ranks G tt p / (orow G p).length := ⟨_, rfl⟩
      have hddle : dd ≤ 1000000 := by
        have := ranks_le G tt hk
        have := Nat.div_le_self (ranks G tt p) (orow G p).length
        omega
      refine grd_intro rfl ⟨by omega, by omega, za, zl, zc, ez, ?_⟩
      refine ⟨fun m t He => ∃ (q : Nat) (g2 : Nat → Int), t = q ∧ q ≤ zl ∧ m = zl - q ∧ He.get Hc.next = some (.cells (tab (fun j => iv (g2 j)) G.length) 0) ∧ He.get H4.next = some (.cells (tab (fun j => iv (f j)) G.length) 0) ∧
          (∀ j, j < G.length → g2 j = ((smTo (fun k => cO G k j * (ranks G tt k / (orow G k).length)) p + ((orow G p).take q).count j * dd : Nat) : Int)) ∧ Mod (H4.next ≤ ·) H5 He,
        ⟨_, 0, g, rfl, by omega, rfl, hgd, hfd, fun j hj => by rw [hgs j hj]; simp, hmd⟩, ?_⟩
      rintro m t He ⟨q, g2, rfl, hq, rfl, hge_, hfe, hg2, hme⟩
      obtain ⟨-, hZe⟩ := row He _ hme low
      refine cond_dec (fun hlt3 => ?_) (fun hge4 => ?_)
      · have hqz : q < (orow G p).length := by omega
        obtain ⟨hs, ec⟩ := row_at hZe hqz
        have hz1 := orow_lt hM (List.getElem_mem hqz)
        have hval := hg2 _ hz1
        -- no sum is too great
        have hbound : smTo (fun k => cO G k (orow G p)[q] * (ranks G tt k / (orow G k).length)) p + ((orow G p).take q).count (orow G p)[q] * dd + dd ≤ 1000000 + 1000000 := by
          have h1 := rin_le G tt hz1
          have h2 : smTo (fun k => cO G k (orow G p)[q] * (ranks G tt k / (orow G k).length)) p + cO G p (orow G p)[q] * (ranks G tt p / (orow G p).length) ≤ smTo (fun k => cO G k (orow G p)[q] * (ranks G tt k / (orow G k).length)) G.length :=
            smTo_le_part (f := fun k => cO G k (orow G p)[q] * (ranks G tt k / (orow G k).length)) (p := p + 1) (n := G.length) (by omega)
          have h3 : ((orow G p).take q).count (orow G p)[q] ≤ cO G p (orow G p)[q] := List.Sublist.count_le _ (List.take_sublist _ _)
          have h4 := Nat.mul_le_mul_right dd h3
          unfold rin at h1
          rw [← hdd] at h2
          omega
        refine grd_intro hs ⟨by omega, by omega, _, ec, by omega, by omega, _, cell_tab hge_ hz1, by omega, by omega, _, cell_tab hfe hk, by omega, ?_⟩
        intro t67 e67
        have e67 : t67 = (dd : Int) := by
          rw [e67, hfr p hk, hdd, hzl, show ((ranks G tt p : Nat) : Int).tdiv (((orow G p).length : Nat) : Int) = ((ranks G tt p / (orow G p).length : Nat) : Int) from rfl, ← hdd, wrap_i64 (by omega) (by omega)]
        subst e67
        intro t68 e68
        rw [hval, wrap_i64 (by omega) (by omega)] at e68
        obtain ⟨H7, r1, r2, r3, -⟩ := step_tab (g := iv) (x := t68) hme.ok hge_ hz1 rfl
        refine ⟨by omega, by omega, H7, r1, ?_⟩
        intro t70 e70
        rw [wrap_i64 (by omega) (by omega)] at e70
        subst e70
        refine ⟨zl - (q + 1), by omega, q + 1, _, by simp, by omega, rfl, r2, r3.get _ _ (by omega) hfe, fun j hj => ?_, hme.ext r3 g5.ok fun b hb => .inl (by omega)⟩
        rw [count_take hqz]
        by_cases e : j = (orow G p)[q]
        · subst e
          rw [upd_self, e68, if_pos rfl, Nat.add_mul]; omega
        · rw [upd_ne e, if_neg (fun h => e h.symm), Nat.add_zero]; exact hg2 j hj
      · intro t71 e71
        rw [wrap_i64 (by omega) (by omega)] at e71
        subst e71
        refine ⟨G.length - (p + 1), by omega, p + 1, g2, by simp, by omega, rfl, hge_, hfe, fun j hj => ?_, hme⟩
        rw [hg2 j hj, List.take_of_length_le (by omega), hdd]; rfl
    · have hpn : p = G.length := by omega
      subst hpn
      have hgs : ∀ j, j < G.length → g j = (rin G (ranks G tt) j : Nat) := fun j hj => by rw [hgs j hj]; rfl
      refine ⟨fun m i He => ∃ (p : Nat) (f2 : Nat → Int), i = p ∧ p ≤ G.length ∧ m = G.length - p ∧ He.get Hc.next = some (.cells (tab (fun j => iv (g j)) G.length) 0) ∧ He.get H4.next = some (.cells (tab (fun j => iv (f2 j)) G.length) 0) ∧
          (∀ j, j < p → f2 j = (ranks G (tt + 1) j : Nat)) ∧ Mod (H4.next ≤ ·) H5 He, ⟨_, 0, f, rfl, by omega, rfl, hgd, hfd, fun j h => by omega, hmd⟩, ?_⟩
      rintro m i He ⟨p, f2, rfl, hp, rfl, hge_, hfe, hf2, hme⟩
      refine cond_dec (fun hlt3 => ?_) (fun hge4 => ?_)
      · have hk : p < G.length := by omega
        have hr := rin_le G tt hk
        rw [many (by omega)]
        refine ⟨by omega, by omega, _, cell_tab hge_ hk, by omega, ?_⟩
        intro t82 e82
        obtain ⟨Q1, hQ1⟩ : ∃ Q, Q = 150000 / G.length := ⟨_, rfl⟩
        have hQ1le : Q1 ≤ 150000 := hQ1 ▸ Nat.div_le_self 150000 G.length
        obtain rfl : t82 = (Q1 : Int) := e82.trans (wnat (by rw [hQ1]; rfl) (by omega))
        intro t84 e84
        rw [hgs p hk, wrap_i64 (by omega) (by omega)] at e84
        have e84 : t84 = ((rin G (ranks G tt) p * 85 : Nat) : Int) := by rw [e84]; omega
        subst e84
        refine ⟨by omega, ?_⟩
        intro t85 e85
        have e85 : t85 = ((rin G (ranks G tt) p * 85 / 100 : Nat) : Int) := by
          rw [e85, show ((rin G (ranks G tt) p * 85 : Nat) : Int).tdiv 100 = ((rin G (ranks G tt) p * 85 / 100 : Nat) : Int) from rfl, wrap_i64 (by omega) (by omega)]
        subst e85
        intro t86 e86
        rw [wrap_i64 (by omega) (by omega)] at e86
        obtain ⟨H7, r1, r2, r3, -⟩ := step_tab (g := iv) (x := t86) hme.ok hfe hk rfl
        refine ⟨by omega, by omega, H7, r1, ?_⟩
        intro t88 e88
        rw [wrap_i64 (by omega) (by omega)] at e88
        subst e88
        refine ⟨G.length - (p + 1), by omega, p + 1, _, by simp, by omega, rfl, r3.get _ _ (by omega) hge_, r2, fun j hj => ?_, hme.ext r3 g5.ok fun b hb => .inl (by omega)⟩
        rcases Nat.lt_or_ge j p with h1 | h1
        · rw [upd_ne (by omega)]; exact hf2 j h1
        · have : j = p := by omega
          subst this
          rw [upd_self, e86, hQ1]; rfl
      · have hpn : p = G.length := by omega
        subst hpn
        intro t89 e89
        rw [wrap_i64 (by omega) (by omega)] at e89
        subst e89
        exact ⟨T - (tt + 1), by omega, tt + 1, f2, by simp, by omega, rfl, hfe, hf2, hme⟩
  · have : tt = T := by omega
    subst this
    exact ⟨_, f, rfl, hf, by omega, hfr, g05.ext hm ok fun b hb => .inr (by omega)⟩
end Go.Proofs.Cx

namespace Go.Ev
open Go
theorem take_sl {F : Nat → Prop} {H : AH} {a : Option Addr} {l c : Nat} {xs : List Int} (h : SlI F H a l xs) (h0 : ∀ x, a = some x → ∃ cs es, H.get x.block = some (.cells cs es) ∧ x.off ≤ cs.length) : takev H 1 l (.slice a l c) = some (xs.map iv) := by
  have hlen := h.len
  cases a with
  | none =>
    rcases Nat.eq_zero_or_pos l with hl | hl
    · subst hl
      have hx : xs = [] := List.length_eq_zero_iff.1 hlen.symm
      subst hx; rfl
    · have := (h.base hl).1; cases this
  | some x =>
    obtain ⟨cs, es, hg, ho⟩ := h0 x rfl
    have hfit : x.off + l * 1 ≤ cs.length := by
      rcases Nat.eq_zero_or_pos l with hl | hl
      · omega
      · have h5 := h.cells (l - 1) (by omega)
        obtain ⟨cs', r1, r2⟩ := AH.cell_some (show H.cell x.block (x.off + (l - 1) * 1) = _ from h5)
        rw [rd_of hg] at r1
        cases r1
        have := (List.getElem?_eq_some_iff.1 r2).1
        omega
    simp only [takev, rd_of hg, Nat.ble_eq_true_of_le hfit, cond_true]
    congr 1
    apply List.ext_getElem?
    intro i
    by_cases hi : i < l
    · have h5 := h.cells i (by omega)
      obtain ⟨cs', r1, r2⟩ := AH.cell_some (show H.cell x.block (x.off + i * 1) = _ from h5)
      rw [rd_of hg] at r1
      cases r1
      rw [List.getElem?_take_of_lt (by omega), List.getElem?_drop, List.getElem?_map, List.getElem?_eq_getElem (show i < xs.length by omega)]
      rw [show x.off + i * 1 = x.off + i from by omega] at r2
      exact r2
    · rw [List.getElem?_eq_none (by rw [List.length_take]; omega), List.getElem?_eq_none (by rw [List.length_map]; omega)]
/-- numbers by a function -/
def fns (f : Nat → Int) (n : Nat) : List Int := (List.range n).map f
theorem fns_len (f : Nat → Int) (n : Nat) : (fns f n).length = n := by simp [fns]
theorem fns_at {F : Nat → Prop} {H : AH} {a : Option Addr} {l n : Nat} {f : Nat → Int} (h : SlI F H a l (fns f n)) {q : Nat} (hq : q < n) : a.isSome = true ∧ H.cell (adr a).block ((adr a).off + q * 1) = some (.int .i64 (f q)) := by
  obtain ⟨h1, h2⟩ := h.nth (k := q) (by rw [fns_len]; exact hq)
  have e : (fns f n)[q]'(by rw [fns_len]; exact hq) = f q := by simp [fns]
  rw [e] at h2
  exact ⟨h1, h2⟩
theorem fns_tab (f : Nat → Int) (n : Nat) : (fns f n).map iv = tab (fun i => iv (f i)) n := by simp [fns, tab]
theorem fns_succ (f : Nat → Int) (n : Nat) : fns f (n + 1) = fns f n ++ [f n] := by simp [fns, List.range_succ]
theorem tab_sl {F : Nat → Prop} {H : AH} {b n : Nat} {f : Nat → Int} (h : H.get b = some (.cells (tab (fun i => iv (f i)) n) 0)) (hF : F b) : SlI F H (some ⟨b, 0, none⟩) n (fns f n) := by
  refine ⟨(fns_len f n).symm, fun _ => ⟨rfl, hF⟩, fun i hi => ?_⟩
  rw [fns_len] at hi
  have e : (fns f n)[i]'(by rw [fns_len]; exact hi) = f i := by simp [fns]
  rw [e]
  have := cell_tab h hi
  rw [show 0 + (i : Int).toNat * 1 = 0 + i * 1 from by omega] at this
  exact this
end Go.Ev
namespace Go.Proofs.Cx
open Go Go.Ev

theorem common_ok {H : AH} {d N c : Nat} {zs : List Int} (ok : Ok H) (hD : D H d zs) (hN : zs.length = N) (h0 : 0 < N) (hn : N ≤ 60000) :
    FW Ee F_spec_common [.slice (some ⟨d, 0, none⟩) N c] H fun r H' => ∃ (x : Int) (m : Nat), r = .int .i64 x ∧ IsMode zs x m ∧ Mod (· = d) H H' := by
  refine fw_spec_common ?_
  refine (sort64_ok ok hD hN hn).mono ?_
  rintro _ H1 ⟨rfl, D1, m1⟩
  obtain ⟨ws, hws⟩ : ∃ ws, ws = sortI zs := ⟨_, rfl⟩
  rw [← hws] at D1
  have hwl : ws.length = N := by rw [hws, sortI_len]; exact hN
  have hle : ∀ i j (hi : i < ws.length) (hj : j < ws.length), i < j → ws[i] ≤ ws[j] := by
    have := sortI_le zs
    rw [← hws] at this
    exact fun i j hi hj hij => List.pairwise_iff_getElem.1 this i j hi hj hij
  have hperm : ws.Perm zs := hws ▸ List.mergeSort_perm zs _
  have c0 := D1.cell (i := 0) (by omega)
  refine ⟨rfl, grd_intro rfl ⟨by omega, by omega, _, c0, ?_⟩⟩
  obtain ⟨I, hI⟩ : ∃ I : Nat → Int → Int → Int → Int → AH → Prop, ∀ m run best most t Hb, I m run best most t Hb ↔ (H1 = Hb ∧ ∃ p : Nat, t = p ∧ p ≤ N ∧ m = N - p ∧
      ((p = 0 ∧ run = 0 ∧ most = 0) ∨ (0 < p ∧ ∃ mm : Nat, most = mm ∧ IsMode (ws.take p) best mm ∧ ∃ h : p - 1 < ws.length, run = ((ws.take p).count ws[p - 1] : Nat)))) := ⟨fun m run best most t Hb => _, fun _ _ _ _ _ _ => Iff.rfl⟩
  refine ⟨I, ⟨_, (hI _ _ _ _ _ _).2 ⟨rfl, 0, rfl, by omega, rfl, .inl ⟨rfl, rfl, rfl⟩⟩⟩, ?_⟩
  intro m run best most t Hb hh
  obtain ⟨rfl, p, rfl, hp, rfl, hst⟩ := (hI _ _ _ _ _ _).1 hh
  refine cond_dec (fun hlt => ?_) (fun hge => ?_)
  · have hk : p < ws.length := by omega
    have ct := D1.cell hk
    rw [at_eq hk] at ct
    have htake := List.take_succ_eq_append_getElem hk
    have hcnt : (ws.take (p + 1)).count ws[p] = (ws.take p).count ws[p] + 1 := by rw [htake, List.count_append, List.count_singleton_self]
    have hcle : (ws.take p).count ws[p] ≤ N := by
      have h1 := List.count_le_length (a := ws[p]) (l := ws.take p)
      rw [List.length_take] at h1
      omega
    have next : ∀ (run' best' : Int) (mm : Nat), IsMode (ws.take (p + 1)) best' mm → run' = ((ws.take (p + 1)).count ws[p] : Nat) → ∀ t : Int, t = IntKind.i64.wrap ((p : Int) + 1) → ∃ m, m < N - p ∧ I m run' best' mm t H1 := by
      intro run' best' mm h2 h3 t et
      rw [wrap_i64 (by omega) (by omega)] at et
      subst et
      exact ⟨N - (p + 1), by omega, (hI _ _ _ _ _ _).2 ⟨rfl, p + 1, by simp, by omega, rfl, .inr ⟨by omega, mm, rfl, h2, by omega, by simpa using h3⟩⟩⟩
    have last : ∀ t32 : Int, t32 = ((ws.take (p + 1)).count ws[p] : Nat) → cond (decide (t32 > most)) (∀ t38 : Int, t38 = IntKind.i64.wrap ((p : Int) + 1) → ∃ m, m < N - p ∧ I m t32 ws[p] t32 t38 H1) (∀ t38 : Int, t38 = IntKind.i64.wrap ((p : Int) + 1) → ∃ m, m < N - p ∧ I m t32 best most t38 H1) := by
      intro t32 e32
      rcases hst with ⟨rfl, _, rfl⟩ | ⟨hp0, mm, rfl, hM, _⟩
      · refine cond_dec (fun _ => ?_) (fun h => by omega)
        rw [e32]
        refine next _ _ _ ?_ rfl
        have : (ws.take (0 + 1)) = [ws[0]] := by rw [htake]; simp
        rw [this]
        simpa using IsMode.first (x := ws[0])
      · refine cond_dec (fun hgt => ?_) (fun hle2 => ?_)
        · rw [e32]
          refine next _ _ _ ?_ rfl
          rw [hcnt, htake]
          exact mode_more hM (by omega)
        · refine next _ _ _ ?_ e32
          rw [htake]
          refine mode_less hM (by omega) ?_
          obtain ⟨i, hi, e⟩ := List.mem_iff_getElem.1 hM.mem
          rw [List.length_take] at hi
          rw [List.getElem_take] at e
          rw [← e]
          exact hle i p (by omega) hk (by omega)
    refine grd_intro rfl ⟨by omega, by omega, _, ct, cond_dec (fun hp0 => ?_) (fun hp0 => ?_)⟩
    · rcases hst with ⟨rfl, _⟩ | ⟨hp0, mm, rfl, hM, hp1, hrun⟩
      · omega
      intro t25 e25
      obtain rfl : t25 = ((p - 1 : Nat) : Int) := e25.trans (wnat (by omega) (by omega))
      have cp := D1.cell hp1
      rw [at_eq hp1] at cp
      refine grd_intro rfl ⟨by omega, by omega, _, cp, cond_intro (fun hne => ?_) (fun heq => ?_)⟩
      · have hne : ws[p - 1] ≠ ws[p] := by simpa using hne
        intro t32 e32
        rw [wrap_i64 (by omega) (by omega)] at e32
        refine last t32 ?_
        rw [hcnt, e32]
        have hz : (ws.take p).count ws[p] = 0 := by
          rw [List.count_eq_zero]
          intro hmem
          obtain ⟨i, hi, e⟩ := List.mem_iff_getElem.1 hmem
          rw [List.length_take] at hi
          rw [List.getElem_take] at e
          have h1 := hle (p - 1) p hp1 hk (by omega)
          rcases Nat.lt_or_ge i (p - 1) with h2 | h2
          · have := hle i (p - 1) (by omega) hp1 h2
            omega
          · have : i = p - 1 := by omega
            subst this; exact hne e
        rw [hz]; rfl
      · have heq : ws[p - 1] = ws[p] := by simpa using heq
        intro t32 e32
        rw [hrun, heq, wrap_i64 (by omega) (by omega)] at e32
        refine last t32 ?_
        rw [hcnt, e32]; rfl
    · have hp0 : p = 0 := by omega
      subst hp0
      rcases hst with ⟨_, rfl, _⟩ | ⟨h, _⟩
      · intro t32 e32
        rw [wrap_i64 (by omega) (by omega)] at e32
        refine last t32 ?_
        rw [hcnt, e32]; simp
      · omega
  · have hpn : p = N := by omega
    subst hpn
    rcases hst with ⟨h, _⟩ | ⟨_, mm, rfl, hM, _⟩
    · omega
    · rw [List.take_of_length_le (by omega)] at hM
      refine ⟨best, mm, rfl, ⟨hperm.mem_iff.1 hM.mem, ?_, fun y hy => ?_⟩, m1⟩
      · rw [← hperm.count_eq]; exact hM.cnt
      · rw [← hperm.count_eq]; exact hM.best y (hperm.mem_iff.2 hy)

theorem cpy_ok {F : Nat → Prop} {H : AH} {a : Option Addr} {b n c : Nat} {f g : Nat → Int} (ok : Ok H) (h : SlI F H a n (fns f n)) (h0 : ∀ x, a = some x → ∃ cs es, H.get x.block = some (.cells cs es) ∧ x.off ≤ cs.length) (hb : H.get b = some (.cells (tab (fun i => iv (g i)) n) 0)) :
    ∃ t H', cpy H 1 (some ⟨b, 0, none⟩) n (.slice a n c) = some (.int .i64 t, H') ∧ H'.get b = some (.cells (tab (fun i => iv (f i)) n) 0) ∧ Mod (· = b) H H' := by
  have ht := take_sl (c := c) h h0
  have hmin : Nat.min n n = n := Nat.min_self n
  rcases Nat.eq_zero_or_pos n with hz | hz
  · subst hz
    refine ⟨0, H, ?_, hb, .refl ok⟩
    simp only [cpy, lenOfv, hmin, ht]
    rfl
  · have hbn : Nat.beq n 0 = false := by
      cases h : Nat.beq n 0 with
      | false => rfl
      | true => have := Nat.eq_of_beq_eq_true h; omega
    have hst := store_of (o := 0) (vs := (fns f n).map iv) hb (by rw [List.length_map, fns_len, tab_len]; omega) (iv_one _)
    refine ⟨n, H.set b (.cells (lset (tab (fun i => iv (g i)) n) 0 ((fns f n).map iv)) 0), ?_, ?_, Mod.set ok hb _⟩
    · simp only [cpy, lenOfv, hmin, ht, hbn, cond_false, hst]
    · rw [get_set_self]
      congr 2
      rw [lset, List.take_zero, List.nil_append, List.drop_of_length_le (by rw [tab_len, List.length_map, fns_len]; omega), List.append_nil, fns_tab]

theorem labels_ok {F : Nat → Prop} {a : Option Addr} {l c : Nat} {H : AH} {G : List Vtx} (T : Nat) (hT : T ≤ 100) (ok : Ok H) (hG : SlV F H a l G) (hF : ∀ b, F b → b < H.next) (hM : May G) :
    FW Ee F_spec_Labels [.agg ⟨[.slice a l c]⟩, .int .i64 T] H fun r H' => ∃ (a' : Option Addr) (c' : Nat) (f : Nat → Int), r = .slice a' G.length c' ∧ SlI (fun b => H.next ≤ b ∧ b < H'.next) H' a' G.length (fns f G.length) ∧ LTurns G T f ∧ Grow H H' := by
  have hl := hM.len
  have hlen := hG.len
  subst hlen
  refine fw_spec_Labels ?_
  intro H1 e1
  have g1 : Grow H H1 := e1 ▸ Grow.new ok _
  have b1 : H1.get H.next = some (.cells [.slice a G.length c] 0) := e1 ▸ get_new_self _ _
  have n1 : H1.next = H.next + 1 := by rw [e1]; rfl
  refine ⟨a, G.length, c, cell_of b1 rfl, ?_⟩
  refine (of_ok g1.ok (hG.grow loc_vtx g1) (fun b h => by have := hF b h; omega) hM).mono ?_
  rintro _ H2 ⟨ob, bb, c1, c2, rfl, hO, hB, g2⟩
  refine ⟨_, _, _, _, _, _, _, _, _, rfl, ?_⟩
  intro H3 e3
  obtain ⟨H4, e4, b4, g4, n4⟩ := fresh_store (vs := [.slice a G.length c, .slice (some ⟨ob, 0, none⟩) G.length c1, .slice (some ⟨bb, 0, none⟩) G.length c2]) e3 rfl rfl g2.ok
  have b14 := (g2.trans g4).get _ _ id b1
  have n2 := g2.next
  have O4 := hO.grow loc_row g4
  have g04 : Grow H H4 := (g1.trans g2).trans g4
  refine ⟨H4, e4, a, G.length, c, cell_of b14 rfl, ?_⟩
  obtain ⟨idf, hidf⟩ : ∃ idf : Nat → Int, ∀ j (h : j < G.length), idf j = G[j].id := ⟨fun j => if h : j < G.length then G[j].id else 0, fun j h => dif_pos h⟩
  refine ⟨fun m na nl nc i Hb => ∃ p : Nat, i = p ∧ p ≤ G.length ∧ m = G.length - p ∧ Own Hb 1 na nl nc ((fns idf p).map iv) ∧ (∀ x, na = some x → H4.next ≤ x.block) ∧ H4.next ≤ Hb.next ∧ Grow H4 Hb,
    ⟨_, 0, rfl, by omega, rfl, Own.nil _ _, fun x e => (by cases e), Nat.le_refl _, .refl g4.ok⟩, ?_⟩
  rintro m na nl nc i Hb ⟨p, rfl, hp, rfl, hOw, hfar, hnb, gb⟩
  have hnl : nl = p := by have := hOw.num; rwa [fns_len] at this
  refine cond_dec (fun hlt => ?_) (fun hge => ?_)
  · have hk : p < G.length := by omega
    obtain ⟨hs, cid, cval, ea, el, ec, cedges, -⟩ := (hG.grow loc_vtx (g04.trans gb)).nth hk
    refine grd_intro hs ⟨by omega, by omega, _, _, _, _, _, cid, cval, cedges, ?_⟩
    intro H6 e6
    obtain ⟨H7, e7, b7, g7, n7⟩ := fresh_store (vs := [.int .i64 G[p].id, .int .i64 G[p].val, .slice ea el ec]) e6 rfl rfl gb.ok
    refine ⟨H7, e7, _, cell_of b7 rfl, ?_⟩
    intro H8 e8
    have g8 : Grow H7 H8 := e8 ▸ Grow.new g7.ok _
    have n8 : H8.next = H7.next + 1 := by rw [e8]; rfl
    have g78 := g7.trans g8
    obtain ⟨H9, k1, k2, k3, k4⟩ := (hOw.mod g78 fun b hb => hb.elim).append (n := 1) (bytes := 8) (new := [iv G[p].id]) (x := .slice (some ⟨H7.next, 0, none⟩) 1 2) g8.ok rfl (takev_new e8 rfl) (by omega) rfl rfl (by omega) (by omega)
    refine ⟨_, _, _, H9, k1, ?_⟩
    intro t et
    rw [wrap_i64 (by omega) (by omega)] at et
    subst et
    refine ⟨G.length - (p + 1), by omega, p + 1, by simp, by omega, rfl, ?_, ?_, by omega, (gb.trans g78).ext k4 g4.ok fun b hb => .inr ?_⟩
    · rw [fns_succ, List.map_append, hidf p hk]; exact k2
    · intro y ey
      cases ey
      simp only; omega
    · obtain ⟨x, ex, rfl⟩ := not_off hb
      exact hfar x ex
  have hpn : p = G.length := by omega
  subst hpn
  obtain ⟨I, hI⟩ : ∃ I : Nat → Option Addr → Nat → Nat → Int → AH → Prop, ∀ m na nl nc t Hx, I m na nl nc t Hx ↔ (∃ (tt : Nat) (f : Nat → Int), t = tt ∧ tt ≤ T ∧ m = T - tt ∧ nl = G.length ∧ SlI (fun b => H4.next ≤ b ∧ b < Hx.next) Hx na G.length (fns f G.length) ∧
      (∀ x, na = some x → x.block < Hx.next ∧ ∃ cs es, Hx.get x.block = some (.cells cs es) ∧ x.off ≤ cs.length) ∧ LTurns G tt f ∧ Grow H4 Hx) := ⟨fun m na nl nc t Hx => _, fun _ _ _ _ _ _ => Iff.rfl⟩
  refine ⟨I, ⟨_, (hI _ _ _ _ _ _).2 ⟨0, idf, rfl, by omega, rfl, hnl, ?_, ?_, hidf, gb⟩⟩, ?_⟩
  · rw [hnl] at hOw
    exact own_sl hOw fun x e => ⟨hfar x e, hOw.lt gb.ok e⟩
  · intro x e
    refine ⟨hOw.lt gb.ok e, ?_⟩
    rcases hOw.st with ⟨h, _⟩ | ⟨b, h, _, _, hg⟩ | ⟨b, h, _, hg⟩
    · rw [h] at e; cases e
    · rw [h] at e; cases e; exact ⟨_, _, hg, Nat.zero_le _⟩
    · rw [h] at e; cases e; exact ⟨_, _, hg, Nat.zero_le _⟩
  clear hOw hfar hnb gb hnl hge hidf
  intro m na nl nc t Hx hh
  obtain ⟨tt, f, rfl, htt, rfl, rfl, hNow, hHere, hLT, gx⟩ := (hI _ _ _ _ _ _).1 hh
  have nx := gx.next
  refine cond_dec (fun hlt => ?_) (fun hge => ?_)
  · refine ⟨by omega, by omega, by omega, by omega, ?_⟩
    intro H11 e11
    have g11 : Grow Hx H11 := e11 ▸ Grow.new gx.ok _
    have n11 : H11.next = Hx.next + 1 := by rw [e11]; rfl
    have t11 : H11.get Hx.next = some (.cells (tab (fun _ => SW.v ⟨none, 0, 0⟩) G.length) 0) := by rw [e11, get_new_self, tab_const]; rfl
    have v11 := (gx.trans g11).get _ _ id b4
    refine ⟨some ⟨ob, 0, none⟩, G.length, c1, cell_of v11 rfl, ?_⟩
    have low : ∀ b, New H1 H2 b → ¬ False := fun _ _ h => h
    refine ⟨fun m i Hy => ∃ (p : Nat) (sl : Nat → SW), i = p ∧ p ≤ G.length ∧ m = G.length - p ∧ Hy.get Hx.next = some (.cells (tab (fun j => (sl j).v) G.length) 0) ∧ Fam Hy H11.next G.length sl (fun j => lin G f p j) ∧ H11.next ≤ Hy.next ∧ Grow Hx Hy,
      ⟨_, 0, fun _ => ⟨none, 0, 0⟩, rfl, by omega, rfl, t11, ⟨fun i hi => Own.nil _ _, fun i hi x e => (by cases e), fun i j _ _ _ x y e => (by cases e)⟩, Nat.le_refl _, g11⟩, ?_⟩
    rintro m i Hy ⟨p, sl, rfl, hp, rfl, hT_, hFam, hny, gy⟩
    refine cond_dec (fun hlt2 => ?_) (fun hge2 => ?_)
    · have hk : p < G.length := by omega
      obtain ⟨za, zl, zc, row⟩ := row_ofO hM O4 hk
      obtain ⟨ez, hZ⟩ := row Hy _ (gx.trans gy) low
      have hzl := row_len hZ
      have hzn := orow_len hM p
      refine grd_intro rfl ⟨by omega, by omega, za, zl, zc, ez, ?_⟩
      refine ⟨fun m t Hz => ∃ (q : Nat) (sl : Nat → SW), t = q ∧ q ≤ zl ∧ m = zl - q ∧ Hz.get Hx.next = some (.cells (tab (fun j => (sl j).v) G.length) 0) ∧ Fam Hz H11.next G.length sl (fun j => lin G f p j ++ List.replicate (((orow G p).take q).count j) (f p)) ∧ H11.next ≤ Hz.next ∧ Grow Hx Hz,
        ⟨_, 0, sl, rfl, by omega, rfl, hT_, hFam.congr fun j _ => by simp, hny, gy⟩, ?_⟩
      rintro m t Hz ⟨q, sl2, rfl, hq, rfl, hTz, hFz, hnz, gz⟩
      obtain ⟨-, hZz⟩ := row Hz _ (gx.trans gz) low
      refine cond_dec (fun hlt3 => ?_) (fun hge3 => ?_)
      · have hqz : q < (orow G p).length := by omega
        obtain ⟨hs, ec⟩ := row_at hZz hqz
        have hz1 := orow_lt hM (List.getElem_mem hqz)
        obtain ⟨z, hzz⟩ : ∃ z, z = (orow G p)[q] := ⟨_, rfl⟩
        rw [← hzz] at ec hz1
        obtain ⟨hsn, cnow⟩ := fns_at (hNow.grow loc_int gz) hk
        have hlenz := (hFz.own z hz1).num
        have hlz := lin_le hM f (show p + 1 ≤ G.length by omega) z
        rw [lin_succ, List.length_append, List.length_replicate] at hlz
        have hcz : ((orow G p).take q).count z ≤ cO G p z := List.Sublist.count_le _ (List.take_sublist _ _)
        rw [List.length_append, List.length_replicate] at hlenz
        refine grd_intro hs ⟨by omega, by omega, _, ec, by omega, by omega, (sl2 z).a, (sl2 z).l, (sl2 z).c, cell_tab hTz hz1, grd_intro hsn ⟨by omega, by omega, _, cnow, ?_⟩⟩
        intro H14 e14
        have g14 : Grow Hz H14 := e14 ▸ Grow.new gz.ok _
        have n14 : H14.next = Hz.next + 1 := by rw [e14]; rfl
        obtain ⟨H15, k1, k2, k3, k4⟩ := hFz.push gz.ok hnz hz1 (f p) e14 (by omega)
        have lowS : ∀ {b : Nat}, b < H11.next → ¬ (¬ Off (sl2 z).a b) := fun hb h => h (hFz.low hb z hz1)
        have t14 := g14.get _ _ id hTz
        have t15 := k4.get _ _ (lowS (by omega)) t14
        obtain ⟨s1, hs1⟩ : ∃ s : SW, s = ⟨some ⟨H14.next, 0, none⟩, (sl2 z).l + 1, 2 * ((sl2 z).l + 1) + 1⟩ := ⟨_, rfl⟩
        have s1v : Value.slice (some ⟨H14.next, 0, none⟩) ((sl2 z).l + 1) (2 * ((sl2 z).l + 1) + 1) = s1.v := by rw [hs1]; rfl
        rw [← hs1] at k2
        rw [s1v] at k1
        have m16 := Mod.set k4.ok t15 (.cells (tab (upd (fun j => (sl2 j).v) z s1.v) G.length) 0)
        obtain ⟨u1, u2, u3⟩ : ∃ x y w, s1.v = .slice x y w := ⟨_, _, _, rfl⟩
        have gall : Grow Hx (H15.set Hx.next (.cells (tab (upd (fun j => (sl2 j).v) z s1.v) G.length) 0)) := ((gz.trans g14).ext k4 gx.ok fun b hb => .inr (by
          obtain ⟨x, ex, rfl⟩ := not_off hb
          have := hFz.far z hz1 x ex
          omega)).ext m16 gx.ok fun b hb => .inr (by omega)
        refine ⟨_, _, _, H15, k1, by omega, by omega, _, store_tab t15 hz1 rfl, g14.cell id cnow, cell_tab t14 hz1, ?_⟩
        intro t65 e65
        rw [wrap_i64 (by omega) (by omega)] at e65
        subst e65
        refine ⟨zl - (q + 1), by omega, q + 1, upd sl2 z s1, by simp, by omega, rfl, ?_, ?_, ?_, gall⟩
        · refine (get_set_self _ _ _).trans ?_
          congr 2
          refine tab_congr fun j _ => ?_
          simp only [upd]
          split <;> rfl
        · refine (k2.mod m16 fun b hb j hj => by subst hb; exact k2.low (by omega) j hj).congr fun j hj => ?_
          rw [count_take hqz, ← hzz]
          simp only [upd]
          by_cases e : j = z
          · subst e
            rw [if_pos rfl, if_pos rfl, List.replicate_succ', List.append_assoc]
          · rw [if_neg e, if_neg (fun h => e h.symm), Nat.add_zero]
        · show H11.next ≤ H15.next
          omega
      · intro t66 e66
        rw [wrap_i64 (by omega) (by omega)] at e66
        subst e66
        refine ⟨G.length - (p + 1), by omega, p + 1, sl2, by simp, by omega, rfl, hTz, hFz.congr fun j _ => ?_, hnz, gz⟩
        rw [List.take_of_length_le (by omega), lin_succ]; rfl
    · have hpn : p = G.length := by omega
      subst hpn
      refine ⟨by omega, by omega, by omega, by omega, ?_⟩
      intro H17 e17
      have g17 : Grow Hy H17 := e17 ▸ Grow.new gy.ok _
      have n17 : H17.next = Hy.next + 1 := by rw [e17]; rfl
      have o17 : H17.get Hy.next = some (.cells (tab (fun _ => iv 0) G.length) 0) := by rw [e17, get_new_self, tab_const]; rfl
      have gx17 := gy.trans g17
      obtain ⟨t72, H18, k1, k2, k3⟩ := cpy_ok (c := nc) g17.ok (hNow.grow loc_int gx17) (fun x e => by
        obtain ⟨_, cs, es, h1, h2⟩ := hHere x e
        exact ⟨cs, es, gx17.get _ _ id h1, h2⟩) o17
      have fam17 := hFam.grow g17
      have T17 := g17.get _ _ id hT_
      have hlt_ : ∀ j, j < G.length → ∀ x, (sl j).a = some x → x.block < Hy.next := fun j hj x e => (hFam.own j hj).lt gy.ok e
      refine ⟨t72, H18, k1, ?_⟩
      refine ⟨fun m i Hz => ∃ (p : Nat) (f2 : Nat → Int), i = p ∧ p ≤ G.length ∧ m = G.length - p ∧ Hz.get Hy.next = some (.cells (tab (fun j => iv (f2 j)) G.length) 0) ∧ (∀ j, j < p → (lin G f G.length j = [] ∧ f2 j = f j) ∨ ∃ m, IsMode (lin G f G.length j) (f2 j) m) ∧ (∀ j, p ≤ j → f2 j = f j) ∧
          Hz.get Hx.next = some (.cells (tab (fun j => (sl j).v) G.length) 0) ∧ (∀ j, p ≤ j → j < G.length → Own Hz 1 (sl j).a (sl j).l (sl j).c ((lin G f G.length j).map iv)) ∧ Hy.next < Hz.next ∧ Grow Hx Hz,
        ⟨_, 0, f, rfl, by omega, rfl, k2, fun j h => by omega, fun _ _ => rfl, k3.get _ _ (by omega) T17, fun j _ hj => (fam17.own j hj).mod k3 fun b hb x e => by have := hlt_ j hj x e; omega, by have := k3.next; omega, gx17.ext k3 gx.ok fun b hb => .inr (by omega)⟩, ?_⟩
      rintro m i Hz ⟨p, f2, rfl, hp, rfl, hfz, hdone, hrest, hTz, hOw, hnz, gz⟩
      refine cond_dec (fun hlt3 => ?_) (fun hge3 => ?_)
      · have hk : p < G.length := by omega
        have hOp := hOw p (Nat.le_refl _) hk
        have hlp := hOp.num
        have hl2 := lin_le hM f (Nat.le_refl G.length) p
        refine ⟨by omega, by omega, (sl p).a, (sl p).l, (sl p).c, cell_tab hTz hk, cond_dec (fun hpos => ?_) (fun hzero => ?_)⟩
        · obtain ⟨blk, ha, hg⟩ : ∃ blk, (sl p).a = some ⟨blk, 0, none⟩ ∧ Hz.get blk = some (.cells ((lin G f G.length p).map iv) 1) := by
            rcases hOp.st with ⟨_, h, _⟩ | ⟨b, _, h, _⟩ | ⟨b, h1, _, h2⟩
            · omega
            · omega
            · exact ⟨b, h1, h2⟩
          rw [ha]
          refine (common_ok gz.ok ⟨_, hg⟩ hlp.symm (by omega) (by omega)).mono ?_
          rintro _ H20 ⟨x, mm, rfl, hmode, m20⟩
          have hblk : blk < Hy.next := hlt_ p hk _ ha
          have hblk2 : H11.next ≤ blk := hFam.far p hk _ ha
          have f20 := m20.get _ _ (show ¬ Hy.next = blk by omega) hfz
          have T20 := m20.get _ _ (show ¬ Hx.next = blk by omega) hTz
          obtain ⟨H21, r1, r2, r3, r4⟩ := step_tab (g := iv) (x := x) m20.ok f20 hk rfl
          refine ⟨x, rfl, by omega, by omega, H21, r1, ?_⟩
          intro t88 e88
          rw [wrap_i64 (by omega) (by omega)] at e88
          subst e88
          refine ⟨G.length - (p + 1), by omega, p + 1, _, by simp, by omega, rfl, r2, fun j hj => ?_, fun j hj => ?_, r3.get _ _ (by omega) T20, fun j h1 h2 => ?_, ?_, ?_⟩
          · rcases Nat.lt_or_ge j p with h1 | h1
            · rw [upd_ne (by omega)]; exact hdone j h1
            · have : j = p := by omega
              subst this
              rw [upd_self]; exact .inr ⟨mm, hmode⟩
          · rw [upd_ne (by omega)]; exact hrest j (by omega)
          · refine ((hOw j (by omega) h2).mod m20 fun b hb y ey => ?_).mod r3 fun b hb y ey => ?_
            · subst hb
              exact hFam.apart j p h2 hk (by omega) y _ ey ha
            · have := hlt_ j h2 y ey; omega
          · have := m20.next; omega
          · exact (gz.ext m20 gx.ok fun b hb => .inr (by omega)).ext r3 gx.ok fun b hb => .inr (by omega)
        · have hnil : lin G f G.length p = [] := List.length_eq_zero_iff.1 (by omega)
          intro t88 e88
          rw [wrap_i64 (by omega) (by omega)] at e88
          subst e88
          refine ⟨G.length - (p + 1), by omega, p + 1, f2, by simp, by omega, rfl, hfz, fun j hj => ?_, fun j hj => hrest j (by omega), hTz, fun j h1 h2 => hOw j (by omega) h2, hnz, gz⟩
          rcases Nat.lt_or_ge j p with h1 | h1
          · exact hdone j h1
          · have : j = p := by omega
            subst this
            exact .inl ⟨hnil, hrest j (Nat.le_refl _)⟩
      · have hpn : p = G.length := by omega
        subst hpn
        intro t90 e90
        rw [wrap_i64 (by omega) (by omega)] at e90
        subst e90
        refine ⟨T - (tt + 1), by omega, (hI _ _ _ _ _ _).2 ⟨tt + 1, f2, by simp, by omega, rfl, rfl, tab_sl hfz ⟨by omega, hnz⟩, ?_, ⟨f, hLT, hdone⟩, gx.trans gz⟩⟩
        intro y ey
        cases ey
        exact ⟨hnz, _, _, hfz, Nat.zero_le _⟩
  · have : tt = T := by omega
    subst this
    refine ⟨na, nc, f, rfl, ⟨hNow.len, fun hp => ⟨(hNow.base hp).1, ?_⟩, hNow.cells⟩, hLT, g04.trans gx⟩
    have := (hNow.base hp).2
    exact ⟨by omega, this.2⟩
end Go.Proofs.Cx
