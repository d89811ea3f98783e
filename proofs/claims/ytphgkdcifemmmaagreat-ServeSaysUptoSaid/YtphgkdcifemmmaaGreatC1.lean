/-  Graphs: what may be; plain facts. The reference's graph functions. A graph as the document has it. graph.All: all edges, one behind the other. Numbers as bytes: the plain law. wire: numbers, writers, readers. wire: readers. -/
import Derived.Test.YtphgkdcifemmmaaGreatB2
import Derived.Test.YtphgkdcifemmmaaGreatVc1
namespace Go.Ev
open Go
/-! graphs as the memory has them -/
structure Vtx where
  id : Int
  val : Int
  edges : List (Int × Int)
def PEdge (H : AH) (b o : Nat) (e : Int × Int) : Prop := H.cell b o = some (.int .i64 e.1) ∧ H.cell b (o + 1) = some (.int .i64 e.2)
def PVtx (F : Nat → Prop) (H : AH) (b o : Nat) (v : Vtx) : Prop :=
  H.cell b o = some (.int .i64 v.id) ∧ H.cell b (o + 1) = some (.int .i64 v.val) ∧ ∃ ea el ec, H.cell b (o + 2) = some (.slice ea el ec) ∧ Sl F H 2 PEdge ea el v.edges
theorem loc_edge {F : Nat → Prop} : Loc F PEdge := fun _ _ hk _ _ _ hb h => ⟨loc_cell hk hb h.1, loc_cell hk hb h.2⟩
theorem loc_vtx {F : Nat → Prop} : Loc F (PVtx F) := fun _ _ hk _ _ _ hb ⟨h1, h2, ea, el, ec, h3, h4⟩ => ⟨loc_cell hk hb h1, loc_cell hk hb h2, ea, el, ec, loc_cell hk hb h3, h4.keep loc_edge hk⟩
abbrev SlE (F : Nat → Prop) (H : AH) (a : Option Addr) (l : Nat) (es : List (Int × Int)) : Prop := Sl F H 2 PEdge a l es
abbrev SlV (F : Nat → Prop) (H : AH) (a : Option Addr) (l : Nat) (G : List Vtx) : Prop := Sl F H 3 (PVtx F) a l G
abbrev SlI (F : Nat → Prop) (H : AH) (a : Option Addr) (l : Nat) (xs : List Int) : Prop := Sl F H 1 (PInt .i64) a l xs
def fnd : List Vtx → Int → Nat
  | [], _ => 0
  | v :: l, t => if v.id < t then fnd l t + 1 else 0
def isIn (G : List Vtx) (t : Int) : Bool := match G[fnd G t]? with
  | some v => v.id == t
  | none => false
structure IsPos (G : List Vtx) (t : Int) (p : Nat) : Prop where
  le : p ≤ G.length
  low : ∀ k (h : k < G.length), k < p → G[k].id < t
  high : ∀ (h : p < G.length), t ≤ G[p].id
theorem fnd_pos : ∀ (G : List Vtx) (t : Int), IsPos G t (fnd G t)
  | [], _ => ⟨by simp [fnd], fun k h => by simp at h, fun h => by simp at h⟩
  | v :: l, t => by
    have ih := fnd_pos l t
    unfold fnd
    by_cases h : v.id < t
    · rw [if_pos h]
      refine ⟨by simp; exact ih.le, fun k hk hp => ?_, fun hp => ?_⟩
      · cases k with
        | zero => exact h
        | succ k => simpa using ih.low k (by simpa using hk) (by omega)
      · simpa using ih.high (by simpa using hp)
    · rw [if_neg h]
      exact ⟨by simp, fun k hk hp => by omega, fun _ => by simp; omega⟩
theorem IsPos.unique {G : List Vtx} {t : Int} {p q : Nat} (h : IsPos G t p) (k : IsPos G t q) : p = q := by
  rcases Nat.lt_trichotomy p q with e | e | e
  · have := k.le
    have h1 := h.high (by omega)
    have h2 := k.low p (by omega) e
    omega
  · exact e
  · have := h.le
    have h1 := k.high (by omega)
    have h2 := h.low q (by omega) e
    omega
def Rising (G : List Vtx) : Prop := ∀ i j (hi : i < G.length) (hj : j < G.length), i < j → G[i].id < G[j].id
end Go.Ev
namespace Go.Proofs.Cx
open Go Go.Ev
theorem isNaN_ok {x : Int} {H : AH} : FW Ee F_cmp_isNaN_int64 [.int .i64 x] H fun v H' => v = .bool false ∧ H = H' :=
  fw_cmp_isNaN_int64 ⟨by simp, rfl⟩
def cmpI (x y : Int) : Int := if x < y then -1 else if x > y then 1 else 0
theorem cmp_ok {x y : Int} {H : AH} : FW Ee F_cmp_Compare_int64 [.int .i64 x, .int .i64 y] H fun v H' => v = .int .i64 (cmpI x y) ∧ H = H' := by
  refine fw_cmp_Compare_int64 ?_
  refine isNaN_ok.mono ?_
  rintro _ _ ⟨rfl, rfl⟩
  refine ⟨_, rfl, isNaN_ok.mono ?_⟩
  rintro _ _ ⟨rfl, rfl⟩
  refine ⟨_, rfl, ?_⟩
  refine cond_dec (fun h => ⟨by simp [cmpI, h], rfl⟩) (fun h => ?_)
  refine cond_dec (fun h2 => ⟨by simp [cmpI, h, h2], rfl⟩) (fun h2 => ⟨by simp [cmpI, h, h2], rfl⟩)
theorem find1_ok {i v t : Int} {a : Option Addr} {l c : Nat} {H : AH} (ok : Ok H) : FW Ee F_graph_Find_1 [.agg ⟨[.int .i64 i, .int .i64 v, .slice a l c]⟩, .int .i64 t] H fun r H' => r = .int .i64 (cmpI i t) ∧ Grow H H' := by
  refine fw_graph_Find_1 ?_
  rintro H1 rfl
  refine ⟨_, cell_of (get_new_self _ _) rfl, cmp_ok.mono ?_⟩
  rintro _ _ ⟨rfl, rfl⟩
  exact ⟨_, rfl, rfl, Grow.new ok _⟩
theorem bsearch_ok {F : Nat → Prop} {a : Option Addr} {l c : Nat} {t : Int} {H : AH} {G : List Vtx} (ok : Ok H) (hG : SlV F H a l G) (hl : l ≤ 4611686018427387904) (hr : Rising G) :
    FW Ee F_slices_BinarySearchFunc_L_api_Vertex_api_Vertex_int64 [.slice a l c, .int .i64 t, .func (.func F_graph_Find_1) ⟨[]⟩ ⟨[]⟩] H fun r H' => r = .tuple ⟨[.int .i64 (fnd G t), .bool (isIn G t)]⟩ ∧ Grow H H' := by
  have hlen := hG.len
  refine fw_slices_BinarySearchFunc_L_api_Vertex_api_Vertex_int64 ?_
  refine ⟨fun n i j H1 => Grow H H1 ∧ ∃ p q : Nat, i = p ∧ j = q ∧ p ≤ q ∧ q ≤ l ∧ n = q - p ∧ (∀ k (h : k < G.length), k < p → G[k].id < t) ∧ (∀ k (h : k < G.length), q ≤ k → t ≤ G[k].id), ⟨_, .refl ok, 0, l, by simp, by simp, by omega, by omega, rfl, fun k h h1 => by omega, fun k h h1 => by omega⟩, ?_⟩
  rintro n i j H1 ⟨hg, p, q, rfl, rfl, hpq, hql, rfl, hlo, hhi⟩
  refine cond_dec (fun hlt => ?_) (fun hge => ?_)
  · intro t20 e20 t21 e21
    refine ⟨by omega, ?_⟩
    intro t22 e22 h11 e11
    rw [wrap_i64 (by omega) (by omega)] at e20
    subst e20
    rw [wrap_u64 (by omega) (by omega)] at e21
    subst e21
    have hm : t22 = (((p + q) / 2 : Nat) : Int) := by
      rw [e22]
      show ((p : Int) + q).fdiv (2 ^ 1) = _
      rw [Int.fdiv_eq_ediv_of_nonneg _ (by decide)]
      omega
    rw [hm, wrap_i64 (by omega) (by omega)] at e11
    subst e11
    have hm1 : (p + q) / 2 < G.length := by omega
    obtain ⟨hs, c1, c2, ea, el, ec, c3, c4⟩ := hG.nth hm1
    refine grd_intro hs ⟨by omega, by omega, _, _, ea, el, ec, hg.cell id c1, hg.cell id c2, hg.cell id c3, ?_⟩
    refine (find1_ok hg.ok).mono ?_
    rintro _ H2 ⟨rfl, hg2⟩
    refine ⟨_, rfl, ?_⟩
    refine cond_dec (fun hc => ?_) (fun hc => ?_)
    · intro t33 e33
      rw [wrap_i64 (by omega) (by omega)] at e33
      subst e33
      refine ⟨_, ?_, hg.trans hg2, (p + q) / 2 + 1, q, by simp, rfl, by omega, hql, rfl, ?_, hhi⟩
      · omega
      · intro k hk hkp
        have hmid : G[(p + q) / 2].id < t := by
          unfold cmpI at hc
          split at hc
          · assumption
          · split at hc <;> omega
        rcases Nat.lt_or_ge k ((p + q) / 2) with h3 | h3
        · have := hr k _ hk hm1 h3; omega
        · have : k = (p + q) / 2 := by omega
          subst this; exact hmid
    · refine ⟨_, ?_, hg.trans hg2, p, (p + q) / 2, rfl, rfl, by omega, by omega, rfl, hlo, ?_⟩
      · omega
      · intro k hk hkp
        have hmid : t ≤ G[(p + q) / 2].id := by
          unfold cmpI at hc
          split at hc
          · omega
          · omega
        rcases Nat.lt_or_ge ((p + q) / 2) k with h3 | h3
        · have := hr _ k hm1 hk h3; omega
        · have : k = (p + q) / 2 := by omega
          subst this; exact hmid
  · have hpq' : p = q := by omega
    subst hpq'
    have hpos : fnd G t = p := (fnd_pos G t).unique ⟨by omega, hlo, fun h => hhi p h (Nat.le_refl _)⟩
    refine cond_dec (fun hlt => ?_) (fun hge => ?_)
    · have hm1 : p < G.length := by omega
      obtain ⟨hs, c1, c2, ea, el, ec, c3, c4⟩ := hG.nth hm1
      refine grd_intro hs ⟨by omega, by omega, _, _, ea, el, ec, hg.cell id c1, hg.cell id c2, hg.cell id c3, ?_⟩
      refine (find1_ok hg.ok).mono ?_
      rintro _ H2 ⟨rfl, hg2⟩
      refine ⟨_, rfl, ?_, hg.trans hg2⟩
      have h1 := hhi p hm1 (Nat.le_refl _)
      have : (cmpI G[p].id t == 0) = isIn G t := by
        unfold isIn cmpI
        rw [hpos, List.getElem?_eq_getElem hm1]
        simp only
        by_cases h2 : G[p].id = t
        · simp [h2]
        · rw [if_neg (by omega), if_pos (by omega)]; simp [h2]
      rw [this, hpos]
    · refine ⟨?_, hg⟩
      have : isIn G t = false := by
        unfold isIn
        rw [hpos, List.getElem?_eq_none (by omega)]
      rw [this, hpos]
theorem gfind_ok {F : Nat → Prop} {a : Option Addr} {l c : Nat} {t : Int} {H : AH} {G : List Vtx} (ok : Ok H) (hG : SlV F H a l G) (hl : l ≤ 4611686018427387904) (hr : Rising G) :
    FW Ee F_graph_Find [.agg ⟨[.slice a l c]⟩, .int .i64 t] H fun r H' => r = .tuple ⟨[.int .i64 (fnd G t), .bool (isIn G t)]⟩ ∧ Grow H H' := by
  refine fw_graph_Find ?_
  rintro H1 rfl
  refine ⟨_, _, _, cell_of (get_new_self _ _) rfl, ?_⟩
  have hg := Grow.new ok (.cells [.slice a l c] 0)
  refine (bsearch_ok hg.ok (hG.grow loc_vtx hg) hl hr).mono ?_
  rintro _ H2 ⟨rfl, hg2⟩
  exact ⟨_, _, rfl, rfl, hg.trans hg2⟩
end Go.Proofs.Cx
namespace Go.Ev
open Go
def nE : List Vtx → Nat
  | [] => 0
  | v :: l => v.edges.length + nE l
theorem nE_append : ∀ (a b : List Vtx), nE (a ++ b) = nE a + nE b
  | [], b => by simp [nE]
  | v :: a, b => by simp [nE, nE_append a b]; omega
theorem nE_take {G : List Vtx} {k : Nat} (h : k < G.length) : nE (G.take (k + 1)) = nE (G.take k) + G[k].edges.length := by
  rw [List.take_succ_eq_append_getElem h, nE_append]; simp [nE]
theorem nE_take_le (G : List Vtx) (k : Nat) : nE (G.take k) ≤ nE G := by
  have h := nE_append (G.take k) (G.drop k)
  rw [List.take_append_drop] at h
  omega
structure Fit (G : List Vtx) : Prop where
  n : G.length * 40 ≤ 140737488355328
  e : ∀ v ∈ G, v.edges.length * 16 ≤ 140737488355328
theorem Fit.at {G : List Vtx} (h : Fit G) {k : Nat} (hk : k < G.length) : G[k].edges.length * 16 ≤ 140737488355328 := h.e _ (List.getElem_mem _)
theorem nE_bound : ∀ {G : List Vtx}, (∀ v ∈ G, v.edges.length * 16 ≤ 140737488355328) → nE G * 16 ≤ G.length * 140737488355328
  | [], _ => by simp [nE]
  | v :: l, h => by
    have h1 := h v List.mem_cons_self
    have h2 := nE_bound (G := l) fun v hv => h v (List.mem_cons_of_mem _ hv)
    simp only [nE, List.length_cons]; omega
def Steps1 (G : List Vtx) : Prop := ∀ i (h : i + 1 < G.length), G[i].id < G[i + 1].id
theorem Steps1.rising {G : List Vtx} (h : Steps1 G) : Rising G := by
  intro i j hi hj hij
  induction j with
  | zero => omega
  | succ j ih =>
    have h1 := h j hj
    rcases Nat.lt_or_ge i j with h2 | h2
    · have := ih (by omega) h2; omega
    · have : i = j := by omega
      subst this; exact h1
def EdgeOk (G : List Vtx) (i k : Nat) : Prop := ∀ (hi : i < G.length) (hk : k < G[i].edges.length), isIn G (G[i].edges[k]).1 = true ∧ (∀ (h0 : 0 < k), (G[i].edges[k - 1]'(by omega)).1 < (G[i].edges[k]).1)
def EdgesOk (G : List Vtx) : Prop := ∀ i k, EdgeOk G i k
open Classical in
noncomputable def chk (G : List Vtx) : Int := if 256 < G.length ∨ ¬ Steps1 G then 30 else if 2048 < nE G ∨ ¬ EdgesOk G then 31 else 0
structure May (G : List Vtx) : Prop where
  len : G.length ≤ 256
  steps : Steps1 G
  many : nE G ≤ 2048
  edges : EdgesOk G
theorem chk_zero {G : List Vtx} : chk G = 0 ↔ May G := by
  unfold chk
  constructor
  · intro h
    split at h
    · cases h
    · split at h
      · cases h
      · rename_i h1 h2
        simp only [not_or, Classical.not_not] at h1 h2
        exact ⟨by omega, h1.2, by omega, h2.2⟩
  · intro h
    rw [if_neg, if_neg]
    · simp only [not_or, Classical.not_not]; exact ⟨by have := h.many; omega, h.edges⟩
    · simp only [not_or, Classical.not_not]; exact ⟨by have := h.len; omega, h.steps⟩
end Go.Ev
namespace Go.Proofs.Cx
open Go Go.Ev
end Go.Proofs.Cx
namespace Go.Proofs.Cx
open Go Go.Ev
def edgeC (e : Int × Int) : List Value := [.int .i64 e.1, .int .i64 e.2]
def vtxC (q : Vtx × Option Addr × Nat × Nat) : List Value := [.int .i64 q.1.id, .int .i64 q.1.val, .slice q.2.1 q.2.2.1 q.2.2.2]
theorem edges_sl {F : Nat → Prop} {H : AH} {a : Option Addr} {l c : Nat} {es : List (Int × Int)} (h : Own H 2 a l c (es.flatMap edgeC)) (hF : ∀ x, a = some x → F x.block) : SlE F H a l es :=
  h.sl (fun _ => rfl) (by decide) hF fun _ _ _ _ k => ⟨k 0 _ rfl, k 1 _ rfl⟩
end Go.Proofs.Cx
namespace Go.Ev
open Go
def flatE (G : List Vtx) : List (Int × Int × Int) := G.flatMap fun v => v.edges.map fun e => (v.id, e)
theorem flatE_append (a b : List Vtx) : flatE (a ++ b) = flatE a ++ flatE b := by simp [flatE]
theorem flatE_take {G : List Vtx} {p : Nat} (h : p < G.length) : flatE (G.take (p + 1)) = flatE (G.take p) ++ G[p].edges.map fun e => (G[p].id, e) := by
  rw [List.take_succ_eq_append_getElem h, flatE_append]; simp [flatE]
theorem flatE_len : ∀ (G : List Vtx), (flatE G).length = nE G
  | [] => rfl
  | v :: l => by
    have := flatE_len l
    simp only [flatE, List.flatMap_cons, List.length_append, List.length_map, nE] at this ⊢
    omega
theorem flatE_split {G : List Vtx} {p j : Nat} (h : p < G.length) (hj : j < G[p].edges.length) :
    flatE G = (flatE (G.take p) ++ (G[p].edges.take j).map fun e => (G[p].id, e)) ++ (G[p].id, G[p].edges[j]) :: ((G[p].edges.drop (j + 1)).map (fun e => (G[p].id, e)) ++ flatE (G.drop (p + 1))) := by
  have h1 : G = G.take p ++ G[p] :: G.drop (p + 1) := by rw [List.getElem_cons_drop, List.take_append_drop]
  have h2 : G[p].edges = G[p].edges.take j ++ G[p].edges[j] :: G[p].edges.drop (j + 1) := by rw [List.getElem_cons_drop, List.take_append_drop]
  have h3 : flatE G = flatE (G.take p) ++ (G[p].edges.map (fun e => (G[p].id, e)) ++ flatE (G.drop (p + 1))) := by
    conv => lhs; rw [h1]
    simp only [flatE, List.flatMap_append, List.flatMap_cons]
  have h4 : G[p].edges.map (fun e => (G[p].id, e)) = (G[p].edges.take j).map (fun e => (G[p].id, e)) ++ (G[p].id, G[p].edges[j]) :: (G[p].edges.drop (j + 1)).map (fun e => (G[p].id, e)) := by
    conv => lhs; rw [h2]
    simp only [List.map_append, List.map_cons]
  rw [h3, h4]
  simp only [List.append_assoc, List.cons_append]
end Go.Ev
namespace Go.Proofs.Cx
open Go Go.Ev
theorem all1_ok {F S : Nat → Prop} {tb y : Nat} {a : Option Addr} {l c : Nat} {H : AH} {G : List Vtx} {R : List (Int × Int × Int) → AH → Prop} (ok : Ok H) (hG : SlV F H a l G) (hl : l ≤ 4611686018427387904) (hE : ∀ v ∈ G, v.edges.length * 16 ≤ 140737488355328)
    (ht : H.cell tb 0 = some (.slice a l c)) (hS : ∀ b, S b → b < H.next ∧ ¬ F b)
    (h0 : R [] H) (hst : ∀ done H1 H2, R done H1 → Grow H1 H2 → R done H2)
    (hR : ∀ done x rest H1, flatE G = done ++ x :: rest → R done H1 → Ok H1 → Mod S H H1 → RW Ee y [.int .i64 x.1, .agg ⟨[.int .i64 x.2.1, .int .i64 x.2.2]⟩] H1 fun v H2 => v = .bool true ∧ R (done ++ [x]) H2 ∧ Mod S H1 H2) :
    FW Ee F_graph_All_1 [.func (.yield y) ⟨[]⟩ ⟨[]⟩, .pointer (some ⟨tb, 0, none⟩)] H fun _ H' => R (flatE G) H' ∧ Mod S H H' := by
  have hlen := hG.len
  refine fw_graph_All_1 ?_
  refine ⟨a, l, c, ht, ?_⟩
  refine ⟨fun n i H1 => ∃ p : Nat, i = p ∧ p ≤ l ∧ n = l - p ∧ R (flatE (G.take p)) H1 ∧ Mod S H H1, ⟨_, 0, rfl, by omega, rfl, h0, .refl ok⟩, ?_⟩
  rintro n i H1 ⟨p, rfl, hp, rfl, r1, m1⟩
  refine cond_dec (fun hlt => ?_) (fun hge => ?_)
  · have hk : p < G.length := by omega
    obtain ⟨hs, c1, c2, ea, el, ec, c3, c4⟩ := (hG.mod loc_vtx m1 (fun b hb h => (hS b h).2 hb)).nth hk
    have hel := c4.len
    have hfe := hE _ (List.getElem_mem hk)
    refine grd_intro hs ⟨by omega, by omega, _, _, ea, el, ec, c1, c2, c3, ?_⟩
    intro H1' e1'
    obtain ⟨H2, e2, b2, g2, n2⟩ := fresh_store (vs := [.int .i64 G[p].id, .int .i64 G[p].val, .slice ea el ec]) e1' rfl rfl m1.ok
    refine ⟨H2, e2, ea, el, ec, cell_of b2 rfl, ?_⟩
    refine ⟨fun n k H3 => ∃ j : Nat, k = j ∧ j ≤ el ∧ n = el - j ∧ R (flatE (G.take p) ++ (G[p].edges.take j).map fun e => (G[p].id, e)) H3 ∧ Mod S H H3 ∧ Mod S H1 H3 ∧ H3.get H1.next = some (.cells [.int .i64 G[p].id, .int .i64 G[p].val, .slice ea el ec] 0),
      ⟨_, 0, rfl, by omega, rfl, by simpa using hst _ _ _ r1 g2, m1.add g2, (Mod.refl m1.ok).add g2, b2⟩, ?_⟩
    rintro n k H3 ⟨j, rfl, hj, rfl, r3, m3, m13, b3⟩
    refine cond_dec (fun hlt2 => ?_) (fun hge2 => ?_)
    · have hk2 : j < G[p].edges.length := by omega
      obtain ⟨hs2, d1, d2⟩ := (c4.mod loc_edge m13 (fun b hb h => (hS b h).2 hb)).nth hk2
      refine grd_intro hs2 ⟨by omega, by omega, _, _, d1, d2, ?_⟩
      intro H3' e3'
      obtain ⟨H4, e4, b4, g4, n4⟩ := fresh_store (vs := [.int .i64 G[p].edges[j].1, .int .i64 G[p].edges[j].2]) e3' rfl rfl m3.ok
      refine ⟨H4, e4, _, cell_of (g4.get _ _ id b3) rfl, _, _, cell_of b4 rfl, cell_of b4 rfl, ?_⟩
      refine (hR _ (G[p].id, G[p].edges[j]) _ H4 (flatE_split hk hk2) (hst _ _ _ r3 g4) g4.ok (m3.add g4)).mono ?_
      rintro _ H5 ⟨rfl, r5, m5⟩
      refine ⟨_, rfl, ?_⟩
      refine cond_neg rfl ?_
      intro t27 e27
      rw [wrap_i64 (by omega) (by omega)] at e27
      subst e27
      refine ⟨_, ?_, j + 1, by simp, by omega, rfl, ?_, ?_, ?_, ?_⟩
      · omega
      · rw [List.take_succ_eq_append_getElem hk2, List.map_append, ← List.append_assoc]; exact r5
      · exact (m3.add g4).trans m5
      · exact (m13.add g4).trans m5
      · exact m5.get _ _ (fun h => by have := (hS _ h).1; have := m1.next; omega) (g4.get _ _ id b3)
    · intro t28 e28
      rw [wrap_i64 (by omega) (by omega)] at e28
      subst e28
      refine ⟨_, ?_, p + 1, by simp, by omega, rfl, ?_, m3⟩
      · omega
      · rw [flatE_take hk]
        have e3 : G[p].edges.take j = G[p].edges := List.take_of_length_le (by omega)
        rw [e3] at r3
        exact r3
  · refine ⟨?_, m1⟩
    rw [List.take_of_length_le (by omega)] at r1
    exact r1
theorem all_ok {a : Option Addr} {l c : Nat} {H : AH} (ok : Ok H) :
    FW Ee F_graph_All [.agg ⟨[.slice a l c]⟩] H fun r H' => r = .func (.func F_graph_All_1) ⟨[]⟩ ⟨[.pointer (some ⟨H.next, 0, none⟩)]⟩ ∧ H'.get H.next = some (.cells [.slice a l c] 0) ∧ Grow H H' := by
  refine fw_graph_All ?_
  intro H1 e1
  subst e1
  exact ⟨rfl, get_new_self _ _, Grow.new ok _⟩
end Go.Proofs.Cx
namespace Go.Ev
open Go
theorem u8_of {n : Nat} (h : n < 256) : (UInt8.ofNat n).toNat = n := by
  rw [UInt8.toNat_ofNat']; exact Nat.mod_eq_of_lt h
theorem u8_to (b : UInt8) : UInt8.ofNat b.toNat = b := UInt8.ofNat_toNat
def enc (n : Nat) : List UInt8 := if n < 128 then [UInt8.ofNat n] else UInt8.ofNat (n % 128 + 128) :: enc (n / 128)
termination_by n
decreasing_by omega
theorem enc_lo {n : Nat} (h : n < 128) : enc n = [UInt8.ofNat n] := by rw [enc, if_pos h]
theorem enc_hi {n : Nat} (h : 128 ≤ n) : enc n = UInt8.ofNat (n % 128 + 128) :: enc (n / 128) := by rw [enc, if_neg (by omega)]
theorem enc_cons (n : Nat) : ∃ b l, enc n = b :: l := by
  by_cases h : n < 128
  · exact ⟨_, _, enc_lo h⟩
  · exact ⟨_, _, enc_hi (by omega)⟩
theorem enc_inj (n : Nat) : ∀ m t u, enc n ++ t = enc m ++ u → n = m ∧ t = u := by
  induction n using Nat.strongRecOn with
  | _ n ih =>
    intro m t u h
    by_cases hn : n < 128 <;> by_cases hm : m < 128
    · rw [enc_lo hn, enc_lo hm] at h
      simp only [List.cons_append, List.nil_append, List.cons.injEq] at h
      have e := congrArg UInt8.toNat h.1
      rw [u8_of (by omega), u8_of (by omega)] at e
      exact ⟨e, h.2⟩
    · rw [enc_lo hn, enc_hi (by omega)] at h
      simp only [List.cons_append, List.nil_append, List.cons.injEq] at h
      have e := congrArg UInt8.toNat h.1
      rw [u8_of (by omega), u8_of (by omega)] at e
      omega
    · rw [enc_lo hm, enc_hi (by omega)] at h
      simp only [List.cons_append, List.nil_append, List.cons.injEq] at h
      have e := congrArg UInt8.toNat h.1
      rw [u8_of (by omega), u8_of (by omega)] at e
      omega
    · rw [enc_hi (n := n) (by omega), enc_hi (n := m) (by omega)] at h
      simp only [List.cons_append, List.cons.injEq] at h
      obtain ⟨h1, h2⟩ := ih (n / 128) (by omega) _ _ _ h.2
      have e := congrArg UInt8.toNat h.1
      rw [u8_of (by omega), u8_of (by omega)] at e
      exact ⟨by omega, h2⟩
theorem enc_len_pos (n : Nat) : 0 < (enc n).length := by
  obtain ⟨b, l, e⟩ := enc_cons n
  rw [e]; simp
theorem enc_len {k : Nat} : ∀ {n : Nat}, n < 128 ^ k → 0 < k → (enc n).length ≤ k := by
  induction k with
  | zero => intro n _ h; omega
  | succ k ih =>
    intro n hn _
    by_cases h : n < 128
    · rw [enc_lo h]; simp
    · rw [enc_hi (by omega), List.length_cons]
      rw [Nat.pow_succ] at hn
      rcases Nat.eq_zero_or_pos k with hk | hk
      · subst hk; simp at hn; omega
      · have := ih (n := n / 128) (by omega) hk
        omega
theorem enc_len64 {n : Nat} (h : n < 18446744073709551616) : (enc n).length ≤ 10 := enc_len (by rw [show (128 : Nat) ^ 10 = 1180591620717411303424 from by decide]; omega) (by omega)
/-! ### A number that is read -/
structure NumI (l : List UInt8) (i n : Nat) : Prop where
  lt : n < 128 ^ i
  out : ∀ v, (i = 0 ∨ 0 < v) → enc (n + v * 128 ^ i) = l.take i ++ enc v
  inn : ∀ m t, l = enc m ++ t → ∃ v, (i = 0 ∨ 0 < v) ∧ m = n + v * 128 ^ i ∧ l.drop i = enc v ++ t
  le : i ≤ l.length
theorem NumI.start (l : List UInt8) : NumI l 0 0 :=
  ⟨by simp, fun v _ => by simp, fun m t h => ⟨m, .inl rfl, by simp, by simpa using h⟩, by omega⟩
theorem NumI.next {l : List UInt8} {i n : Nat} (h : NumI l i n) (hi : i < l.length) (hb : 128 ≤ l[i].toNat) : NumI l (i + 1) (n + (l[i].toNat - 128) * 128 ^ i) := by
  have hlt := h.lt
  have hb2 := l[i].toNat_lt
  obtain ⟨P, hP⟩ : ∃ P, P = 128 ^ i := ⟨_, rfl⟩
  have hP1 : 128 ^ (i + 1) = P * 128 := by rw [Nat.pow_succ, hP]
  have hout := h.out
  have hinn := h.inn
  rw [← hP] at hlt hout hinn
  rw [← hP]
  refine ⟨?_, fun v hv => ?_, fun m t e => ?_, by omega⟩
  · have := Nat.mul_le_mul_right P (show l[i].toNat - 128 ≤ 127 by omega)
    rw [hP1]; omega
  · have hv : 0 < v := by omega
    rw [hP1]
    have e1 : n + (l[i].toNat - 128) * P + v * (P * 128) = n + ((l[i].toNat - 128) + 128 * v) * P := by
      rw [Nat.add_mul, Nat.mul_comm P 128, ← Nat.mul_assoc, Nat.mul_comm v 128]; omega
    rw [e1, hout _ (.inr (by omega)), enc_hi (by omega), List.take_succ_eq_append_getElem hi, List.append_assoc]
    congr 1
    rw [show ((l[i].toNat - 128) + 128 * v) % 128 + 128 = l[i].toNat from by omega, show ((l[i].toNat - 128) + 128 * v) / 128 = v from by omega, u8_to]
    rfl
  · obtain ⟨v, hv, h1, h2⟩ := hinn m t e
    rw [List.drop_eq_getElem_cons hi] at h2
    by_cases hv2 : v < 128
    · rw [enc_lo hv2] at h2
      simp only [List.cons_append, List.nil_append, List.cons.injEq] at h2
      have e := congrArg UInt8.toNat h2.1
      rw [u8_of (by omega)] at e
      omega
    · rw [enc_hi (by omega)] at h2
      simp only [List.cons_append, List.cons.injEq] at h2
      have e := congrArg UInt8.toNat h2.1
      rw [u8_of (by omega)] at e
      refine ⟨v / 128, .inr (by omega), ?_, h2.2⟩
      rw [hP1, h1, e]
      have e3 : v = (v % 128 + 128 - 128) + 128 * (v / 128) := by omega
      have e2 : v * P = (v % 128 + 128 - 128) * P + v / 128 * (P * 128) := by
        conv => lhs; rw [e3]
        rw [Nat.add_mul, Nat.mul_comm P 128, ← Nat.mul_assoc, Nat.mul_comm (v / 128) 128]
      omega
theorem NumI.stop {l : List UInt8} {i n : Nat} (h : NumI l i n) (hi : i < l.length) (hb : l[i].toNat < 128) (h0 : i = 0 ∨ 0 < l[i].toNat) : l = enc (n + l[i].toNat * 128 ^ i) ++ l.drop (i + 1) := by
  rw [h.out _ h0, enc_lo hb, u8_to, ← List.take_succ_eq_append_getElem hi, List.take_append_drop]
theorem NumI.cut {l : List UInt8} {i n : Nat} (h : NumI l i n) (hi : l.length ≤ i) (m : Nat) (t : List UInt8) : l ≠ enc m ++ t := by
  intro e
  obtain ⟨v, _, _, h2⟩ := h.inn m t e
  rw [List.drop_of_length_le hi] at h2
  obtain ⟨b, r, e2⟩ := enc_cons v
  rw [e2] at h2; simp at h2
theorem NumI.first {l : List UInt8} {i n : Nat} (h : NumI l i n) (hi : i < l.length) {m : Nat} {t : List UInt8} (e : l = enc m ++ t) : ∃ v, (i = 0 ∨ 0 < v) ∧ m = n + v * 128 ^ i ∧ (l[i].toNat = v ∨ 128 ≤ v ∧ 128 ≤ l[i].toNat) := by
  obtain ⟨v, hv, h1, h2⟩ := h.inn m t e
  rw [List.drop_eq_getElem_cons hi] at h2
  refine ⟨v, hv, h1, ?_⟩
  by_cases hv2 : v < 128
  · rw [enc_lo hv2] at h2
    simp only [List.cons_append, List.nil_append, List.cons.injEq] at h2
    have e := congrArg UInt8.toNat h2.1
    rw [u8_of (by omega)] at e
    exact .inl e
  · rw [enc_hi (by omega)] at h2
    simp only [List.cons_append, List.cons.injEq] at h2
    have e := congrArg UInt8.toNat h2.1
    rw [u8_of (by omega)] at e
    exact .inr ⟨by omega, by omega⟩
theorem NumI.zero {l : List UInt8} {i n : Nat} (h : NumI l i n) (hi : i < l.length) (hb : l[i].toNat = 0) (h0 : 0 < i) (m : Nat) (t : List UInt8) : l ≠ enc m ++ t := by
  intro e
  obtain ⟨v, hv, _, h2⟩ := h.first hi e
  omega
theorem NumI.big {l : List UInt8} {n : Nat} (h : NumI l 9 n) (hi : 9 < l.length) (hb : 1 < l[9].toNat) (m : Nat) (t : List UInt8) (hm : m < 18446744073709551616) : l ≠ enc m ++ t := by
  intro e
  obtain ⟨v, _, h1, h2⟩ := h.first hi e
  rw [show (128 : Nat) ^ 9 = 9223372036854775808 from by decide] at h1
  omega
/-! ### Words of bits -/
theorem ofInt_nat (w n : Nat) : BitVec.ofInt w (n : Int) = BitVec.ofNat w n := BitVec.ofInt_natCast w n
theorem ior_u64 {a b : Nat} (ha : a < 18446744073709551616) (hb : b < 18446744073709551616) : ior .u64 (a : Int) (b : Int) = ((a ||| b : Nat) : Int) := by
  have h : a ||| b < 2 ^ 64 := Nat.or_lt_two_pow (by simpa using ha) (by simpa using hb)
  unfold ior
  have e : (BitVec.ofInt IntKind.u64.bits (a : Int) ||| BitVec.ofInt IntKind.u64.bits (b : Int)).toNat = a ||| b := by
    show (BitVec.ofInt 64 (a : Int) ||| BitVec.ofInt 64 (b : Int)).toNat = a ||| b
    rw [ofInt_nat, ofInt_nat, BitVec.toNat_or, BitVec.toNat_ofNat, BitVec.toNat_ofNat, Nat.mod_eq_of_lt (by simpa using ha), Nat.mod_eq_of_lt (by simpa using hb)]
  rw [e, wrap_u64 (by omega) (by have : (2 : Nat) ^ 64 = 18446744073709551616 := by decide
                                 omega)]
theorem or_add {n x i : Nat} (hn : n < 128 ^ i) : n ||| x * 128 ^ i = n + x * 128 ^ i := by
  have e : (128 : Nat) ^ i = 2 ^ (7 * i) := by rw [Nat.pow_mul]
  rw [e] at hn ⊢
  rw [← Nat.shiftLeft_eq, Nat.or_comm, ← Nat.shiftLeft_add_eq_or_of_lt hn, Nat.add_comm]
theorem small_bits : ∀ b : Fin 256, b.val &&& 127 = b.val % 128 ∧ (b.val &&& 128 = if b.val < 128 then 0 else 128) ∧ b.val ||| 128 = b.val % 128 + 128 := by decide +kernel
theorem iand_u8 {a b : Nat} (ha : a < 256) (hb : b < 256) : iand .u8 (a : Int) (b : Int) = ((a &&& b : Nat) : Int) := by
  have h : a &&& b < 2 ^ 8 := Nat.and_lt_two_pow _ (by simpa using hb)
  unfold iand
  have e : (BitVec.ofInt IntKind.u8.bits (a : Int) &&& BitVec.ofInt IntKind.u8.bits (b : Int)).toNat = a &&& b := by
    show (BitVec.ofInt 8 (a : Int) &&& BitVec.ofInt 8 (b : Int)).toNat = a &&& b
    rw [ofInt_nat, ofInt_nat, BitVec.toNat_and, BitVec.toNat_ofNat, BitVec.toNat_ofNat, Nat.mod_eq_of_lt (by simpa using ha), Nat.mod_eq_of_lt (by simpa using hb)]
  rw [e, wrap_u8 (by omega) (by omega)]
theorem ior_u8 {a b : Nat} (ha : a < 256) (hb : b < 256) : ior .u8 (a : Int) (b : Int) = ((a ||| b : Nat) : Int) := by
  have h : a ||| b < 2 ^ 8 := Nat.or_lt_two_pow (by simpa using ha) (by simpa using hb)
  unfold ior
  have e : (BitVec.ofInt IntKind.u8.bits (a : Int) ||| BitVec.ofInt IntKind.u8.bits (b : Int)).toNat = a ||| b := by
    show (BitVec.ofInt 8 (a : Int) ||| BitVec.ofInt 8 (b : Int)).toNat = a ||| b
    rw [ofInt_nat, ofInt_nat, BitVec.toNat_or, BitVec.toNat_ofNat, BitVec.toNat_ofNat, Nat.mod_eq_of_lt (by simpa using ha), Nat.mod_eq_of_lt (by simpa using hb)]
  rw [e, wrap_u8 (by omega) (by omega)]
theorem low7 {a : Nat} (ha : a < 256) : iand .u8 (a : Int) 127 = ((a % 128 : Nat) : Int) := by
  have := iand_u8 (b := 127) ha (by omega)
  rw [show ((127 : Nat) : Int) = 127 from rfl] at this
  rw [this, (small_bits ⟨a, ha⟩).1]
theorem high1 {a : Nat} (ha : a < 256) : iand .u8 (a : Int) 128 = if a < 128 then 0 else 128 := by
  have := iand_u8 (b := 128) ha (by omega)
  rw [show ((128 : Nat) : Int) = 128 from rfl] at this
  rw [this, (small_bits ⟨a, ha⟩).2.1]
  split <;> rfl
theorem set_high {a : Nat} (ha : a < 256) : ior .u8 (a : Int) 128 = ((a % 128 + 128 : Nat) : Int) := by
  have := ior_u8 (b := 128) ha (by omega)
  rw [show ((128 : Nat) : Int) = 128 from rfl] at this
  rw [this, (small_bits ⟨a, ha⟩).2.2]
/-! ### Numbers with a sign -/
def fold (x : Int) : Nat := if 0 ≤ x then (2 * x).toNat else (-2 * x - 1).toNat
def unfold_ (n : Nat) : Int := if n % 2 = 0 then ((n / 2 : Nat) : Int) else -((n / 2 : Nat) : Int) - 1
theorem unfold_fold (x : Int) : unfold_ (fold x) = x := by
  unfold fold unfold_
  split <;> split <;> omega
theorem fold_unfold (n : Nat) : fold (unfold_ n) = n := by
  unfold fold unfold_
  split <;> split <;> omega
theorem fold_lt {x : Int} (h : I64 x) : fold x < 18446744073709551616 := by
  unfold fold; obtain ⟨h1, h2⟩ := h
  split <;> omega
theorem unfold_i64 {n : Nat} (h : n < 18446744073709551616) : I64 (unfold_ n) := by
  unfold unfold_ I64
  split <;> omega
def sgB (x : Int) : List UInt8 := enc (fold x)
theorem sgB_inj {x y : Int} {t u : List UInt8} (h : sgB x ++ t = sgB y ++ u) : x = y ∧ t = u := by
  obtain ⟨h1, h2⟩ := enc_inj _ _ _ _ h
  exact ⟨by rw [← unfold_fold x, h1, unfold_fold], h2⟩
theorem ixor_u64_zero {a : Nat} (ha : a < 18446744073709551616) : ixor .u64 (a : Int) 0 = a := by
  unfold ixor
  have e : (BitVec.ofInt IntKind.u64.bits (a : Int) ^^^ BitVec.ofInt IntKind.u64.bits 0).toNat = a := by
    show (BitVec.ofInt 64 (a : Int) ^^^ BitVec.ofInt 64 ((0 : Nat) : Int)).toNat = a
    rw [ofInt_nat, ofInt_nat, BitVec.toNat_xor, BitVec.toNat_ofNat, BitVec.toNat_ofNat, Nat.mod_eq_of_lt (by simpa using ha)]
    simp
  rw [e, wrap_u64 (by omega) (by omega)]
theorem ixor_u64_ones {a : Nat} (ha : a < 18446744073709551616) : ixor .u64 (a : Int) 18446744073709551615 = ((18446744073709551615 - a : Nat) : Int) := by
  unfold ixor
  have e : (BitVec.ofInt IntKind.u64.bits (a : Int) ^^^ BitVec.ofInt IntKind.u64.bits 18446744073709551615).toNat = 18446744073709551615 - a := by
    show (BitVec.ofInt 64 (a : Int) ^^^ BitVec.ofInt 64 18446744073709551615).toNat = 18446744073709551615 - a
    rw [show BitVec.ofInt 64 18446744073709551615 = BitVec.allOnes 64 from by decide, BitVec.xor_allOnes, BitVec.toNat_not, ofInt_nat, BitVec.toNat_ofNat, Nat.mod_eq_of_lt (by simpa using ha)]
  rw [e, wrap_u64 (by omega) (by omega)]
theorem ixor_i64_zero {a : Nat} (ha : a < 9223372036854775808) : ixor .i64 (a : Int) 0 = a := by
  unfold ixor
  have e : (BitVec.ofInt IntKind.i64.bits (a : Int) ^^^ BitVec.ofInt IntKind.i64.bits 0).toNat = a := by
    show (BitVec.ofInt 64 (a : Int) ^^^ BitVec.ofInt 64 ((0 : Nat) : Int)).toNat = a
    rw [ofInt_nat, ofInt_nat, BitVec.toNat_xor, BitVec.toNat_ofNat, BitVec.toNat_ofNat, Nat.mod_eq_of_lt (by simp; omega)]
    simp
  rw [e, wrap_i64 (by omega) (by omega)]
theorem wrap_i64_up {x : Int} (h1 : 9223372036854775808 ≤ x) (h2 : x < 18446744073709551616) : IntKind.i64.wrap x = x - 18446744073709551616 := by
  have hb : (2 ^ IntKind.i64.bits : Int) = 18446744073709551616 := by rfl
  have hc : (2 ^ (IntKind.i64.bits - 1) : Int) = 9223372036854775808 := by rfl
  have hs : IntKind.i64.signed = true := rfl
  simp only [IntKind.wrap, hb, hc, hs, Bool.true_and, decide_eq_true_eq]
  split <;> omega
theorem wrap_u64_neg {x : Int} (h1 : -18446744073709551616 ≤ x) (h2 : x < 0) : IntKind.u64.wrap x = x + 18446744073709551616 := by
  have hb : (2 ^ IntKind.u64.bits : Int) = 18446744073709551616 := by rfl
  have hs : IntKind.u64.signed = false := rfl
  simp only [IntKind.wrap, hb, hs, Bool.false_and]
  simp only [Bool.false_eq_true, if_false]
  omega
theorem ixor_i64_ones {a : Nat} (ha : a < 9223372036854775808) : ixor .i64 (a : Int) (-1) = -(a : Int) - 1 := by
  unfold ixor
  have e : (BitVec.ofInt IntKind.i64.bits (a : Int) ^^^ BitVec.ofInt IntKind.i64.bits (-1)).toNat = 18446744073709551615 - a := by
    show (BitVec.ofInt 64 (a : Int) ^^^ BitVec.ofInt 64 (-1)).toNat = 18446744073709551615 - a
    rw [show BitVec.ofInt 64 (-1) = BitVec.allOnes 64 from by decide, BitVec.xor_allOnes, BitVec.toNat_not, ofInt_nat, BitVec.toNat_ofNat, Nat.mod_eq_of_lt (by simp; omega)]
  rw [e, wrap_i64_up (by omega) (by omega)]
  omega
theorem wrap_u64_dbl {x : Int} (h1 : 18446744073709551616 ≤ x) (h2 : x < 36893488147419103232) : IntKind.u64.wrap x = x - 18446744073709551616 := by
  have hb : (2 ^ IntKind.u64.bits : Int) = 18446744073709551616 := by rfl
  have hs : IntKind.u64.signed = false := rfl
  simp only [IntKind.wrap, hb, hs, Bool.false_and]
  simp only [Bool.false_eq_true, if_false]
  omega
end Go.Ev
namespace Go.Ev
open Go
def u8c (c : UInt8) : Value := .int .u8 (c.toNat : Int)
theorem u8c_one (bs : List UInt8) : (bs.map u8c).all oneCell = true := by simp [u8c, oneCell]
theorem bytesOf_map : ∀ bs : List UInt8, bytesOf (bs.map u8c) = some bs
  | [] => rfl
  | b :: bs => by
    rw [List.map_cons]
    unfold bytesOf
    rw [show byteOf (u8c b) = some b from by simp only [u8c, byteOf, Int.toNat_natCast, u8_to], bytesOf_map bs]
theorem off_not {a : Option Addr} {b : Nat} (h : ¬ Off a b) : ∃ x, a = some x ∧ x.block = b := by
  cases a with
  | none => exact (h fun x e => by cases e).elim
  | some x =>
    by_cases e : x.block = b
    · exact ⟨x, rfl, e⟩
    · exact (h fun y ey => by cases ey; exact e).elim
theorem own_lt {H : AH} {sz l c : Nat} {a : Option Addr} {cs : List Value} (h : Own H sz a l c cs) (ok : Ok H) {x : Addr} (e : a = some x) : x.block < H.next := by
  rcases h.st with ⟨h1, _⟩ | ⟨b, h1, _, _, h4⟩ | ⟨b, h1, _, h4⟩
  · rw [h1] at e; cases e
  · rw [h1] at e; cases e; exact ok.lt h4
  · rw [h1] at e; cases e; exact ok.lt h4
theorem wrap_u8_nat (v : Nat) : IntKind.u8.wrap (v : Int) = ((v % 256 : Nat) : Int) := by
  have hb : (2 ^ IntKind.u8.bits : Int) = 256 := by rfl
  have hs : IntKind.u8.signed = false := rfl
  simp only [IntKind.wrap, hb, hs, Bool.false_and]
  simp only [Bool.false_eq_true, if_false]
  omega
theorem shr7 (v : Nat) : (v : Int).fdiv (2 ^ (min (7 : Int).toNat IntKind.u64.bits)) = ((v / 128 : Nat) : Int) := by
  have e : (2 : Int) ^ (min (7 : Int).toNat IntKind.u64.bits) = 128 := by decide
  rw [e, Int.fdiv_eq_ediv_of_nonneg _ (by omega)]; omega
theorem shr1 (v : Nat) : (v : Int).fdiv (2 ^ (min (1 : Int).toNat IntKind.u64.bits)) = ((v / 2 : Nat) : Int) := by
  have e : (2 : Int) ^ (min (1 : Int).toNat IntKind.u64.bits) = 2 := by decide
  rw [e, Int.fdiv_eq_ediv_of_nonneg _ (by omega)]; omega
theorem shr63 (v : Int) : v.fdiv (2 ^ (min (63 : Int).toNat IntKind.i64.bits)) = v / 9223372036854775808 := by
  have e : (2 : Int) ^ (min (63 : Int).toNat IntKind.i64.bits) = 9223372036854775808 := by decide
  rw [e, Int.fdiv_eq_ediv_of_nonneg _ (by omega)]
theorem shl1 (v : Int) : v * 2 ^ (min (1 : Int).toNat IntKind.u64.bits) = v * 2 := by
  have e : (2 : Int) ^ (min (1 : Int).toNat IntKind.u64.bits) = 2 := by decide
  rw [e]
theorem iand_one {a : Nat} (ha : a < 18446744073709551616) : iand .u64 (a : Int) 1 = ((a % 2 : Nat) : Int) := by
  unfold iand
  have e : (BitVec.ofInt IntKind.u64.bits (a : Int) &&& BitVec.ofInt IntKind.u64.bits 1).toNat = a % 2 := by
    show (BitVec.ofInt 64 (a : Int) &&& BitVec.ofInt 64 ((1 : Nat) : Int)).toNat = a % 2
    rw [ofInt_nat, ofInt_nat, BitVec.toNat_and, BitVec.toNat_ofNat, BitVec.toNat_ofNat, Nat.mod_eq_of_lt (by simpa using ha)]
    show a &&& 1 = a % 2
    exact Nat.and_one_is_mod a
  rw [e, wrap_u64 (by omega) (by omega)]
def Wr (H : AH) (n0 b : Nat) (bs : List UInt8) : Prop :=
  n0 ≤ b ∧ ∃ a l c, H.get b = some (.cells [.slice a l c] 0) ∧ Own H 1 a l c (bs.map u8c) ∧ ∀ x, a = some x → n0 ≤ x.block ∧ x.block ≠ b
theorem Wr.mod {S : Nat → Prop} {H H' : AH} {n0 b : Nat} {bs : List UInt8} (h : Wr H n0 b bs) (hm : Mod S H H') (hs : ∀ x, S x → x < n0) : Wr H' n0 b bs := by
  obtain ⟨h0, a, l, c, h1, h2, h3⟩ := h
  exact ⟨h0, a, l, c, hm.get _ _ (fun hb => by have := hs _ hb; omega) h1, h2.mod hm (fun x hx y ey e => by have := hs _ hx; have := (h3 y ey).1; omega), h3⟩
theorem Wr.grow {H H' : AH} {n0 b : Nat} {bs : List UInt8} (h : Wr H n0 b bs) (hm : Grow H H') : Wr H' n0 b bs := h.mod hm fun _ h => h.elim
def WrS (H : AH) (b x : Nat) : Prop := x = b ∨ ∃ a l c, H.get b = some (.cells [.slice a l c] 0) ∧ ¬ Off a x
theorem WrS.of {H H' : AH} {b x : Nat} {o : AObj} (h : H.get b = some o) (h' : H'.get b = some o) (k : WrS H' b x) : WrS H b x := by
  rcases k with k | ⟨a, l, c, e, ho⟩
  · exact .inl k
  · exact .inr ⟨a, l, c, h.trans (h'.symm.trans e), ho⟩
theorem Wr.low {H : AH} {n0 b x : Nat} {bs : List UInt8} (h : Wr H n0 b bs) (k : WrS H b x) : n0 ≤ x := by
  obtain ⟨h0, a, l, c, h1, h2, h3⟩ := h
  rcases k with rfl | ⟨a', l', c', e, ho⟩
  · exact h0
  · rw [h1] at e
    cases e
    obtain ⟨y, ey, rfl⟩ := off_not ho
    exact (h3 y ey).1
theorem Wr.lt {H : AH} {n0 b x : Nat} {bs : List UInt8} (ok : Ok H) (h : Wr H n0 b bs) (k : WrS H b x) : x < H.next := by
  obtain ⟨h0, a, l, c, h1, h2, h3⟩ := h
  rcases k with rfl | ⟨a', l', c', e, ho⟩
  · exact ok.lt h1
  · rw [h1] at e
    cases e
    obtain ⟨y, ey, rfl⟩ := off_not ho
    exact own_lt h2 ok ey
theorem Wr.old {H H' : AH} {n0 b x : Nat} {bs : List UInt8} (h : Wr H n0 b bs) (g : Grow H H') (k : WrS H' b x) : WrS H b x := by
  obtain ⟨_, a, l, c, h1, _⟩ := h
  exact k.of h1 (g.get _ _ id h1)
theorem own_bytes {H : AH} {a : Option Addr} {l c : Nat} {bs s : List UInt8} (ok : Ok H) (h : Own H 1 a l c (bs.map u8c)) (hb : bs.length + s.length ≤ 140737488355328) :
    ∃ a' l' c' H1, apnd H 1 1 a l c (.string ⟨⟨s⟩⟩) = some (.slice a' l' c', H1) ∧ Own H1 1 a' l' c' ((bs ++ s).map u8c) ∧ (a' = a ∨ a' = some ⟨H.next, 0, none⟩) ∧ Mod (fun b => ¬ Off a b) H H1 := by
  have hl : l = bs.length := by have := h.len; rw [List.length_map] at this; omega
  cases s with
  | nil =>
    have hcap : Nat.ble l (capN c) = true := by
      refine Nat.ble_eq_true_of_le ?_
      rcases h.st with ⟨_, h1, h2⟩ | ⟨_, _, h1, h2, _⟩ | ⟨_, _, h2, _⟩
      · omega
      · omega
      · rw [h2]; simp only [capN]; omega
    refine ⟨a, l, c, H, ?_, by rw [List.append_nil]; exact h, .inl rfl, .refl ok⟩
    simp only [apnd, lenOfv, takev, List.length_nil, List.take_nil, List.map_nil]
    rw [show Nat.beq 1 1 = true from rfl, show Nat.beq 0 0 = true from rfl]
    simp only [cond_true, hcap]
  | cons x s =>
    obtain ⟨H1, k1, k2, _, k4⟩ := h.append (bytes := 1) (n := (x :: s).length) (new := (x :: s).map u8c) (x := .string ⟨⟨x :: s⟩⟩) ok rfl (by
      simp only [takev]
      rw [show Nat.beq 1 1 = true from rfl]
      simp only [cond_true, List.take_length]
      rfl) (by simp) (by simp) (u8c_one _) (by omega) (by omega)
    exact ⟨_, _, _, H1, k1, by rw [List.map_append]; exact k2, .inr rfl, k4⟩
/-! readers -/
def Rd (H : AH) (b : Nat) (s : List UInt8) (p : Nat) (e : Int) : Prop := H.get b = some (.cells [.string ⟨⟨s⟩⟩, .int .i64 (p : Int), .int .i64 e] 0)
def NumRes (most : Nat) (s : List UInt8) (p : Nat) (e : Int) (n p' : Nat) (e' : Int) : Prop :=
  (e ≠ 0 ∧ e' = e ∧ p' = p ∧ n = 0) ∨ (e = 0 ∧ e' = 0 ∧ n ≤ most ∧ s.drop p = enc n ++ s.drop p') ∨ (e = 0 ∧ e' ≠ 0 ∧ n = 0 ∧ ∀ m t, m ≤ most → s.drop p ≠ enc m ++ t)
def SigRes (s : List UInt8) (p : Nat) (e : Int) (x : Int) (p' : Nat) (e' : Int) : Prop :=
  (e ≠ 0 ∧ e' = e ∧ p' = p ∧ x = 0) ∨ (e = 0 ∧ e' = 0 ∧ I64 x ∧ s.drop p = sgB x ++ s.drop p') ∨ (e = 0 ∧ e' ≠ 0 ∧ x = 0 ∧ ∀ y t, I64 y → s.drop p ≠ sgB y ++ t)
end Go.Ev
namespace Go.Proofs.Cx
open Go Go.Ev
set_option maxRecDepth 100000 in
theorem b2s_eq {H : AH} {a : Addr} {len cap : Nat} : bytesToStr Ee H T_L_uint8 T_string (.slice (some a) len cap) = (match H.rd a.block with
    | some cs => bif Nat.ble (a.off + len) cs.length then (match bytesOf ((cs.drop a.off).take len) with | some bs => some (.string ⟨⟨bs⟩⟩) | none => none) else none
    | _ => none) := by kernel_rfl
set_option maxRecDepth 100000 in
theorem b2s_nil {H : AH} {len cap : Nat} : bytesToStr Ee H T_L_uint8 T_string (.slice none len cap) = some (.string ⟨⟨[]⟩⟩) := by kernel_rfl
theorem cells_str {H : AH} {b es cap : Nat} {bs : List UInt8} (h : H.get b = some (.cells (bs.map u8c) es)) : bytesToStr Ee H T_L_uint8 T_string (.slice (some ⟨b, 0, none⟩) bs.length cap) = some (.string ⟨⟨bs⟩⟩) := by
  rw [b2s_eq, rd_of h]
  simp only [List.drop_zero, Nat.zero_add]
  rw [Nat.ble_eq_true_of_le (by rw [List.length_map]; omega), List.take_of_length_le (by rw [List.length_map]; omega), bytesOf_map]
  rfl
theorem own_str {H : AH} {a : Option Addr} {l c : Nat} {bs : List UInt8} (h : Own H 1 a l c (bs.map u8c)) : bytesToStr Ee H T_L_uint8 T_string (.slice a l c) = some (.string ⟨⟨bs⟩⟩) := by
  have hl : l = bs.length := by have := h.len; rw [List.length_map] at this; omega
  rcases h.st with ⟨rfl, h1, _⟩ | ⟨b, rfl, h1, _, hg⟩ | ⟨b, rfl, _, hg⟩
  · have : bs = [] := List.length_eq_zero_iff.1 (by omega)
    subst this; exact b2s_nil
  · have : bs = [] := List.length_eq_zero_iff.1 (by omega)
    subst this
    subst hl
    exact cells_str hg
  · rw [hl]; exact cells_str hg
theorem number_ok {n : Nat} {H : AH} (ok : Ok H) (hn : n < 18446744073709551616) : FW Ee F_wire_Number [.int .u64 n] H fun r H' => r = .string ⟨⟨enc n⟩⟩ ∧ Grow H H' := by
  have h10 := enc_len64 hn
  refine fw_wire_Number ?_
  refine ⟨fun m a l c x Hb => ∃ (v : Nat) (out : List UInt8), x = v ∧ v = m ∧ out ++ enc v = enc n ∧ v ≤ n ∧ Own Hb 1 a l c (out.map u8c) ∧ (∀ y, a = some y → H.next ≤ y.block) ∧ Grow H Hb,
    ⟨_, n, [], rfl, rfl, rfl, Nat.le_refl _, Own.nil _ _, fun y e => (by cases e), .refl ok⟩, ?_⟩
  rintro m a l c x Hb ⟨v, out, rfl, rfl, he, hv, hO, hfar, g⟩
  have hl : l = out.length := by have := hO.len; rw [List.length_map] at this; omega
  have hlen := congrArg List.length he
  rw [List.length_append] at hlen
  have hpos := enc_len_pos v
  have put : ∀ (t : Int) (c0 : UInt8) (H2 : AH), Value.int .u8 t = u8c c0 → H2 = Hb.new (.cells [.int .u8 t] 0) → ∃ H3, apnd H2 1 1 a l c (.slice (some ⟨Hb.next, 0, none⟩) 1 2) = some (.slice (some ⟨H2.next, 0, none⟩) (l + 1) (2 * (l + 1) + 1), H3) ∧
      Own H3 1 (some ⟨H2.next, 0, none⟩) (l + 1) (2 * (l + 1) + 1) ((out ++ [c0]).map u8c) ∧ H.next ≤ H2.next ∧ Grow H H3 := by
    intro t c0 H2 et e2
    have g2 : Grow Hb H2 := e2 ▸ Grow.new g.ok _
    have n2 := g2.next
    have n1 := g.next
    obtain ⟨H3, k1, k2, _, k4⟩ := (hO.mod g2 fun _ h => h.elim).append (n := 1) (bytes := 1) (new := [.int .u8 t]) (x := .slice (some ⟨Hb.next, 0, none⟩) 1 2) g2.ok rfl (takev_new e2 rfl) (by omega) rfl rfl (by omega) (by omega)
    refine ⟨H3, k1, ?_, by omega, (g.trans g2).ext k4 ok fun b hb => ?_⟩
    · rw [List.map_append, List.map_cons, List.map_nil, ← et]; exact k2
    · obtain ⟨x, ex, rfl⟩ := off_not hb
      exact .inr (hfar x ex)
  refine cond_dec (fun hbig => ?_) (fun hsmall => ?_)
  · intro t8 e8
    rw [wrap_u8_nat] at e8
    subst e8
    intro t9 e9
    rw [set_high (Nat.mod_lt _ (by omega))] at e9
    intro H2 e2
    obtain ⟨H3, k1, k2, k3, k4⟩ := put t9 (UInt8.ofNat (v % 128 + 128)) H2 (by rw [e9, u8c, u8_of (by omega)]; congr 2; omega) e2
    refine ⟨_, _, _, H3, k1, by omega, ?_⟩
    intro t13 e13
    rw [shr7] at e13
    subst e13
    refine ⟨v / 128, by omega, v / 128, _, rfl, rfl, ?_, by omega, k2, fun y ey => by cases ey; exact k3, k4⟩
    rw [List.append_assoc, ← he, enc_hi (show 128 ≤ v by omega)]; rfl
  · intro t16 e16
    rw [wrap_u8_nat] at e16
    intro H4 e4
    obtain ⟨H5, k1, k2, k3, k4⟩ := put t16 (UInt8.ofNat v) H4 (by rw [e16, u8c, u8_of (by omega)]; congr 2; omega) e4
    refine ⟨_, _, _, H5, k1, _, own_str k2, ?_, k4⟩
    rw [← he, enc_lo (show v < 128 by omega)]
theorem fold_ok {x : Int} {H : AH} (hx : I64 x) : FW Ee F_wire_Fold [.int .i64 x] H fun r H' => r = .int .u64 (fold x : Nat) ∧ H = H' := by
  obtain ⟨hx1, hx2⟩ := hx
  refine fw_wire_Fold ?_
  intro t4 e4
  refine ⟨by omega, ?_⟩
  intro t5 e5
  rw [shl1] at e5
  refine ⟨by omega, ?_⟩
  intro t7 e7
  rw [shr63] at e7
  intro t8 e8 t9 e9
  refine ⟨?_, rfl⟩
  rcases Int.lt_or_le x 0 with h | h
  · rw [wrap_u64_neg (by omega) h] at e4
    subst e4
    rw [wrap_u64_dbl (by omega) (by omega)] at e5
    have e7 : t7 = -1 := by omega
    subst e7
    rw [wrap_u64_neg (by omega) (by omega)] at e8
    have e5 : t5 = ((t5.toNat : Nat) : Int) := by omega
    rw [e8, show (-1 + 18446744073709551616 : Int) = 18446744073709551615 from rfl, e5, ixor_u64_ones (by omega)] at e9
    rw [e9]
    unfold fold
    rw [if_neg (by omega)]
    congr 1; omega
  · rw [wrap_u64 h (by omega)] at e4
    subst e4
    rw [wrap_u64 (by omega) (by omega)] at e5
    have e7 : t7 = 0 := by omega
    subst e7
    rw [wrap_u64 (by omega) (by omega)] at e8
    have e5 : t5 = ((t5.toNat : Nat) : Int) := by omega
    rw [e8, e5, ixor_u64_zero (by omega)] at e9
    rw [e9]
    unfold fold
    rw [if_pos h]
    congr 1; omega
theorem unfold_ok {n : Nat} {H : AH} (hn : n < 18446744073709551616) : FW Ee F_wire_Unfold [.int .u64 n] H fun r H' => r = .int .i64 (unfold_ n) ∧ H = H' := by
  refine fw_wire_Unfold ?_
  refine ⟨by omega, ?_⟩
  intro t4 e4
  rw [shr1] at e4
  subst e4
  intro t5 e5
  rw [wrap_i64 (by omega) (by omega)] at e5
  subst e5
  intro t7 e7
  rw [iand_one hn] at e7
  subst e7
  intro t8 e8
  rw [wrap_i64 (by omega) (by omega)] at e8
  subst e8
  intro t9 e9
  rw [wrap_i64 (by omega) (by omega)] at e9
  intro t10 e10
  refine ⟨?_, rfl⟩
  unfold unfold_
  by_cases h : n % 2 = 0
  · rw [if_pos h]
    rw [e9, h, show (0 : Int) - ((0 : Nat) : Int) = 0 from rfl, ixor_i64_zero (by omega)] at e10
    rw [e10]
  · rw [if_neg h]
    rw [e9, show n % 2 = 1 from by omega, show (0 : Int) - ((1 : Nat) : Int) = -1 from rfl, ixor_i64_ones (by omega)] at e10
    rw [e10]
/-! writers -/
theorem newwriter_ok {H : AH} (ok : Ok H) : FW Ee F_wire_NewWriter [] H fun r H' => r = .pointer (some ⟨H.next, 0, none⟩) ∧ Wr H' H.next H.next [] ∧ Grow H H' := by
  refine fw_wire_NewWriter ?_
  intro H1 e1
  refine ⟨rfl, ⟨Nat.le_refl _, none, 0, 0, e1 ▸ get_new_self _ _, Own.nil _ _, fun x e => (by cases e)⟩, e1 ▸ Grow.new ok _⟩
theorem wall_ok {H : AH} {n0 b : Nat} {bs : List UInt8} (h : Wr H n0 b bs) :
    FW Ee F_wire_Writer_All [.pointer (some ⟨b, 0, none⟩)] H fun r H' => r = .string ⟨⟨bs⟩⟩ ∧ H = H' := by
  obtain ⟨h0, a, l, c, h1, h2, h3⟩ := h
  refine fw_wire_Writer_All ?_
  exact ⟨a, l, c, cell_of h1 rfl, _, own_str h2, rfl, rfl⟩
/-! the document's numbers -/
end Go.Proofs.Cx
namespace Go.Ev
open Go
theorem byteAt_drop {s : List UInt8} {p i : Nat} (h : i < (s.drop p).length) : byteAt s ((p : Int) + (i : Int)) = (((s.drop p)[i]).toNat : Int) := by
  have h1 : p + i < s.length := by rw [List.length_drop] at h; omega
  unfold byteAt
  rw [show ((p : Int) + (i : Int)).toNat = p + i from by omega, List.getElem_drop, List.getD_eq_getElem?_getD, List.getElem?_eq_getElem h1]
  rfl
theorem shlk {x i : Nat} (hi : i ≤ 9) : (x : Int) * 2 ^ (min (7 * (i : Int)).toNat IntKind.u64.bits) = ((x * 128 ^ i : Nat) : Int) := by
  have e : min (7 * (i : Int)).toNat IntKind.u64.bits = 7 * i := by
    show min (7 * (i : Int)).toNat 64 = 7 * i
    omega
  rw [e, Int.natCast_mul, Int.natCast_pow, Int.pow_mul]
  rfl
theorem Rd.set {H : AH} {b : Nat} {s : List UInt8} {p : Nat} {e : Int} (ok : Ok H) (h : Rd H b s p e) (p' : Nat) : ∃ H', storeCellsv H b 1 [.int .i64 (p' : Int)] = some H' ∧ Rd H' b s p' e ∧ Mod (· = b) H H' := by
  refine ⟨_, store_of (o := 1) h (by simp) rfl, ?_, Mod.set ok h _⟩
  exact get_set_self _ _ _
theorem Rd.err {H : AH} {b : Nat} {s : List UInt8} {p : Nat} {e : Int} (ok : Ok H) (h : Rd H b s p e) (e' : Int) : ∃ H', storeCellsv H b 2 [.int .i64 e'] = some H' ∧ Rd H' b s p e' ∧ Mod (· = b) H H' := by
  refine ⟨_, store_of (o := 2) h (by simp) rfl, ?_, Mod.set ok h _⟩
  exact get_set_self _ _ _
theorem Rd.mod {S : Nat → Prop} {H H' : AH} {b : Nat} {s : List UInt8} {p : Nat} {e : Int} (h : Rd H b s p e) (hm : Mod S H H') (hs : ¬ S b) : Rd H' b s p e := hm.get _ _ hs h
theorem pow128_9 : (128 : Nat) ^ 9 = 9223372036854775808 := by decide
theorem pow_le {i : Nat} (hi : i ≤ 9) : (128 : Nat) ^ i ≤ 9223372036854775808 := pow128_9 ▸ Nat.pow_le_pow_right (by omega) hi
end Go.Ev
namespace Go.Proofs.Cx
open Go Go.Ev
theorem newreader_ok {H : AH} {s : List UInt8} (ok : Ok H) : FW Ee F_wire_NewReader [.string ⟨⟨s⟩⟩] H fun r H' => r = .pointer (some ⟨H.next, 0, none⟩) ∧ Rd H' H.next s 0 0 ∧ Grow H H' := by
  refine fw_wire_NewReader ?_
  intro H1 e1
  exact ⟨rfl, e1 ▸ get_new_self _ _, e1 ▸ Grow.new ok _⟩
section
variable {H : AH} {b : Nat} {s : List UInt8} {p : Nat} {e : Int}
theorem rerr_ok (h : Rd H b s p e) : FW Ee F_wire_Reader_Err [.pointer (some ⟨b, 0, none⟩)] H fun r H' => r = .int .i64 e ∧ H = H' := by
  refine fw_wire_Reader_Err ?_
  exact ⟨e, cell_of h rfl, rfl, rfl⟩
theorem rat_ok (h : Rd H b s p e) : FW Ee F_wire_Reader_At [.pointer (some ⟨b, 0, none⟩)] H fun r H' => r = .int .i64 (p : Int) ∧ H = H' := by
  refine fw_wire_Reader_At ?_
  exact ⟨p, cell_of h rfl, rfl, rfl⟩
theorem rleft_ok (h : Rd H b s p e) (hp : p ≤ s.length) (hs : s.length ≤ 4611686018427387904) : FW Ee F_wire_Reader_Left [.pointer (some ⟨b, 0, none⟩)] H fun r H' => r = .int .i64 ((s.length - p : Nat) : Int) ∧ H = H' := by
  refine fw_wire_Reader_Left ?_
  refine ⟨s, cell_of h rfl, p, cell_of h rfl, ?_⟩
  intro t et
  rw [wrap_i64 (by omega) (by omega)] at et
  refine ⟨?_, rfl⟩
  rw [et]
  congr 1; omega
theorem rfail_ok (ok : Ok H) (h : Rd H b s p e) (e1 : Int) : FW Ee F_wire_Reader_Fail [.pointer (some ⟨b, 0, none⟩), .int .i64 e1] H fun r H' => r = .tuple ⟨[]⟩ ∧ Rd H' b s p (if e = 0 then e1 else e) ∧ Mod (· = b) H H' := by
  refine fw_wire_Reader_Fail ?_
  refine ⟨e, cell_of h rfl, cond_intro (fun he => ?_) (fun he => ?_)⟩
  · have he : e = 0 := by simpa using he
    obtain ⟨H', h1, h2, h3⟩ := h.err ok e1
    rw [if_pos he]
    exact ⟨H', h1, rfl, h2, h3⟩
  · have he : e ≠ 0 := by simpa using he
    rw [if_neg he]
    exact ⟨rfl, h, .refl ok⟩
theorem rend_ok (ok : Ok H) (h : Rd H b s p e) (hp : p ≤ s.length) (hs : s.length ≤ 4611686018427387904) : FW Ee F_wire_Reader_End [.pointer (some ⟨b, 0, none⟩)] H fun r H' => ∃ e' : Int, r = .int .i64 e' ∧ Rd H' b s p e' ∧ Mod (· = b) H H' ∧
    ((e ≠ 0 ∧ e' = e) ∨ (e = 0 ∧ p = s.length ∧ e' = 0) ∨ (e = 0 ∧ p < s.length ∧ e' = 5)) := by
  refine fw_wire_Reader_End ?_
  refine (rleft_ok h hp hs).mono ?_
  rintro _ _ ⟨rfl, rfl⟩
  refine ⟨_, rfl, cond_dec (fun hl => ?_) (fun hl => ?_)⟩
  · refine (rfail_ok ok h 5).mono ?_
    rintro _ H2 ⟨rfl, h2, m2⟩
    refine ⟨rfl, (rerr_ok h2).mono ?_⟩
    rintro _ _ ⟨rfl, rfl⟩
    refine ⟨_, rfl, _, rfl, h2, m2, ?_⟩
    by_cases he : e = 0
    · rw [if_pos he]; exact .inr (.inr ⟨he, by omega, rfl⟩)
    · rw [if_neg he]; exact .inl ⟨he, rfl⟩
  · refine (rerr_ok h).mono ?_
    rintro _ _ ⟨rfl, rfl⟩
    refine ⟨_, rfl, _, rfl, h, .refl ok, ?_⟩
    by_cases he : e = 0
    · exact .inr (.inl ⟨he, by omega, he⟩)
    · exact .inl ⟨he, rfl⟩
theorem rnumber_vc {Q : Value → AH → Prop} (ok : Ok H) (h : Rd H b s p e) (hp : p ≤ s.length) (hs : s.length ≤ 4611686018427387904)
    (hQ : ∀ (n p' : Nat) (e' : Int) (H' : AH), Rd H' b s p' e' → p' ≤ s.length → Mod (· = b) H H' → n < 18446744073709551616 → NumRes 18446744073709551615 s p e n p' e' → Q (.int .u64 (n : Int)) H') :
    FW Ee F_wire_Reader_Number [.pointer (some ⟨b, 0, none⟩)] H Q := by
  refine fw_wire_Reader_Number ?_
  refine (rerr_ok h).mono ?_
  rintro _ _ ⟨rfl, rfl⟩
  refine ⟨_, rfl, cond_intro (fun he => ?_) (fun he => ?_)⟩
  · have he : e ≠ 0 := by simpa using he
    exact hQ 0 p e H h hp (.refl ok) (by omega) (.inl ⟨he, rfl, rfl, rfl⟩)
  have he : e = 0 := by simpa using he
  subst he
  have bad : ∀ e' : Int, e' ≠ 0 → (∀ m t, m ≤ 18446744073709551615 → s.drop p ≠ enc m ++ t) → ∃ H', storeCellsv H b 2 [.int .i64 e'] = some H' ∧ Q (.int .u64 0) H' := by
    intro e' he' hno
    obtain ⟨H', h1, h2, h3⟩ := h.err ok e'
    exact ⟨H', h1, hQ 0 p e' H' h2 hp h3 (by omega) (.inr (.inr ⟨rfl, he', rfl, hno⟩))⟩
  have hc0 : H.cell b 0 = some (.string ⟨⟨s⟩⟩) := cell_of h rfl
  have hc1 : H.cell b 1 = some (.int .i64 (p : Int)) := cell_of h rfl
  refine ⟨fun m _ n3 t9 Hx => H = Hx ∧ ∃ i n : Nat, t9 = i ∧ n3 = n ∧ i ≤ 9 ∧ m = 10 - i ∧ NumI (s.drop p) i n, ⟨_, rfl, 0, 0, rfl, rfl, by omega, rfl, NumI.start _⟩, ?_⟩
  rintro m t2 n3 t9 Hx ⟨rfl, i, n, rfl, rfl, hi, rfl, hI⟩
  refine cond_dec (fun _ => ?_) (fun hge => by omega)
  have hlen := List.length_drop (i := p) (l := s)
  refine ⟨p, hc1, ?_⟩
  intro t17 e17
  rw [wrap_i64 (by omega) (by omega)] at e17
  subst e17
  refine ⟨s, hc0, cond_dec (fun hcut => ?_) (fun hin => ?_)⟩
  · exact bad 4 (by omega) fun m t _ => hI.cut (by omega) m t
  have hil : i < (s.drop p).length := by omega
  refine ⟨s, hc0, p, hc1, ?_⟩
  intro t36 e36
  rw [wrap_i64 (by omega) (by omega)] at e36
  subst e36
  refine ⟨by omega, by omega, ?_⟩
  obtain ⟨B, hB⟩ : ∃ B : Nat, B = ((s.drop p)[i]).toNat := ⟨_, rfl⟩
  have hB256 : B < 256 := by rw [hB]; exact UInt8.toNat_lt _
  have hbyte : byteAt s ((p : Int) + (i : Int)) = (B : Int) := by rw [byteAt_drop hil, hB]
  rw [hbyte]
  have hlt := hI.lt
  have hpow := pow_le hi
  have hp9 := pow128_9
  have tail : (i = 9 → B ≤ 1) → (i = 0 ∨ 0 < B) →
      ∀ (t57 : Int), t57 = iand .u8 (B : Int) 127 → ∀ (t58 : Int), t58 = IntKind.u64.wrap (t57) → ∀ (t60 : Int), t60 = IntKind.i64.wrap (7 * (i : Int)) → (0 : Int) ≤ t60 ∧
      ∀ (t61 : Int), t61 = IntKind.u64.wrap ((t58 : Int) * 2 ^ (min (t60 : Int).toNat IntKind.u64.bits)) → ∀ (t62 : Int), t62 = ior .u64 (n : Int) t61 → ∀ (t64 : Int), t64 = iand .u8 (B : Int) 128 →
      cond (t64 == 0) (
        ∃ (t69 : Int), H.cell b 1 = some (.int .i64 t69) ∧ ∀ (t71 : Int), t71 = IntKind.i64.wrap ((i : Int) + 1) → ∀ (t72 : Int), t72 = IntKind.i64.wrap (t69 + t71) → ∃ (H6 : AH), storeCellsv H b 1 [.int .i64 t72] = some H6 ∧ Q (.int .u64 t62) H6) (
        ∀ (t76 : Int), t76 = IntKind.i64.wrap ((i : Int) + 1) → ∃ (m : Nat), m < 10 - i ∧ (H = H ∧ ∃ i n : Nat, t76 = i ∧ t62 = n ∧ i ≤ 9 ∧ m = 10 - i ∧ NumI (s.drop p) i n)) := by
    intro h9 h0 t57 e57 t58 e58 t60 e60
    rw [low7 hB256] at e57
    subst e57
    rw [wrap_u64 (by omega) (by omega)] at e58
    subst e58
    rw [wrap_i64 (by omega) (by omega)] at e60
    subst e60
    refine ⟨by omega, ?_⟩
    intro t61 e61
    rw [shlk hi] at e61
    obtain ⟨X, hX⟩ : ∃ X, X = B % 128 * 128 ^ i := ⟨_, rfl⟩
    rw [← hX] at e61
    have hfit : n + X < 18446744073709551616 := by
      rcases Nat.lt_or_ge i 9 with h | h
      · have h8 : (128 : Nat) ^ i ≤ 72057594037927936 := by
          have : (128 : Nat) ^ 8 = 72057594037927936 := by decide
          rw [← this]; exact Nat.pow_le_pow_right (by omega) (by omega)
        have := Nat.mul_le_mul (show B % 128 ≤ 127 by omega) h8
        omega
      · have : i = 9 := by omega
        subst this
        have := h9 rfl
        rw [hp9] at hX hlt
        have : B % 128 ≤ 1 := by omega
        omega
    rw [wrap_u64 (by omega) (by omega)] at e61
    subst e61
    intro t62 e62
    rw [ior_u64 (by omega) (by omega), hX, or_add hlt, ← hX] at e62
    subst e62
    intro t64 e64
    rw [high1 hB256] at e64
    refine cond_intro (fun hz => ?_) (fun hnz => ?_)
    · have hlo : B < 128 := by
        by_cases h : B < 128
        · exact h
        · rw [if_neg h] at e64; subst e64; simp at hz
      refine ⟨p, hc1, ?_⟩
      intro t71 e71
      rw [wrap_i64 (by omega) (by omega)] at e71
      subst e71
      intro t72 e72
      rw [wrap_i64 (by omega) (by omega)] at e72
      have e72 : t72 = ((p + (i + 1) : Nat) : Int) := by omega
      subst e72
      obtain ⟨H', q1, q2, q3⟩ := h.set ok (p + (i + 1))
      refine ⟨H', q1, hQ _ (p + (i + 1)) 0 H' q2 (by omega) q3 hfit (.inr (.inl ⟨rfl, rfl, by omega, ?_⟩))⟩
      have hst := hI.stop hil (by rw [← hB]; exact hlo) (by rw [← hB]; exact h0)
      rw [← hB, List.drop_drop] at hst
      rw [hX, Nat.mod_eq_of_lt hlo]
      rw [show p + (i + 1) = i + 1 + p from by omega] at *
      exact hst
    · have hhi : 128 ≤ B := by
        by_cases h : B < 128
        · rw [if_pos h] at e64; subst e64; simp at hnz
        · omega
      intro t76 e76
      rw [wrap_i64 (by omega) (by omega)] at e76
      have hi9 : i ≠ 9 := fun e => by have := h9 e; omega
      refine ⟨10 - (i + 1), by omega, rfl, i + 1, n + X, by omega, rfl, by omega, rfl, ?_⟩
      have := hI.next hil (by rw [← hB]; exact hhi)
      rw [← hB] at this
      rw [hX, show B % 128 = B - 128 from by omega]
      exact this
  have zero : B = 0 → 0 < i → ∃ H', storeCellsv H b 2 [.int .i64 6] = some H' ∧ Q (.int .u64 0) H' := fun h1 h2 => bad 6 (by omega) fun m t _ => hI.zero hil (by omega) h2 m t
  refine cond_intro (fun h9 => ?_) (fun h9 => ?_)
  · have h9 : i = 9 := by
      have : (i : Int) = 9 := by simpa using h9
      omega
    refine cond_dec (fun hbig => ?_) (fun hok => ?_)
    · refine bad 6 (by omega) fun m t hm => ?_
      subst h9
      exact hI.big hil (by omega) m t (by omega)
    · refine cond_intro (fun hz => ?_) (fun hz => ?_)
      · have hz : B = 0 := by
          have : (B : Int) = 0 := by simpa using hz
          omega
        exact cond_dec (fun h0 => zero hz (by omega)) (fun h0 => tail (fun _ => by omega) (.inl (by omega)))
      · have hz : B ≠ 0 := by
          have : (B : Int) ≠ 0 := by simpa using hz
          omega
        exact tail (fun _ => by omega) (.inr (by omega))
  · have h9 : i ≠ 9 := by
      have : (i : Int) ≠ 9 := by simpa using h9
      omega
    refine cond_intro (fun hz => ?_) (fun hz => ?_)
    · have hz : B = 0 := by
        have : (B : Int) = 0 := by simpa using hz
        omega
      exact cond_dec (fun h0 => zero hz (by omega)) (fun h0 => tail (fun h => (h9 h).elim) (.inl (by omega)))
    · have hz : B ≠ 0 := by
        have : (B : Int) ≠ 0 := by simpa using hz
        omega
      exact tail (fun h => (h9 h).elim) (.inr (by omega))
theorem rnumber_ok (ok : Ok H) (h : Rd H b s p e) (hp : p ≤ s.length) (hs : s.length ≤ 4611686018427387904) :
    FW Ee F_wire_Reader_Number [.pointer (some ⟨b, 0, none⟩)] H fun r H' => ∃ (n p' : Nat) (e' : Int), r = .int .u64 n ∧ Rd H' b s p' e' ∧ p' ≤ s.length ∧ Mod (· = b) H H' ∧ n < 18446744073709551616 ∧ NumRes 18446744073709551615 s p e n p' e' :=
  rnumber_vc ok h hp hs fun n p' e' _ h1 h2 h3 h4 h5 => ⟨n, p', e', rfl, h1, h2, h3, h4, h5⟩
theorem rsigned_ok (ok : Ok H) (h : Rd H b s p e) (hp : p ≤ s.length) (hs : s.length ≤ 4611686018427387904) :
    FW Ee F_wire_Reader_Signed [.pointer (some ⟨b, 0, none⟩)] H fun r H' => ∃ (x : Int) (p' : Nat) (e' : Int), r = .int .i64 x ∧ Rd H' b s p' e' ∧ p' ≤ s.length ∧ Mod (· = b) H H' ∧ I64 x ∧ SigRes s p e x p' e' := by
  refine fw_wire_Reader_Signed ?_
  refine (rnumber_ok ok h hp hs).mono ?_
  rintro _ H1 ⟨n, p', e', rfl, h1, h2, h3, h4, h5⟩
  refine ⟨_, rfl, (unfold_ok h4).mono ?_⟩
  rintro _ _ ⟨rfl, rfl⟩
  refine ⟨_, rfl, _, p', e', rfl, h1, h2, h3, unfold_i64 h4, ?_⟩
  rcases h5 with ⟨q1, q2, q3, q4⟩ | ⟨q1, q2, q3, q4⟩ | ⟨q1, q2, q3, q4⟩
  · exact .inl ⟨q1, q2, q3, by rw [q4]; rfl⟩
  · exact .inr (.inl ⟨q1, q2, unfold_i64 h4, by rw [sgB, fold_unfold]; exact q4⟩)
  · exact .inr (.inr ⟨q1, q2, by rw [q3]; rfl, fun y t hy => q4 _ t (by have := fold_lt hy; omega)⟩)
theorem rcount_ok (ok : Ok H) (h : Rd H b s p e) (hp : p ≤ s.length) (hs : s.length ≤ 4611686018427387904) (most : Nat) (hmost : most ≤ 4611686018427387904) :
    FW Ee F_wire_Reader_Count [.pointer (some ⟨b, 0, none⟩), .int .i64 most] H fun r H' => ∃ (n p' : Nat) (e' : Int), r = .int .i64 n ∧ Rd H' b s p' e' ∧ p' ≤ s.length ∧ Mod (· = b) H H' ∧ n ≤ most ∧ NumRes most s p e n p' e' := by
  refine fw_wire_Reader_Count ?_
  refine (rat_ok h).mono ?_
  rintro _ _ ⟨rfl, rfl⟩
  refine ⟨_, rfl, (rnumber_ok ok h hp hs).mono ?_⟩
  rintro _ H1 ⟨n, p', e', rfl, h1, h2, h3, h4, h5⟩
  refine ⟨_, rfl, (rerr_ok h1).mono ?_⟩
  rintro _ _ ⟨rfl, rfl⟩
  refine ⟨_, rfl, cond_intro (fun he => ?_) (fun he => ?_)⟩
  · have he : e' ≠ 0 := by simpa using he
    refine ⟨0, p', e', rfl, h1, h2, h3, by omega, ?_⟩
    rcases h5 with ⟨q1, q2, q3, q4⟩ | ⟨q1, q2, q3, q4⟩ | ⟨q1, q2, q3, q4⟩
    · exact .inl ⟨q1, q2, q3, rfl⟩
    · exact (he q2).elim
    · exact .inr (.inr ⟨q1, q2, rfl, fun m t hm => q4 m t (by omega)⟩)
  · have he : e' = 0 := by simpa using he
    refine cond_dec (fun hneg => by omega) (fun _ => ?_)
    intro t19 e19
    rw [wrap_u64 (by omega) (by omega)] at e19
    subst e19
    rcases h5 with ⟨q1, q2, q3, q4⟩ | ⟨q1, q2, q3, q4⟩ | ⟨q1, q2, q3, q4⟩
    · exact (q1 (by rw [← q2]; exact he)).elim
    · refine cond_dec (fun hbig => ?_) (fun hok => ?_)
      · obtain ⟨H6, k1, k2, k3⟩ := h1.set h3.ok p
        obtain ⟨H7, l1, l2, l3⟩ := k2.err k3.ok 5
        refine ⟨H6, k1, H7, l1, 0, p, 5, rfl, l2, hp, (h3.trans k3).trans l3, by omega, .inr (.inr ⟨q1, by omega, rfl, fun m t hm e => ?_⟩)⟩
        rw [q4] at e
        have := (enc_inj _ _ _ _ e).1
        omega
      · intro t30 e30
        rw [wrap_i64 (by omega) (by omega)] at e30
        subst e30
        exact ⟨n, p', e', rfl, h1, h2, h3, by omega, .inr (.inl ⟨q1, q2, by omega, q4⟩)⟩
    · exact (q2 he).elim
end
end Go.Proofs.Cx
