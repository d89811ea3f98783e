/-   Graphs: what may be; plain facts. The reference's graph functions. A graph as the document has it. graph.All: all edges, one behind the other. spec.Degrees. -/
import Derived.Test.YtojohclbjcnhaaaB2
import Derived.Test.YtojohclbjcnhaaaVc1
namespace Go.Ev
open Go

/-! graphs as the memory has them -/
structure Vtx where
  id : Int
  val : Int
  edges : List (Int × Int)
def PEdge (H : AH) (b o : Nat) (e : Int × Int) : Prop := H.cell b o = some (.int .i64 e.1) ∧ H.cell b (o + 1) = some (.int .i64 e.2)
def PVtx (F : Nat → Prop) (H : AH) (b o : Nat) (v : Vtx) : Prop :=
  H.cell b o = some (.int .i64 v.id) ∧ H.cell b (o + 1) = some (.int .i64 v.val) ∧ ∃ ea el ec, H.cell b (o + 2) = some (.slice ea el ec) ∧ Sl F H 2 PEdge ea el v.edges
theorem loc_edge {F : Nat → Prop} : Loc F PEdge := fun _ _ hk _ _ _ hb h => ⟨loc_cell hk hb h.1, loc_cell hk hb h.2⟩
theorem loc_vtx {F : Nat → Prop} : Loc F (PVtx F) := fun _ _ hk _ _ _ hb ⟨h1, h2, ea, el, ec, h3, h4⟩ => ⟨loc_cell hk hb h1, loc_cell hk hb h2, ea, el, ec, loc_cell hk hb h3, h4.keep loc_edge hk⟩
abbrev SlE (F : Nat → Prop) (H : AH) (a : Option Addr) (l : Nat) (es : List (Int × Int)) : Prop := Sl F H 2 PEdge a l es
abbrev SlV (F : Nat → Prop) (H : AH) (a : Option Addr) (l : Nat) (G : List Vtx) : Prop := Sl F H 3 (PVtx F) a l G
abbrev SlI (F : Nat → Prop) (H : AH) (a : Option Addr) (l : Nat) (xs : List Int) : Prop := Sl F H 1 (PInt .i64) a l xs

/-- the place of a number, or where it would stand -/
def fnd : List Vtx → Int → Nat
  | [], _ => 0
  | v :: l, t => if v.id < t then fnd l t + 1 else 0
def isIn (G : List Vtx) (t : Int) : Bool := match G[fnd G t]? with
  | some v => v.id == t
  | none => false
structure IsPos (G : List Vtx) (t : Int) (p : Nat) : Prop where
  le : p ≤ G.length
  low : ∀ k (h : k < G.length), k < p → G[k].id < t
  high : ∀ (h : p < G.length), t ≤ G[p].id
theorem fnd_pos : ∀ (G : List Vtx) (t : Int), IsPos G t (fnd G t)
  | [], _ => ⟨by simp [fnd], fun k h => by simp at h, fun h => by simp at h⟩
  | v :: l, t => by
    have ih := fnd_pos l t
    unfold fnd
    by_cases h : v.id < t
    · rw [if_pos h]
      refine ⟨by simp; exact ih.le, fun k hk hp => ?_, fun hp => ?_⟩
      · cases k with
        | zero => exact h
        | succ k => simpa using ih.low k (by simpa using hk) (by omega)
      · simpa using ih.high (by simpa using hp)
    · rw [if_neg h]
      exact ⟨by simp, fun k hk hp => by omega, fun _ => by simp; omega⟩
theorem IsPos.unique {G : List Vtx} {t : Int} {p q : Nat} (h : IsPos G t p) (k : IsPos G t q) : p = q := by
  rcases Nat.lt_trichotomy p q with e | e | e
  · have := k.le
    have h1 := h.high (by omega)
    have h2 := k.low p (by omega) e
    omega
  · exact e
  · have := h.le
    have h1 := k.high (by omega)
    have h2 := h.low q (by omega) e
    omega
def Rising (G : List Vtx) : Prop := ∀ i j (hi : i < G.length) (hj : j < G.length), i < j → G[i].id < G[j].id
end Go.Ev

namespace Go.Proofs.Cx
open Go Go.Ev

theorem isNaN_ok {x : Int} {H : AH} : FW Ee F_cmp_isNaN_int64 [.int .i64 x] H fun v H' => v = .bool false ∧ H = H' :=
  fw_cmp_isNaN_int64 ⟨by simp, rfl⟩
def cmpI (x y : Int) : Int := if x < y then -1 else if x > y then 1 else 0
theorem cmp_ok {x y : Int} {H : AH} : FW Ee F_cmp_Compare_int64 [.int .i64 x, .int .i64 y] H fun v H' => v = .int .i64 (cmpI x y) ∧ H = H' := by
  refine fw_cmp_Compare_int64 ?_
  refine isNaN_ok.mono ?_
  rintro _ _ ⟨rfl, rfl⟩
  refine ⟨_, rfl, isNaN_ok.mono ?_⟩
  rintro _ _ ⟨rfl, rfl⟩
  refine ⟨_, rfl, ?_⟩
  refine cond_dec (fun h => ⟨by simp [cmpI, h], rfl⟩) (fun h => ?_)
  refine cond_dec (fun h2 => ⟨by simp [cmpI, h, h2], rfl⟩) (fun h2 => ⟨by simp [cmpI, h, h2], rfl⟩)
theorem find1_ok {i v t : Int} {a : Option Addr} {l c : Nat} {H : AH} (ok : Ok H) : FW Ee F_graph_Find_1 [.agg ⟨[.int .i64 i, .int .i64 v, .slice a l c]⟩, .int .i64 t] H fun r H' => r = .int .i64 (cmpI i t) ∧ Grow H H' := by
  refine fw_graph_Find_1 ?_
  rintro H1 rfl
  refine ⟨_, cell_of (get_new_self _ _) rfl, cmp_ok.mono ?_⟩
  rintro _ _ ⟨rfl, rfl⟩
  exact ⟨_, rfl, rfl, Grow.new ok _⟩

theorem bsearch_ok {F : Nat → Prop} {a : Option Addr} {l c : Nat} {t : Int} {H : AH} {G : List Vtx} (ok : Ok H) (hG : SlV F H a l G) (hl : l ≤ 4611686018427387904) (hr : Rising G) :
    FW Ee F_slices_BinarySearchFunc_L_api_Vertex_api_Vertex_int64 [.slice a l c, .int .i64 t, .func (.func F_graph_Find_1) ⟨[]⟩ ⟨[]⟩] H fun r H' => r = .tuple ⟨[.int .i64 (fnd G t), .bool (isIn G t)]⟩ ∧ Grow H H' := by
  have hlen := hG.len
  refine fw_slices_BinarySearchFunc_L_api_Vertex_api_Vertex_int64 ?_
  refine ⟨fun n i j H1 => Grow H H1 ∧ ∃ p q : Nat, i = p ∧ j = q ∧ p ≤ q ∧ q ≤ l ∧ n = q - p ∧ (∀ k (h : k < G.length), k < p → G[k].id < t) ∧ (∀ k (h : k < G.length), q ≤ k → t ≤ G[k].id), ⟨_, .refl ok, 0, l, by simp, by simp, by omega, by omega, rfl, fun k h h1 => by omega, fun k h h1 => by omega⟩, ?_⟩
  rintro n i j H1 ⟨hg, p, q, rfl, rfl, hpq, hql, rfl, hlo, hhi⟩
  refine cond_dec (fun hlt => ?_) (fun hge => ?_)
  · intro t20 e20 t21 e21
    refine ⟨by omega, ?_⟩
    intro t22 e22 h11 e11
    rw [wrap_i64 (by omega) (by omega)] at e20
    subst e20
    rw [wrap_u64 (by omega) (by omega)] at e21
    subst e21
    have hm : t22 = (((p + q) / 2 : Nat) : Int) := by
      rw [e22]
      show ((p : Int) + q).fdiv (2 ^ 1) = _
      rw [Int.fdiv_eq_ediv_of_nonneg _ (by decide)]
      omega
    rw [hm, wrap_i64 (by omega) (by omega)] at e11
    subst e11
    have hm1 : (p + q) / 2 < G.length := by omega
    obtain ⟨hs, c1, c2, ea, el, ec, c3, c4⟩ := hG.nth hm1
    refine grd_intro hs ⟨by omega, by omega, _, _, ea, el, ec, hg.cell id c1, hg.cell id c2, hg.cell id c3, ?_⟩
    refine (find1_ok hg.ok).mono ?_
    rintro _ H2 ⟨rfl, hg2⟩
    refine ⟨_, rfl, ?_⟩
    refine cond_dec (fun hc => ?_) (fun hc => ?_)
    · intro t33 e33
      rw [wrap_i64 (by omega) (by omega)] at e33
      subst e33
      refine ⟨_, ?_, hg.trans hg2, (p + q) / 2 + 1, q, by simp, rfl, by omega, hql, rfl, ?_, hhi⟩
      · omega
      · intro k hk hkp
        have hmid : G[(p + q) / 2].id < t := by
          unfold cmpI at hc
          split at hc
          · assumption
          · split at hc <;> omega
        rcases Nat.lt_or_ge k ((p + q) / 2) with h3 | h3
        · have := hr k _ hk hm1 h3; omega
        · have : k = (p + q) / 2 := by omega
          subst this; exact hmid
    · refine ⟨_, ?_, hg.trans hg2, p, (p + q) / 2, rfl, rfl, by omega, by omega, rfl, hlo, ?_⟩
      · omega
      · intro k hk hkp
        have hmid : t ≤ G[(p + q) / 2].id := by
          unfold cmpI at hc
          split at hc
          · omega
          · omega
        rcases Nat.lt_or_ge ((p + q) / 2) k with h3 | h3
        · have := hr _ k hm1 hk h3; omega
        · have : k = (p + q) / 2 := by omega
          subst this; exact hmid
  · have hpq' : p = q := by omega
    subst hpq'
    have hpos : fnd G t = p := (fnd_pos G t).unique ⟨by omega, hlo, fun h => hhi p h (Nat.le_refl _)⟩
    refine cond_dec (fun hlt => ?_) (fun hge => ?_)
    · have hm1 : p < G.length := by omega
      obtain ⟨hs, c1, c2, ea, el, ec, c3, c4⟩ := hG.nth hm1
      refine grd_intro hs ⟨by omega, by omega, _, _, ea, el, ec, hg.cell id c1, hg.cell id c2, hg.cell id c3, ?_⟩
      refine (find1_ok hg.ok).mono ?_
      rintro _ H2 ⟨rfl, hg2⟩
      refine ⟨_, rfl, ?_, hg.trans hg2⟩
      have h1 := hhi p hm1 (Nat.le_refl _)
      have : (cmpI G[p].id t == 0) = isIn G t := by
        unfold isIn cmpI
        rw [hpos, List.getElem?_eq_getElem hm1]
        simp only
        by_cases h2 : G[p].id = t
        · simp [h2]
        · rw [if_neg (by omega), if_pos (by omega)]; simp [h2]
      rw [this, hpos]
    · refine ⟨?_, hg⟩
      have : isIn G t = false := by
        unfold isIn
        rw [hpos, List.getElem?_eq_none (by omega)]
      rw [this, hpos]

theorem gfind_ok {F : Nat → Prop} {a : Option Addr} {l c : Nat} {t : Int} {H : AH} {G : List Vtx} (ok : Ok H) (hG : SlV F H a l G) (hl : l ≤ 4611686018427387904) (hr : Rising G) :
    FW Ee F_graph_Find [.agg ⟨[.slice a l c]⟩, .int .i64 t] H fun r H' => r = .tuple ⟨[.int .i64 (fnd G t), .bool (isIn G t)]⟩ ∧ Grow H H' := by
  refine fw_graph_Find ?_
  rintro H1 rfl
  refine ⟨_, _, _, cell_of (get_new_self _ _) rfl, ?_⟩
  have hg := Grow.new ok (.cells [.slice a l c] 0)
  refine (bsearch_ok hg.ok (hG.grow loc_vtx hg) hl hr).mono ?_
  rintro _ H2 ⟨rfl, hg2⟩
  exact ⟨_, _, rfl, rfl, hg.trans hg2⟩
end Go.Proofs.Cx

namespace Go.Ev
open Go

def nE : List Vtx → Nat
  | [] => 0
  | v :: l => v.edges.length + nE l
theorem nE_append : ∀ (a b : List Vtx), nE (a ++ b) = nE a + nE b
  | [], b => by simp [nE]
  | v :: a, b => by simp [nE, nE_append a b]; omega
theorem nE_take {G : List Vtx} {k : Nat} (h : k < G.length) : nE (G.take (k + 1)) = nE (G.take k) + G[k].edges.length := by
  rw [List.take_succ_eq_append_getElem h, nE_append]; simp [nE]
theorem nE_take_le (G : List Vtx) (k : Nat) : nE (G.take k) ≤ nE G := by
  have h := nE_append (G.take k) (G.drop k)
  rw [List.take_append_drop] at h
  omega
structure Fit (G : List Vtx) : Prop where
  n : G.length * 40 ≤ 140737488355328
  e : ∀ v ∈ G, v.edges.length * 16 ≤ 140737488355328
theorem Fit.at {G : List Vtx} (h : Fit G) {k : Nat} (hk : k < G.length) : G[k].edges.length * 16 ≤ 140737488355328 := h.e _ (List.getElem_mem _)
theorem nE_bound : ∀ {G : List Vtx}, (∀ v ∈ G, v.edges.length * 16 ≤ 140737488355328) → nE G * 16 ≤ G.length * 140737488355328
  | [], _ => by simp [nE]
  | v :: l, h => by
    have h1 := h v List.mem_cons_self
    have h2 := nE_bound (G := l) fun v hv => h v (List.mem_cons_of_mem _ hv)
    simp only [nE, List.length_cons]; omega

def Steps1 (G : List Vtx) : Prop := ∀ i (h : i + 1 < G.length), G[i].id < G[i + 1].id
theorem Steps1.rising {G : List Vtx} (h : Steps1 G) : Rising G := by
  intro i j hi hj hij
  induction j with
  | zero => omega
  | succ j ih =>
    have h1 := h j hj
    rcases Nat.lt_or_ge i j with h2 | h2
    · have := ih (by omega) h2; omega
    · have : i = j := by omega
      subst this; exact h1
def EdgeOk (G : List Vtx) (i k : Nat) : Prop := ∀ (hi : i < G.length) (hk : k < G[i].edges.length), isIn G (G[i].edges[k]).1 = true ∧ (∀ (h0 : 0 < k), (G[i].edges[k - 1]'(by omega)).1 < (G[i].edges[k]).1)
def EdgesOk (G : List Vtx) : Prop := ∀ i k, EdgeOk G i k
open Classical in
noncomputable def chk (G : List Vtx) : Int := if 256 < G.length ∨ ¬ Steps1 G then 30 else if 2048 < nE G ∨ ¬ EdgesOk G then 31 else 0
structure May (G : List Vtx) : Prop where
  len : G.length ≤ 256
  steps : Steps1 G
  many : nE G ≤ 2048
  edges : EdgesOk G
theorem chk_zero {G : List Vtx} : chk G = 0 ↔ May G := by
  unfold chk
  constructor
  · intro h
    split at h
    · cases h
    · split at h
      · cases h
      · rename_i h1 h2
        simp only [not_or, Classical.not_not] at h1 h2
        exact ⟨by omega, h1.2, by omega, h2.2⟩
  · intro h
    rw [if_neg, if_neg]
    · simp only [not_or, Classical.not_not]; exact ⟨by have := h.many; omega, h.edges⟩
    · simp only [not_or, Classical.not_not]; exact ⟨by have := h.len; omega, h.steps⟩
theorem isIn_spec {G : List Vtx} {t : Int} (h : isIn G t = true) : ∃ hk : fnd G t < G.length, G[fnd G t].id = t := by
  unfold isIn at h
  split at h
  · rename_i v hv
    obtain ⟨hk, e⟩ := List.getElem?_eq_some_iff.1 hv
    exact ⟨hk, by rw [e]; simpa using h⟩
  · cases h
theorem fnd_self {G : List Vtx} (h : Rising G) {k : Nat} (hk : k < G.length) : fnd G G[k].id = k :=
  (fnd_pos G _).unique ⟨by omega, fun i hi hik => h i k hi hk hik, fun _ => Int.le_refl _⟩
theorem isIn_self {G : List Vtx} (h : Rising G) {k : Nat} (hk : k < G.length) : isIn G G[k].id = true := by
  unfold isIn; rw [fnd_self h hk, List.getElem?_eq_getElem hk]; simp
end Go.Ev

namespace Go.Proofs.Cx
open Go Go.Ev

theorem rfind_ok {F : Nat → Prop} {a : Option Addr} {l c : Nat} {t : Int} {H : AH} {G : List Vtx} (hG : SlV F H a l G) (hl : l ≤ 4611686018427387904) :
    FW Ee F_cohortref03_Find [.slice a l c, .int .i64 t] H fun r H' => r = .tuple ⟨[.int .i64 (fnd G t), .bool (isIn G t)]⟩ ∧ H = H' := by
  have hlen := hG.len
  refine fw_cohortref03_Find ?_
  refine ⟨fun n i H1 => H = H1 ∧ ∃ p : Nat, i = p ∧ p ≤ l ∧ n = l - p ∧ (∀ k (h : k < G.length), k < p → G[k].id < t), ⟨_, rfl, 0, rfl, by omega, rfl, fun k h h1 => by omega⟩, ?_⟩
  rintro n i H1 ⟨rfl, p, rfl, hp, rfl, hlo⟩
  refine cond_dec (fun hlt => ?_) (fun hge => ?_)
  · have hk : p < G.length := by omega
    obtain ⟨hs, c1, _⟩ := hG.nth hk
    refine grd_intro hs ⟨by omega, by omega, _, c1, ?_⟩
    refine cond_dec (fun h1 => ?_) (fun h1 => ?_)
    · intro t21 e21
      rw [wrap_i64 (by omega) (by omega)] at e21
      subst e21
      refine ⟨_, ?_, rfl, p + 1, by simp, by omega, rfl, ?_⟩
      · omega
      · intro k hk2 hkp
        rcases Nat.lt_or_ge k p with h3 | h3
        · exact hlo k hk2 h3
        · have : k = p := by omega
          subst this; exact h1
    · have hpos : fnd G t = p := (fnd_pos G t).unique ⟨by omega, hlo, fun _ => by omega⟩
      refine cond_dec (fun h2 => ?_) (fun h2 => by omega)
      refine grd_intro hs ⟨by omega, by omega, _, c1, ?_, rfl⟩
      unfold isIn
      rw [hpos, List.getElem?_eq_getElem hk]
  · have hpos : fnd G t = p := (fnd_pos G t).unique ⟨by omega, hlo, fun h => by omega⟩
    refine cond_dec (fun h2 => by omega) (fun h2 => ⟨?_, rfl⟩)
    unfold isIn
    rw [hpos, List.getElem?_eq_none (by omega)]

theorem redges_ok {F : Nat → Prop} {a : Option Addr} {l c : Nat} {H : AH} {G : List Vtx} (hG : SlV F H a l G) (hl : l ≤ 4611686018427387904) (hn : nE G ≤ 4611686018427387904) :
    FW Ee F_cohortref03_Edges [.slice a l c] H fun r H' => r = .int .i64 (nE G) ∧ H = H' := by
  have hlen := hG.len
  refine fw_cohortref03_Edges ?_
  refine ⟨fun n s i H1 => H = H1 ∧ ∃ p : Nat, i = p ∧ p ≤ l ∧ n = l - p ∧ s = nE (G.take p), ⟨_, rfl, 0, rfl, by omega, rfl, rfl⟩, ?_⟩
  rintro n s i H1 ⟨rfl, p, rfl, hp, rfl, rfl⟩
  refine cond_dec (fun hlt => ?_) (fun hge => ?_)
  · have hk : p < G.length := by omega
    obtain ⟨hs, _, _, ea, el, ec, c3, c4⟩ := hG.nth hk
    refine grd_intro hs ⟨by omega, by omega, ea, el, ec, c3, ?_⟩
    intro t18 e18 t10 e10
    have h1 := nE_take hk
    have h2 := nE_take_le G (p + 1)
    have h3 := c4.len
    rw [wrap_i64 (by omega) (by omega)] at e18
    rw [wrap_i64 (by omega) (by omega)] at e10
    subst e18 e10
    exact ⟨_, by omega, rfl, p + 1, by simp, by omega, rfl, by omega⟩
  · have : p = G.length := by omega
    subst this
    simp

theorem rcheck_ok {F : Nat → Prop} {a : Option Addr} {l c : Nat} {H : AH} {G : List Vtx} (hG : SlV F H a l G) (hf : Fit G) :
    FW Ee F_cohortref03_Check [.slice a l c] H fun r H' => r = .int .i64 (chk G) ∧ H = H' := by
  have hlen := hG.len
  have hfn := hf.n
  refine fw_cohortref03_Check ?_
  refine cond_dec (fun h => ⟨by rw [chk, if_pos (.inl (by omega))], rfl⟩) (fun h256 => ?_)
  refine ⟨fun n _ i H1 => H = H1 ∧ ∃ p : Nat, i = p ∧ 1 ≤ p ∧ n = l + 1 - p ∧ (∀ k (h : k + 1 < G.length), k + 1 < p → G[k].id < G[k + 1].id), ⟨_, rfl, 1, rfl, by omega, rfl, fun k _ h => by omega⟩, ?_⟩
  rintro n _ i H1 ⟨rfl, p, rfl, hp1, rfl, hst⟩
  refine cond_dec (fun hlt => ?_) (fun hge => ?_)
  · intro t20 e20
    rw [wrap_i64 (by omega) (by omega)] at e20
    subst e20
    have hk : p - 1 + 1 < G.length := by omega
    have hpp : ((p : Int) - 1).toNat = p - 1 := by omega
    obtain ⟨hs, c1, _⟩ := hG.nth (k := p - 1) (by omega)
    obtain ⟨_, c2, _⟩ := hG.nth (k := p) (by omega)
    refine grd_intro hs ⟨by omega, by omega, G[p - 1].id, by rw [hpp]; exact c1, grd_intro hs ⟨by omega, by omega, G[p].id, by simpa using c2, ?_⟩⟩
    have hp' : p - 1 + 1 = p := by omega
    refine cond_dec (fun h1 => ⟨?_, rfl⟩) (fun h1 => ?_)
    · have hbad : ¬ Steps1 G := by
        intro h2
        have := h2 (p - 1) hk
        simp only [hp'] at this
        omega
      rw [chk, if_pos (.inr hbad)]
    · intro t17 e17
      rw [wrap_i64 (by omega) (by omega)] at e17
      subst e17
      refine ⟨_, ?_, rfl, p + 1, by simp, by omega, rfl, ?_⟩
      · omega
      · intro k hk2 hkp
        rcases Nat.lt_or_ge (k + 1) p with h3 | h3
        · exact hst k hk2 h3
        · have : k = p - 1 := by omega
          subst this
          simp only [hp']; omega
  · have hsteps : Steps1 G := fun k hk => hst k hk (by omega)
    have hnb := nE_bound hf.e
    have hn1 : nE G ≤ 4611686018427387904 := by
      have : G.length * 140737488355328 ≤ 256 * 140737488355328 := Nat.mul_le_mul_right _ (by omega)
      omega
    refine (redges_ok hG (by omega) hn1).mono ?_
    rintro _ _ ⟨rfl, rfl⟩
    refine ⟨_, rfl, ?_⟩
    refine cond_dec (fun h1 => ⟨?_, rfl⟩) (fun h2048 => ?_)
    · rw [chk, if_neg, if_pos (.inl (by omega))]
      simp only [not_or, Classical.not_not]; exact ⟨by omega, hsteps⟩
    have bad : ∀ {i k : Nat}, ¬ EdgeOk G i k → chk G = 31 := by
      intro i k hb
      rw [chk, if_neg, if_pos (.inr fun h => hb (h i k))]
      simp only [not_or, Classical.not_not]; exact ⟨by omega, hsteps⟩
    refine ⟨fun n _ i H1 => H = H1 ∧ ∃ p : Nat, i = p ∧ n = l - p ∧ (∀ i k, i < p → EdgeOk G i k), ⟨_, rfl, 0, rfl, rfl, fun i k h => by omega⟩, ?_⟩
    rintro n _ i H1 ⟨rfl, q, rfl, rfl, hq⟩
    refine cond_dec (fun hlt => ?_) (fun hge => ?_)
    · have hk : q < G.length := by omega
      obtain ⟨hs, _, _, ea, el, ec, c3, c4⟩ := hG.nth hk
      have hel := c4.len
      have hfe := hf.at hk
      refine grd_intro hs ⟨by omega, by omega, ea, el, ec, by simpa using c3, ?_⟩
      refine ⟨fun n _ k H1 => H = H1 ∧ ∃ j : Nat, k = j ∧ n = el - j ∧ (∀ k, k < j → EdgeOk G q k), ⟨_, rfl, 0, rfl, rfl, fun k h => by omega⟩, ?_⟩
      rintro n _ k H9 ⟨rfl, j, rfl, rfl, hj⟩
      refine cond_dec (fun hlt2 => ?_) (fun hge2 => ?_)
      · have hk2 : j < G[q].edges.length := by omega
        obtain ⟨hs2, d1, d2⟩ := c4.nth hk2
        refine grd_intro hs2 ⟨by omega, by omega, _, d1, ?_⟩
        refine (rfind_ok hG (by omega)).mono ?_
        rintro _ _ ⟨rfl, rfl⟩
        refine ⟨_, _, rfl, ?_⟩
        have next : EdgeOk G q j → ∀ (t49 : Int), t49 = IntKind.i64.wrap ((j : Int) + 1) → ∃ m, m < el - j ∧ H = H ∧ ∃ j' : Nat, t49 = j' ∧ m = el - j' ∧ (∀ k, k < j' → EdgeOk G q k) := by
          intro hok t49 e49
          rw [wrap_i64 (by omega) (by omega)] at e49
          subst e49
          refine ⟨_, ?_, rfl, j + 1, by simp, rfl, ?_⟩
          · omega
          · intro k hk3
            rcases Nat.lt_or_ge k j with h3 | h3
            · exact hj k h3
            · have : k = j := by omega
              subst this; exact hok
        refine cond_intro (fun h1 => ⟨?_, rfl⟩) (fun h1 => ?_)
        · rw [bad (i := q) (k := j)]
          intro h2
          have := (h2 hk hk2).1
          rw [this] at h1; cases h1
        have hin : isIn G (G[q].edges[j]).1 = true := by simpa using h1
        refine cond_dec (fun h0 => ?_) (fun h0 => ?_)
        · intro t68 e68
          rw [wrap_i64 (by omega) (by omega)] at e68
          subst e68
          have hjj : ((j : Int) - 1).toNat = j - 1 := by omega
          obtain ⟨_, d3, _⟩ := c4.nth (k := j - 1) (by omega)
          refine grd_intro hs2 ⟨by omega, by omega, _, by rw [hjj]; exact d3, grd_intro hs2 ⟨by omega, by omega, _, d1, ?_⟩⟩
          refine cond_dec (fun h2 => ⟨?_, rfl⟩) (fun h2 => next ?_)
          · rw [bad (i := q) (k := j)]
            intro h3
            have := (h3 hk hk2).2 (by omega)
            omega
          · exact fun _ _ => ⟨hin, fun _ => by omega⟩
        · exact next fun _ _ => ⟨hin, fun h2 => by omega⟩
      · intro t38 e38
        rw [wrap_i64 (by omega) (by omega)] at e38
        subst e38
        refine ⟨_, ?_, rfl, q + 1, by simp, rfl, ?_⟩
        · omega
        · intro i k hi
          rcases Nat.lt_or_ge i q with h3 | h3
          · exact hq i k h3
          · have : i = q := by omega
            subst this
            intro hi2 hk2
            exact hj k (by omega) hi2 hk2
    · refine ⟨?_, rfl⟩
      rw [chk, if_neg, if_neg]
      · simp only [not_or, Classical.not_not]; exact ⟨by omega, fun i k hi hk => hq i k (by omega) hi hk⟩
      · simp only [not_or, Classical.not_not]; exact ⟨by omega, hsteps⟩
end Go.Proofs.Cx

namespace Go.Proofs.Cx
open Go Go.Ev

def edgeC (e : Int × Int) : List Value := [.int .i64 e.1, .int .i64 e.2]
def vtxC (q : Vtx × Option Addr × Nat × Nat) : List Value := [.int .i64 q.1.id, .int .i64 q.1.val, .slice q.2.1 q.2.2.1 q.2.2.2]
theorem edges_sl {F : Nat → Prop} {H : AH} {a : Option Addr} {l c : Nat} {es : List (Int × Int)} (h : Own H 2 a l c (es.flatMap edgeC)) (hF : ∀ x, a = some x → F x.block) : SlE F H a l es :=
  h.sl (fun _ => rfl) (by decide) hF fun _ _ _ _ k => ⟨k 0 _ rfl, k 1 _ rfl⟩

theorem ref_ok {F : Nat → Prop} {a : Option Addr} {l c : Nat} {H : AH} {G : List Vtx} (ok : Ok H) (hG : SlV F H a l G) (hf : Fit G) :
    FW Ee F_cohortlaw03_Ref [.agg ⟨[.slice a l c]⟩] H fun r H' => ∃ a' l' c', r = .slice a' l' c' ∧ SlV (fun b => H.next ≤ b) H' a' l' G ∧ Grow H H' := by
  have hlen := hG.len
  have hfn := hf.n
  refine fw_cohortlaw03_Ref ?_
  intro H1 e1 H2 e2
  have g1 : Grow H H1 := e1 ▸ Grow.new ok _
  have g2 : Grow H1 H2 := e2 ▸ Grow.new g1.ok _
  have n1 : H1.next = H.next + 1 := by rw [e1]; rfl
  have b1 : H1.get H.next = some (.cells [.slice a l c] 0) := e1 ▸ get_new_self _ _
  refine ⟨fun n oa ol oc i H3 => ∃ (p : Nat) (ps : List (Vtx × Option Addr × Nat × Nat)), i = p ∧ p ≤ l ∧ n = l - p ∧ Grow H1 H3 ∧ Own H3 3 oa ol oc (ps.flatMap vtxC) ∧ (∀ x, oa = some x → H.next < x.block) ∧ ps.map (·.1) = G.take p ∧
      (∀ q ∈ ps, SlE (fun b => H.next ≤ b ∧ Off oa b) H3 q.2.1 q.2.2.1 q.1.edges), ⟨_, 0, [], rfl, by omega, rfl, g2, ?_, ?_, by simp, by simp⟩, ?_⟩
  · exact Own.empty 3 (by rw [e2]; exact get_new_self _ _)
  · intro x hx; cases hx; simp only; omega
  rintro n oa ol oc i H3 ⟨p, ps, rfl, hp, rfl, g3, ho, hoa, hps, hed⟩
  have hb3 : H3.get H.next = some (.cells [.slice a l c] 0) := g3.get _ _ id b1
  refine ⟨a, l, c, cell_of hb3 rfl, ?_⟩
  have hol : ol = p := by
    have h1 := ho.len
    rw [flatMap_len (sz := 3) (fun _ => rfl)] at h1
    have h2 := congrArg List.length hps
    simp at h2
    omega
  refine cond_dec (fun hlt => ?_) (fun hge => ?_)
  · have hk : p < G.length := by omega
    have gH3 : Grow H H3 := g1.trans g3
    obtain ⟨hs, c1, c2, ea, el, ec, c3, c4⟩ := (hG.grow loc_vtx gH3).nth hk
    have hel := c4.len
    have hfe := hf.at hk
    refine ⟨a, l, c, cell_of hb3 rfl, grd_intro hs ⟨by omega, by omega, _, _, ea, el, ec, c1, c2, c3, ?_⟩⟩
    intro H4 e4
    obtain ⟨H5, e5, b5, g5, n5⟩ := fresh_store (vs := [.int .i64 G[p].id, .int .i64 G[p].val, .slice ea el ec]) e4 rfl rfl g3.ok
    refine ⟨H5, e5, _, cell_of b5 rfl, _, cell_of b5 rfl, ?_⟩
    intro H6 e6
    obtain ⟨H7, e7, b7, g7, n7⟩ := fresh_store (vs := [.int .i64 G[p].id, .int .i64 G[p].val, .slice none 0 0]) e6 rfl rfl g5.ok
    refine ⟨H7, e7, ?_⟩
    refine ⟨fun n k H8 => ∃ (j : Nat) (xa : Option Addr) (xl xc : Nat), k = j ∧ j ≤ el ∧ n = el - j ∧ Grow H3 H8 ∧ H8.get H3.next = some (.cells [.int .i64 G[p].id, .int .i64 G[p].val, .slice ea el ec] 0) ∧
        H8.get H5.next = some (.cells [.int .i64 G[p].id, .int .i64 G[p].val, .slice xa xl xc] 0) ∧ Own H8 2 xa xl xc ((G[p].edges.take j).flatMap edgeC) ∧ (∀ x, xa = some x → H5.next < x.block),
        ⟨_, 0, none, 0, 0, rfl, by omega, rfl, g5.trans g7, g7.get _ _ id b5, b7, Own.nil _ _, by simp⟩, ?_⟩
    rintro n k H8 ⟨j, xa, xl, xc, rfl, hj, rfl, g8, b8, d8, hx, hxa⟩
    have hxl : xl = j := by
      have h1 := hx.len
      rw [flatMap_len (sz := 2) (fun _ => rfl), List.length_take] at h1
      omega
    refine ⟨ea, el, ec, cell_of b8 rfl, ?_⟩
    refine cond_dec (fun hlt2 => ?_) (fun hge2 => ?_)
    · have hk2 : j < G[p].edges.length := by omega
      obtain ⟨hs2, d1, d2⟩ := (c4.grow loc_edge g8).nth hk2
      refine ⟨xa, xl, xc, cell_of d8 rfl, ea, el, ec, cell_of b8 rfl, grd_intro hs2 ⟨by omega, by omega, _, d1, ea, el, ec, cell_of b8 rfl, grd_intro hs2 ⟨by omega, by omega, _, d2, ?_⟩⟩⟩
      intro H9 e9
      have g9 : Grow H8 H9 := e9 ▸ Grow.new g8.ok _
      have hn8 := g8.ok.lt d8
      obtain ⟨H10, e10, o10, n10, m10⟩ := (hx.mod g9 (fun _ h => h.elim)).append (bytes := 16) (n := 1) (x := .slice (some ⟨H8.next, 0, none⟩) 1 2) g9.ok rfl (takev_new e9 rfl) (by decide) rfl rfl (by omega) (by omega)
      have d10 := m10.get _ _ (fun h => h (Off.of_lt hxa)) (g9.get _ _ id d8)
      refine ⟨_, _, _, H10, e10, _, store_of d10 (by simp) rfl, (g9.cell id d2), g9.cell id (cell_of b8 rfl), g9.cell id d1, g9.cell id (cell_of b8 rfl), g9.cell id (cell_of d8 rfl), ?_⟩
      intro t32 e32
      rw [wrap_i64 (by omega) (by omega)] at e32
      subst e32
      have n9 : H9.next = H8.next + 1 := by rw [e9]; rfl
      have hm := Mod.set m10.ok d10 (.cells (lset [.int .i64 G[p].id, .int .i64 G[p].val, .slice xa xl xc] 2 [.slice (some ⟨H9.next, 0, none⟩) (xl + 1) (2 * (xl + 1) + 1)]) 0)
      have h35 : H3.next < H5.next := by omega
      refine ⟨_, ?_, j + 1, some ⟨H9.next, 0, none⟩, xl + 1, 2 * (xl + 1) + 1, by simp, by omega, rfl, ?_, ?_, ?_, ?_, ?_⟩
      · omega
      · refine Mod.then (Mod.then (g8.trans g9) m10 g3.ok ?_) hm g3.ok ?_
        · intro b hb
          refine Nat.le_of_not_lt fun h => hb (Off.of_lt fun x hx => ?_)
          have := hxa x hx; omega
        · intro b hb; omega
      · exact hm.get _ _ (by omega) (m10.get _ _ (fun h => h (Off.of_lt fun x hx => by have := hxa x hx; omega)) (g9.get _ _ id b8))
      · rw [get_set_self]; rfl
      · rw [List.take_succ_eq_append_getElem hk2, List.flatMap_append]
        refine o10.mod hm fun b hb x hx => ?_
        cases hx
        simp only
        omega
      · intro x hx; cases hx; simp only; omega
    · have hjl : j = el := by omega
      have htake : G[p].edges.take j = G[p].edges := by rw [List.take_of_length_le (by omega)]
      rw [htake] at hx
      refine ⟨_, _, xa, xl, xc, cell_of d8 rfl, cell_of d8 rfl, cell_of d8 rfl, ?_⟩
      intro H12 e12
      have g12 : Grow H8 H12 := e12 ▸ Grow.new g8.ok _
      have o12 := (ho.mod g8 (fun _ h => h.elim)).mod g12 (fun _ h => h.elim)
      obtain ⟨H13, e13, o13, n13, m13⟩ := o12.append (bytes := 40) (n := 1) (x := .slice (some ⟨H8.next, 0, none⟩) 1 2) g12.ok rfl (takev_new e12 rfl) (by decide) rfl rfl (by omega) (by omega)
      refine ⟨_, _, _, H13, e13, ?_⟩
      intro t15 e15
      rw [wrap_i64 (by omega) (by omega)] at e15
      subst e15
      have n12 : H12.next = H8.next + 1 := by rw [e12]; rfl
      have hH : H.next < H3.next := by have := g3.next; omega
      have h35 : H3.next < H5.next := by omega
      have hout : ∀ x, oa = some x → x.block < H3.next := by
        intro x hx
        rcases ho.st with ⟨rfl, _⟩ | ⟨b, rfl, _, _, hg⟩ | ⟨b, rfl, _, hg⟩
        · cases hx
        · cases hx; exact g3.ok.lt hg
        · cases hx; exact g3.ok.lt hg
      refine ⟨_, ?_, p + 1, ps ++ [(G[p], xa, xl, xc)], by simp, by omega, rfl, ?_, ?_, ?_, ?_, ?_⟩
      · omega
      · refine Mod.then ((g3.trans g8).trans g12) m13 g1.ok ?_
        intro b hb
        refine Nat.le_of_not_lt fun h => hb (Off.of_lt fun x hx => ?_)
        have := hoa x hx; omega
      · rw [List.flatMap_append]; exact o13
      · intro x hx; cases hx; simp only; have := g8.next; omega
      · rw [List.map_append, hps, List.take_succ_eq_append_getElem hk]; rfl
      · have alive : ∀ {F : Nat → Prop} {xa : Option Addr} {xl : Nat} {es : List (Int × Int)}, SlE F H12 xa xl es → (∀ b, F b → H.next ≤ b ∧ Off oa b) → SlE (fun b => H.next ≤ b ∧ Off (some ⟨H12.next, 0, none⟩) b) H13 xa xl es := by
          intro F xa xl es hsl hF
          have h1 := hsl.mod loc_edge m13 (fun b hb h => h (hF b hb).2)
          refine ⟨h1.len, fun hp => ?_, h1.cells⟩
          obtain ⟨k1, k2⟩ := hsl.base hp
          refine ⟨k1, (hF _ k2).1, fun x hx => ?_⟩
          cases hx
          have h0 : 0 < es.length := by have := hsl.len; omega
          obtain ⟨hc, _⟩ := hsl.cells 0 h0
          have := cell_lt g12.ok hc
          simp only; omega
        intro q hq
        rcases List.mem_append.1 hq with hq | hq
        · exact alive (((hed q hq).grow loc_edge g8).grow loc_edge g12) fun _ h => h
        · simp only [List.mem_singleton] at hq
          subst hq
          refine alive ((edges_sl (F := fun b => H5.next < b) hx hxa).grow loc_edge g12) fun b hb => ?_
          have hb : H5.next < b := hb
          have hlow : H.next ≤ b := by omega
          exact ⟨by omega, Off.of_gt fun x hx => by have := hout x hx; omega⟩
  · have hpl : p = l := by omega
    have hGp : G.take p = G := by rw [List.take_of_length_le (by omega)]
    rw [hGp] at hps
    refine ⟨oa, ol, oc, rfl, ?_, g1.trans g3⟩
    have hF : ∀ x, oa = some x → (fun b => H.next ≤ b) x.block := fun x hx => by have := hoa x hx; simp only; omega
    have hsl : Sl (fun b => H.next ≤ b) H3 3 (fun H' b o (q : Vtx × Option Addr × Nat × Nat) => PVtx (fun b => H.next ≤ b) H' b o q.1) oa ol ps := by
      refine ho.sl (fun _ => rfl) (by decide) hF fun b o i hi k => ⟨k 0 _ rfl, k 1 _ rfl, _, _, _, k 2 _ rfl, ?_⟩
      have := hed _ (List.getElem_mem hi)
      exact ⟨this.len, fun hp => ⟨(this.base hp).1, (this.base hp).2.1⟩, this.cells⟩
    have := hsl.map (P := PVtx (fun b => H.next ≤ b)) (fun q : Vtx × Option Addr × Nat × Nat => q.1)
    rw [hps] at this
    exact this
end Go.Proofs.Cx

namespace Go.Ev
open Go
def flatE (G : List Vtx) : List (Int × Int × Int) := G.flatMap fun v => v.edges.map fun e => (v.id, e)
theorem flatE_append (a b : List Vtx) : flatE (a ++ b) = flatE a ++ flatE b := by simp [flatE]
theorem flatE_take {G : List Vtx} {p : Nat} (h : p < G.length) : flatE (G.take (p + 1)) = flatE (G.take p) ++ G[p].edges.map fun e => (G[p].id, e) := by
  rw [List.take_succ_eq_append_getElem h, flatE_append]; simp [flatE]
theorem flatE_len : ∀ (G : List Vtx), (flatE G).length = nE G
  | [] => rfl
  | v :: l => by
    have := flatE_len l
    simp only [flatE, List.flatMap_cons, List.length_append, List.length_map, nE] at this ⊢
    omega
theorem flatE_split {G : List Vtx} {p j : Nat} (h : p < G.length) (hj : j < G[p].edges.length) :
    flatE G = (flatE (G.take p) ++ (G[p].edges.take j).map fun e => (G[p].id, e)) ++ (G[p].id, G[p].edges[j]) :: ((G[p].edges.drop (j + 1)).map (fun e => (G[p].id, e)) ++ flatE (G.drop (p + 1))) := by
  have h1 : G = G.take p ++ G[p] :: G.drop (p + 1) := by rw [List.getElem_cons_drop, List.take_append_drop]
  have h2 : G[p].edges = G[p].edges.take j ++ G[p].edges[j] :: G[p].edges.drop (j + 1) := by rw [List.getElem_cons_drop, List.take_append_drop]
  have h3 : flatE G = flatE (G.take p) ++ (G[p].edges.map (fun e => (G[p].id, e)) ++ flatE (G.drop (p + 1))) := by
    conv => lhs; rw [h1]
    simp only [flatE, List.flatMap_append, List.flatMap_cons]
  have h4 : G[p].edges.map (fun e => (G[p].id, e)) = (G[p].edges.take j).map (fun e => (G[p].id, e)) ++ (G[p].id, G[p].edges[j]) :: (G[p].edges.drop (j + 1)).map (fun e => (G[p].id, e)) := by
    conv => lhs; rw [h2]
    simp only [List.map_append, List.map_cons]
  rw [h3, h4]
  simp only [List.append_assoc, List.cons_append]
end Go.Ev
namespace Go.Proofs.Cx
open Go Go.Ev

theorem all1_ok {F S : Nat → Prop} {tb y : Nat} {a : Option Addr} {l c : Nat} {H : AH} {G : List Vtx} {R : List (Int × Int × Int) → AH → Prop} (ok : Ok H) (hG : SlV F H a l G) (hl : l ≤ 4611686018427387904) (hE : ∀ v ∈ G, v.edges.length * 16 ≤ 140737488355328)
    (ht : H.cell tb 0 = some (.slice a l c)) (hS : ∀ b, S b → b < H.next ∧ ¬ F b)
    (h0 : R [] H) (hst : ∀ done H1 H2, R done H1 → Grow H1 H2 → R done H2)
    (hR : ∀ done x rest H1, flatE G = done ++ x :: rest → R done H1 → Ok H1 → Mod S H H1 → RW Ee y [.int .i64 x.1, .agg ⟨[.int .i64 x.2.1, .int .i64 x.2.2]⟩] H1 fun v H2 => v = .bool true ∧ R (done ++ [x]) H2 ∧ Mod S H1 H2) :
    FW Ee F_graph_All_1 [.func (.yield y) ⟨[]⟩ ⟨[]⟩, .pointer (some ⟨tb, 0, none⟩)] H fun _ H' => R (flatE G) H' ∧ Mod S H H' := by
  have hlen := hG.len
  refine fw_graph_All_1 ?_
  refine ⟨a, l, c, ht, ?_⟩
  refine ⟨fun n i H1 => ∃ p : Nat, i = p ∧ p ≤ l ∧ n = l - p ∧ R (flatE (G.take p)) H1 ∧ Mod S H H1, ⟨_, 0, rfl, by omega, rfl, h0, .refl ok⟩, ?_⟩
  rintro n i H1 ⟨p, rfl, hp, rfl, r1, m1⟩
  refine cond_dec (fun hlt => ?_) (fun hge => ?_)
  · have hk : p < G.length := by omega
    obtain ⟨hs, c1, c2, ea, el, ec, c3, c4⟩ := (hG.mod loc_vtx m1 (fun b hb h => (hS b h).2 hb)).nth hk
    have hel := c4.len
    have hfe := hE _ (List.getElem_mem hk)
    refine grd_intro hs ⟨by omega, by omega, _, _, ea, el, ec, c1, c2, c3, ?_⟩
    intro H1' e1'
    obtain ⟨H2, e2, b2, g2, n2⟩ := fresh_store (vs := [.int .i64 G[p].id, .int .i64 G[p].val, .slice ea el ec]) e1' rfl rfl m1.ok
    refine ⟨H2, e2, ea, el, ec, cell_of b2 rfl, ?_⟩
    refine ⟨fun n k H3 => ∃ j : Nat, k = j ∧ j ≤ el ∧ n = el - j ∧ R (flatE (G.take p) ++ (G[p].edges.take j).map fun e => (G[p].id, e)) H3 ∧ Mod S H H3 ∧ Mod S H1 H3 ∧ H3.get H1.next = some (.cells [.int .i64 G[p].id, .int .i64 G[p].val, .slice ea el ec] 0),
      ⟨_, 0, rfl, by omega, rfl, by simpa using hst _ _ _ r1 g2, m1.add g2, (Mod.refl m1.ok).add g2, b2⟩, ?_⟩
    rintro n k H3 ⟨j, rfl, hj, rfl, r3, m3, m13, b3⟩
    refine cond_dec (fun hlt2 => ?_) (fun hge2 => ?_)
    · have hk2 : j < G[p].edges.length := by omega
      obtain ⟨hs2, d1, d2⟩ := (c4.mod loc_edge m13 (fun b hb h => (hS b h).2 hb)).nth hk2
      refine grd_intro hs2 ⟨by omega, by omega, _, _, d1, d2, ?_⟩
      intro H3' e3'
      obtain ⟨H4, e4, b4, g4, n4⟩ := fresh_store (vs := [.int .i64 G[p].edges[j].1, .int .i64 G[p].edges[j].2]) e3' rfl rfl m3.ok
      refine ⟨H4, e4, _, cell_of (g4.get _ _ id b3) rfl, _, _, cell_of b4 rfl, cell_of b4 rfl, ?_⟩
      refine (hR _ (G[p].id, G[p].edges[j]) _ H4 (flatE_split hk hk2) (hst _ _ _ r3 g4) g4.ok (m3.add g4)).mono ?_
      rintro _ H5 ⟨rfl, r5, m5⟩
      refine ⟨_, rfl, ?_⟩
      refine cond_neg rfl ?_
      intro t27 e27
      rw [wrap_i64 (by omega) (by omega)] at e27
      subst e27
      refine ⟨_, ?_, j + 1, by simp, by omega, rfl, ?_, ?_, ?_, ?_⟩
      · omega
      · rw [List.take_succ_eq_append_getElem hk2, List.map_append, ← List.append_assoc]; exact r5
      · exact (m3.add g4).trans m5
      · exact (m13.add g4).trans m5
      · exact m5.get _ _ (fun h => by have := (hS _ h).1; have := m1.next; omega) (g4.get _ _ id b3)
    · intro t28 e28
      rw [wrap_i64 (by omega) (by omega)] at e28
      subst e28
      refine ⟨_, ?_, p + 1, by simp, by omega, rfl, ?_, m3⟩
      · omega
      · rw [flatE_take hk]
        have e3 : G[p].edges.take j = G[p].edges := List.take_of_length_le (by omega)
        rw [e3] at r3
        exact r3
  · refine ⟨?_, m1⟩
    rw [List.take_of_length_le (by omega)] at r1
    exact r1

theorem all_ok {a : Option Addr} {l c : Nat} {H : AH} (ok : Ok H) :
    FW Ee F_graph_All [.agg ⟨[.slice a l c]⟩] H fun r H' => r = .func (.func F_graph_All_1) ⟨[]⟩ ⟨[.pointer (some ⟨H.next, 0, none⟩)]⟩ ∧ H'.get H.next = some (.cells [.slice a l c] 0) ∧ Grow H H' := by
  refine fw_graph_All ?_
  intro H1 e1
  subst e1
  exact ⟨rfl, get_new_self _ _, Grow.new ok _⟩
end Go.Proofs.Cx

namespace Go.Ev
open Go
/-- n numbers -/
def ints (f : Nat → Int) (n : Nat) : List Value := (List.range n).map fun i => .int .i64 (f i)
theorem ints_len (f : Nat → Int) (n : Nat) : (ints f n).length = n := by simp [ints]
theorem ints_get {f : Nat → Int} {n i : Nat} (h : i < n) : (ints f n)[i]? = some (.int .i64 (f i)) := by simp [ints, h]
theorem ints_set {f : Nat → Int} {n i : Nat} {x : Int} (h : i < n) : (ints f n).set i (.int .i64 x) = ints (fun k => if k = i then x else f k) n := by
  apply List.ext_getElem?
  intro k
  rw [List.getElem?_set]
  by_cases hk : k < n
  · by_cases e : i = k
    · subst e; rw [if_pos rfl, if_pos (by rw [ints_len]; exact h), ints_get h, if_pos rfl]
    · rw [if_neg e, ints_get hk, ints_get hk, if_neg (fun e2 => e e2.symm)]
  · rw [List.getElem?_eq_none (l := ints (fun k => if k = i then x else f k) n) (by rw [ints_len]; omega)]
    rw [if_neg (by omega), List.getElem?_eq_none (by rw [ints_len]; omega)]
theorem ints_zero (n : Nat) : (List.replicate n [Value.int .i64 0]).flatten = ints (fun _ => 0) n := by
  apply List.ext_getElem?
  intro k
  rw [show (List.replicate n [Value.int .i64 0]).flatten = List.replicate n (Value.int .i64 0) by
    induction n with
    | zero => rfl
    | succ n ih => rw [List.replicate_succ, List.replicate_succ, List.flatten_cons, ih]; rfl]
  by_cases hk : k < n
  · rw [ints_get hk]; simp [hk]
  · rw [List.getElem?_eq_none (by simpa using hk), List.getElem?_eq_none (by rw [ints_len]; omega)]
theorem ints_one (f : Nat → Int) (n : Nat) : (ints f n).all oneCell = true := by simp [ints, oneCell]
theorem ints_congr {f g : Nat → Int} {n : Nat} (h : ∀ i, i < n → f i = g i) : ints f n = ints g n := by
  simp only [ints]
  refine List.map_congr_left fun i hi => ?_
  rw [h i (by simpa using hi)]

def degs (G : List Vtx) (done : List (Int × Int × Int)) (i : Nat) : Nat := done.countP (fun x => fnd G x.1 == i) + done.countP (fun x => fnd G x.2.1 == i)
theorem degs_snoc (G : List Vtx) (done : List (Int × Int × Int)) (x : Int × Int × Int) (i : Nat) : degs G (done ++ [x]) i = degs G done i + (if fnd G x.1 = i then 1 else 0) + (if fnd G x.2.1 = i then 1 else 0) := by
  simp only [degs, List.countP_append, List.countP_cons, List.countP_nil, beq_iff_eq]
  omega
theorem degs_step (d : Nat → Nat) (k b i : Nat) : (if i = b then (if b = k then (d k : Int) + 1 else (d b : Int)) + 1 else if i = k then (d k : Int) + 1 else (d i : Int)) = ((d i + (if k = i then 1 else 0) + (if b = i then 1 else 0) : Nat) : Int) := by
  by_cases h1 : i = b
  · subst h1
    by_cases h2 : i = k
    · subst h2; simp
    · have h3 : ¬ k = i := fun e => h2 e.symm
      simp [h2, h3]
  · have h4 : ¬ b = i := fun e => h1 e.symm
    by_cases h2 : i = k
    · subst h2; simp [h1, h4]
    · have h3 : ¬ k = i := fun e => h2 e.symm
      simp [h1, h2, h3, h4]
theorem degs_le (G : List Vtx) (done : List (Int × Int × Int)) (i : Nat) : degs G done i ≤ 2 * done.length := by
  have h1 := List.countP_le_length (p := fun x : Int × Int × Int => fnd G x.1 == i) (l := done)
  have h2 := List.countP_le_length (p := fun x : Int × Int × Int => fnd G x.2.1 == i) (l := done)
  unfold degs; omega
theorem flatE_mem {G : List Vtx} {x : Int × Int × Int} (h : x ∈ flatE G) : ∃ (k j : Nat) (hk : k < G.length) (hj : j < G[k].edges.length), x = (G[k].id, G[k].edges[j]) := by
  simp only [flatE, List.mem_flatMap, List.mem_map] at h
  obtain ⟨v, hv, e, he, rfl⟩ := h
  obtain ⟨k, hk, rfl⟩ := List.mem_iff_getElem.1 hv
  obtain ⟨j, hj, rfl⟩ := List.mem_iff_getElem.1 he
  exact ⟨k, j, hk, hj, rfl⟩
end Go.Ev
namespace Go.Proofs.Cx
open Go Go.Ev

theorem degrees_ok {F : Nat → Prop} {a : Option Addr} {l c : Nat} {H : AH} {G : List Vtx} (ok : Ok H) (hG : SlV F H a l G) (hF : ∀ b, F b → b < H.next) (hM : May G) :
    FW Ee F_spec_Degrees [.agg ⟨[.slice a l c]⟩] H fun r H' => ∃ b n cp, r = .slice (some ⟨b, 0, none⟩) n cp ∧ n = G.length ∧ H.next ≤ b ∧ H'.get b = some (.cells (ints (fun i => degs G (flatE G) i) G.length) 0) ∧ Grow H H' := by
  have hlen := hG.len
  have hl := hM.len
  have hr := hM.steps.rising
  refine fw_spec_Degrees ?_
  intro H1 e1
  have g1 : Grow H H1 := e1 ▸ Grow.new ok _
  have b1 : H1.get H.next = some (.cells [.slice a l c] 0) := e1 ▸ get_new_self _ _
  have n1 : H1.next = H.next + 1 := by rw [e1]; rfl
  refine ⟨a, l, c, cell_of b1 rfl, by omega, by omega, by omega, by omega, ?_⟩
  intro H2 e2
  have g2 : Grow H1 H2 := e2 ▸ Grow.new g1.ok _
  have n2 : H2.next = H1.next + 1 := by rw [e2]; rfl
  have b2 : H2.get H1.next = some (.cells (ints (fun _ => 0) G.length) 0) := by
    rw [e2, get_new_self, ints_zero, hlen]; simp
  intro H3 e3
  obtain ⟨H4, e4, b4, g4, n4⟩ := fresh_store (vs := [.slice (some ⟨H1.next, 0, none⟩) ((l : Int)).toNat (2 * ((l : Int)).toNat)]) e3 rfl rfl g2.ok
  refine ⟨H4, e4, a, l, c, cell_of ((g2.trans g4).get _ _ id b1) rfl, ?_⟩
  refine (all_ok g4.ok).mono ?_
  rintro _ H5 ⟨rfl, b5, g5⟩
  refine ⟨H4.next, rfl, ?_⟩
  intro L hL hst hpd
  have g6 : Grow H5 (H5.new (.loop L)) := Grow.new g5.ok _
  have g26 := (g4.trans g5).trans g6
  have n45 := g5.next
  let ab := H1.next
  let gb := H.next
  let ob := H2.next
  let S : Nat → Prop := fun b => b = H1.next ∨ b = H5.next
  refine (all1_ok (F := F) (S := S) (R := fun done Hx => Hx.get H5.next = some (.loop L) ∧ Hx.get H.next = some (.cells [.slice a l c] 0) ∧ Hx.get H2.next = some (.cells [.slice (some ⟨H1.next, 0, none⟩) ((l : Int)).toNat (2 * ((l : Int)).toNat)] 0) ∧
    Hx.get H1.next = some (.cells (ints (fun i => degs G done i) G.length) 0)) g6.ok (a := a) (l := l) (c := c) (G := G) ?_ (by omega) ?_ ?_ ?_ ?_ ?_ ?_).mono ?_
  · exact ((hG.grow loc_vtx g1).grow loc_vtx g2).grow loc_vtx g26
  · intro v hv
    have h1 : v.edges.length ≤ nE G := by
      obtain ⟨k, hk, rfl⟩ := List.mem_iff_getElem.1 hv
      have h2 := nE_take hk
      have h3 := nE_take_le G (k + 1)
      omega
    have h4 := hM.many
    have : v.edges.length ≤ 2048 := by omega
    omega
  · exact cell_of (g6.get _ _ id b5) rfl
  · intro b hb
    have hn6 : (H5.new (.loop L)).next = H5.next + 1 := rfl
    rcases hb with rfl | rfl
    · exact ⟨by omega, fun h => by have := hF _ h; omega⟩
    · exact ⟨by omega, fun h => by have := hF _ h; omega⟩
  · refine ⟨get_new_self _ _, ?_, ?_, ?_⟩
    · exact g26.get _ _ id (g2.get _ _ id b1)
    · exact (g5.trans g6).get _ _ id b4
    · have := g26.get _ _ id b2
      rw [this]
      simp [degs]
  · rintro done Ha Hb ⟨r1, r2, r3, r4⟩ g
    exact ⟨g.get _ _ id r1, g.get _ _ id r2, g.get _ _ id r3, g.get _ _ id r4⟩
  · rintro done x rest Hx hsp ⟨r1, r2, r3, r4⟩ okx mx
    have hmem : x ∈ flatE G := by rw [hsp]; simp
    obtain ⟨k, j, hk, hj, rfl⟩ := flatE_mem hmem
    have hlenE := flatE_len G
    have hlt : done.length < nE G := by rw [← hlenE, hsp]; simp
    have hmany := hM.many
    obtain ⟨hf2, hfid⟩ := isIn_spec (hM.edges k j hk hj).1
    have hf1 := fnd_self hr hk
    refine rw_spec_Degrees_r0 r1 hL ?_
    intro Hy ey
    obtain ⟨Hz, ez, bz, gz, nz⟩ := fresh_store (vs := [.int .i64 G[k].edges[j].1, .int .i64 G[k].edges[j].2]) ey rfl rfl okx
    have rz1 := gz.get _ _ id r1
    refine ⟨Hz, ez, L, rz1, hst, hL.body, ?_⟩
    have mw := Mod.set gz.ok rz1 (.loop { L with st := .busy })
    have sG : SlV F (Hz.set H5.next (.loop { L with st := .busy })) a l G := by
      refine (((((hG.grow loc_vtx g1).grow loc_vtx g2).grow loc_vtx g26).mod loc_vtx mx ?_).grow loc_vtx gz).mod loc_vtx mw ?_
      · intro b hb h
        have := hF b hb
        rcases h with rfl | rfl <;> omega
      · intro b hb h
        have := hF b hb
        omega
    have ltx := okx.lt r1
    have okw := mw.ok
    have w2 := mw.get _ _ (by omega) (gz.get _ _ id r2)
    have w3 := mw.get _ _ (by omega) (gz.get _ _ id r3)
    have w4 := mw.get _ _ (by omega) (gz.get _ _ id r4)
    have wz := mw.get _ _ (by omega) bz
    refine ⟨a, l, c, cell_of w2 rfl, ?_⟩
    refine (gfind_ok mw.ok sG (by omega) hr).mono ?_
    rintro _ Hf ⟨rfl, gf⟩
    refine ⟨_, _, rfl, a, l, c, cell_of (gf.get _ _ id w2) rfl, _, cell_of (gf.get _ _ id wz) rfl, ?_⟩
    refine (gfind_ok gf.ok (sG.grow loc_vtx gf) (by omega) hr).mono ?_
    rintro _ Hg ⟨rfl, gg⟩
    have gfg := gf.trans gg
    rw [hf1]
    have b4g := gfg.get _ _ id w4
    have hka : (k : Int).toNat * 1 = k := by omega
    refine ⟨_, _, rfl, some ⟨H1.next, 0, none⟩, _, _, cell_of (gfg.get _ _ id w3) rfl, grd_intro rfl ⟨by omega, by omega, (degs G done k : Int), ?_, ?_⟩⟩
    · rw [hka]; exact cell_of b4g (by simp only [adr, Nat.zero_add]; exact ints_get hk)
    intro t35 e35
    have hd1 := degs_le G done k
    rw [wrap_i64 (by omega) (by omega)] at e35
    subst e35
    refine grd_intro rfl ⟨by omega, by omega, ?_⟩
    refine ⟨_, store_of (o := 0 + (k : Int).toNat * 1) b4g (by rw [ints_len, hka]; simp; omega) rfl, ?_⟩
    rw [hka, Nat.zero_add, lset_one (by rw [ints_len]; exact hk), ints_set hk]
    have m1 := Mod.set gg.ok b4g (.cells (ints (fun i => if i = k then (degs G done k : Int) + 1 else degs G done i) G.length) 0)
    have b5g := get_set_self Hg H1.next (.cells (ints (fun i => if i = k then (degs G done k : Int) + 1 else degs G done i) G.length) 0)
    have hkb : ((fnd G G[k].edges[j].1 : Nat) : Int).toNat * 1 = fnd G G[k].edges[j].1 := by omega
    refine ⟨some ⟨H1.next, 0, none⟩, _, _, cell_of (m1.get _ _ (by omega) (gfg.get _ _ id w3)) rfl, grd_intro rfl ⟨by omega, by omega, (if fnd G G[k].edges[j].1 = k then (degs G done k : Int) + 1 else degs G done (fnd G G[k].edges[j].1)), ?_, ?_⟩⟩
    · rw [hkb]; exact cell_of b5g (by simp only [adr, Nat.zero_add]; rw [ints_get hf2])
    intro t41 e41
    have hd2 := degs_le G done (fnd G G[k].edges[j].1)
    rw [wrap_i64 (by split <;> omega) (by split <;> omega)] at e41
    subst e41
    refine grd_intro rfl ⟨by omega, by omega, ?_⟩
    refine ⟨_, store_of (o := 0 + ((fnd G G[k].edges[j].1 : Nat) : Int).toNat * 1) b5g (by rw [ints_len, hkb]; simp; omega) rfl, ?_⟩
    rw [hkb, Nat.zero_add, lset_one (by rw [ints_len]; exact hf2), ints_set hf2]
    have m2 := Mod.set m1.ok b5g (.cells (ints (fun i => if i = fnd G G[k].edges[j].1 then (if fnd G G[k].edges[j].1 = k then (degs G done k : Int) + 1 else degs G done (fnd G G[k].edges[j].1)) + 1 else if i = k then (degs G done k : Int) + 1 else degs G done i) G.length) 0)
    have lw := get_set_self Hz H5.next (.loop { L with st := .busy })
    have l2 := m2.get _ _ (by omega) (m1.get _ _ (by omega) (gfg.get _ _ id lw))
    have m3 := Mod.set m2.ok l2 (.loop L)
    have hLr : ({ L with st := LoopState.ready, pend := none } : ALoop) = L := by
      cases L; simp only at hst hpd; subst hst hpd; rfl
    refine ⟨_, l2, rfl, ?_, ?_⟩
    · simp only [hLr]
      refine ⟨get_set_self _ _ _, m3.get _ _ (by omega) (m2.get _ _ (by omega) (m1.get _ _ (by omega) (gfg.get _ _ id w2))), m3.get _ _ (by omega) (m2.get _ _ (by omega) (m1.get _ _ (by omega) (gfg.get _ _ id w3))), ?_⟩
      refine Eq.trans (m3.get H1.next _ (by omega) (get_set_self _ _ _)) ?_
      congr 2
      refine ints_congr fun i _ => ?_
      rw [degs_snoc, hf1]
      exact degs_step (degs G done) k _ i
    · simp only [hLr]
      have q : ∀ {S' : Nat → Prop} {Ha Hb : AH}, Ok Ha → Mod S' Ha Hb → (∀ b, S' b → S b) → Mod S Ha Hb := fun ok h k => h.le (fun b hb _ => k b hb) ok
      exact (q okx gz (fun _ h => h.elim)).trans ((q gz.ok mw (fun b h => .inr h)).trans ((q mw.ok gfg (fun _ h => h.elim)).trans ((q gg.ok m1 (fun b h => .inl h)).trans ((q m1.ok m2 (fun b h => .inl h)).trans (q m2.ok m3 (fun b h => .inr h))))))
  · rintro _ H6 ⟨⟨r1, r2, r3, r4⟩, m6⟩
    have m7 := Mod.set m6.ok r1 (.loop { L with st := .exhausted, pend := none })
    refine ⟨L, r1, by rw [hst]; simp, ?_⟩
    simp only [hpd]
    refine ⟨_, _, _, cell_of (m7.get _ _ (by omega) r3) rfl, H1.next, _, _, rfl, by omega, by omega, m7.get _ _ (by omega) r4, ?_⟩
    have h1 := Mod.ext (S := fun _ => False) (((g1.trans g2).trans g26)) m6 ok (fun b hb => .inr (by rcases hb with rfl | rfl <;> omega))
    exact h1.ext m7 ok fun b hb => .inr (by omega)
end Go.Proofs.Cx
