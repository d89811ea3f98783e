/- SpecDegrees: the law, as formulas have it. Graphs that come in. Rows of lists that grow; graph.All with a state. slices.Sort, slices.Compact. -/
import Derived.Test.YtojohclbjcnhaaaC1
import Derived.Test.YtojohclbjcnhaaaB3
import Derived.Test.YtojohclbjcnhaaaVc2
namespace Go.Ev
open Go
structure GoodG (G : List Vtx) : Prop where
  may : May G
  few : G.length ≤ 20
  pos : ∀ (i k : Nat) (hi : i < G.length) (hk : k < G[i].edges.length), 0 ≤ (G[i].edges[k]).2
end Go.Ev
namespace Go.Proofs.Cx
open Go Go.Ev

set_option maxRecDepth 100000 in
theorem awake_ok {H : AH} : FW Ee F_cohortlaw10_awake [] H fun v H' => v = .bool true ∧ H = H' := by
  have e : (evalN Ee 1).call F_cohortlaw10_awake [] H = some (.bool true, H) := by kernel_rfl
  exact ⟨1, _, _, e, rfl, rfl⟩

theorem good_ok {F : Nat → Prop} {a : Option Addr} {l c : Nat} {H : AH} {G : List Vtx} (ok : Ok H) (hG : SlV F H a l G) (hf : Fit G) :
    FW Ee F_cohortlaw10_good [.agg ⟨[.slice a l c]⟩] H fun r H' => ∃ b : Bool, r = .bool b ∧ (b = true → GoodG G) ∧ Grow H H' := by
  have hlen := hG.len
  have hfn := hf.n
  refine fw_cohortlaw10_good ?_
  intro H1 e1
  have g1 : Grow H H1 := e1 ▸ Grow.new ok _
  have b1 : H1.get H.next = some (.cells [.slice a l c] 0) := e1 ▸ get_new_self _ _
  refine ⟨a, l, c, cell_of b1 rfl, ?_⟩
  refine (ref_ok g1.ok (hG.grow loc_vtx g1) hf).mono ?_
  rintro _ H2 ⟨xa, xl, xc, rfl, hX, g2⟩
  refine ⟨xa, xl, xc, rfl, (rcheck_ok hX hf).mono ?_⟩
  rintro _ _ ⟨rfl, rfl⟩
  refine ⟨_, rfl, cond_intro (fun _ => ⟨false, rfl, by simp, g1.trans g2⟩) (fun hz => ?_)⟩
  have hM : May G := chk_zero.1 (by simpa using hz)
  have b2 := g2.get _ _ id b1
  refine ⟨a, l, c, cell_of b2 rfl, cond_dec (fun _ => ⟨false, rfl, by simp, g1.trans g2⟩) (fun h20 => ?_)⟩
  have hG2 := (hG.grow loc_vtx g1).grow loc_vtx g2
  refine ⟨fun n _ i H3 => H2 = H3 ∧ ∃ p : Nat, i = p ∧ n = l - p ∧ ∀ (i k : Nat) (hi : i < G.length) (hk : k < G[i].edges.length), i < p → 0 ≤ (G[i].edges[k]).2, ⟨_, rfl, 0, rfl, rfl, fun i k _ _ h => by omega⟩, ?_⟩
  rintro n t i H3 ⟨rfl, p, rfl, rfl, hp⟩
  refine ⟨a, l, c, cell_of b2 rfl, cond_dec (fun hlt => ?_) (fun hge => ?_)⟩
  · have hk : p < G.length := by omega
    obtain ⟨hs, _, _, ea, el, ec, c3, c4⟩ := hG2.nth hk
    have hel := c4.len
    have hfe := hf.at hk
    refine ⟨fun n _ k H3 => H2 = H3 ∧ ∃ j : Nat, k = j ∧ n = el - j ∧ ∀ k (hk2 : k < G[p].edges.length), k < j → 0 ≤ (G[p].edges[k]).2, ⟨_, rfl, 0, rfl, rfl, fun k _ h => by omega⟩, ?_⟩
    rintro n t k H3 ⟨rfl, j, rfl, rfl, hj⟩
    refine ⟨a, l, c, cell_of b2 rfl, grd_intro hs ⟨by omega, by omega, ea, el, ec, c3, cond_dec (fun hlt2 => ?_) (fun hge2 => ?_)⟩⟩
    · have hk2 : j < G[p].edges.length := by omega
      obtain ⟨hs2, _, d2⟩ := c4.nth hk2
      refine ⟨a, l, c, cell_of b2 rfl, grd_intro hs ⟨by omega, by omega, ea, el, ec, c3, grd_intro hs2 ⟨by omega, by omega, _, d2, cond_dec (fun _ => ⟨false, rfl, by simp, g1.trans g2⟩) (fun hn => ?_)⟩⟩⟩
      intro t32 e32
      rw [wrap_i64 (by omega) (by omega)] at e32
      subst e32
      refine ⟨_, ?_, rfl, j + 1, by simp, rfl, ?_⟩
      · omega
      · intro k hk3 hkj
        rcases Nat.lt_or_ge k j with h3 | h3
        · exact hj k hk3 h3
        · have : k = j := by omega
          subst this; omega
    · intro t21 e21
      rw [wrap_i64 (by omega) (by omega)] at e21
      subst e21
      refine ⟨_, ?_, rfl, p + 1, by simp, rfl, ?_⟩
      · omega
      · intro i k hi hk3 hip
        rcases Nat.lt_or_ge i p with h3 | h3
        · exact hp i k hi hk3 h3
        · have : i = p := by omega
          subst this; exact hj k hk3 (by omega)
  · exact ⟨true, rfl, fun _ => ⟨hM, by omega, fun i k hi hk => hp i k hi hk (by omega)⟩, g1.trans g2⟩

/-- edges to a number, among so many -/
def into (t : Int) (l : List (Int × Int × Int)) : Nat := l.countP fun x => x.2.1 == t

theorem into_append (t : Int) (a b : List (Int × Int × Int)) : into t (a ++ b) = into t a + into t b := by simp [into]
theorem into_map (t i : Int) (es : List (Int × Int)) (e : Int × Int) : into t ((es ++ [e]).map fun x => (i, x)) = into t (es.map fun x => (i, x)) + if e.1 = t then 1 else 0 := by
  simp only [List.map_append, into_append, List.map_cons, List.map_nil]
  simp only [into, List.countP_cons, List.countP_nil, beq_iff_eq]
  omega
theorem into_le (t : Int) (l : List (Int × Int × Int)) : into t l ≤ l.length := List.countP_le_length

/-- the degree of a vertex, as the law counts it -/
theorem degs_eq {G : List Vtx} (hr : Rising G) (hE : EdgesOk G) {i : Nat} (hi : i < G.length) : degs G (flatE G) i = G[i].edges.length + into G[i].id (flatE G) := by
  have h1 : (flatE G).countP (fun x => fnd G x.1 == i) = G[i].edges.length := by
    have key : ∀ (k : Nat), k ≤ G.length → (flatE (G.take k)).countP (fun x => fnd G x.1 == i) = if i < k then G[i].edges.length else 0 := by
      intro k
      induction k with
      | zero => intro _; simp [flatE]
      | succ k ih =>
        intro hk
        have hk' : k < G.length := by omega
        rw [flatE_take hk', List.countP_append, ih (by omega)]
        have h2 : (G[k].edges.map fun e => (G[k].id, e)).countP (fun x => fnd G x.1 == i) = if k = i then G[i].edges.length else 0 := by
          by_cases e : k = i
          · subst e
            rw [if_pos rfl, List.countP_eq_length.2]
            · simp
            · intro x hx
              obtain ⟨e, _, rfl⟩ := List.mem_map.1 hx
              simp [fnd_self hr hk']
          · rw [if_neg e, List.countP_eq_zero]
            intro x hx
            obtain ⟨e2, _, rfl⟩ := List.mem_map.1 hx
            simp [fnd_self hr hk', e]
        rw [h2]
        rcases Nat.lt_trichotomy i k with h | h | h
        · rw [if_pos h, if_neg (by omega), if_pos (by omega)]; omega
        · subst h; rw [if_neg (by omega), if_pos rfl, if_pos (by omega)]; omega
        · rw [if_neg (by omega), if_neg (by omega), if_neg (by omega)]
    have := key G.length (Nat.le_refl _)
    rw [List.take_length, if_pos hi] at this
    exact this
  have h2 : (flatE G).countP (fun x => fnd G x.2.1 == i) = into G[i].id (flatE G) := by
    refine List.countP_congr fun x hx => ?_
    obtain ⟨k, j, hk, hj, rfl⟩ := flatE_mem hx
    obtain ⟨h3, h4⟩ := isIn_spec (hE k j hk hj).1
    simp only [beq_iff_eq]
    constructor
    · intro e; subst e; exact h4.symm
    · intro e; rw [e]; exact fnd_self hr hi
  unfold degs; rw [h1, h2]

def sumTo (f : Nat → Nat) : Nat → Nat
  | 0 => 0
  | n + 1 => sumTo f n + f n
theorem sumTo_add (f g : Nat → Nat) (n : Nat) : sumTo (fun i => f i + g i) n = sumTo f n + sumTo g n := by
  induction n with
  | zero => rfl
  | succ n ih => simp only [sumTo, ih]; omega
theorem sumTo_count {α : Type} (f : α → Nat) (n : Nat) : ∀ (l : List α), (∀ x ∈ l, f x < n) → sumTo (fun i => l.countP fun x => f x == i) n = l.length
  | [], _ => by
    have : ∀ m, sumTo (fun _ => 0) m = 0 := by intro m; induction m with
      | zero => rfl
      | succ m ih => simp [sumTo, ih]
    simpa using this n
  | x :: l, h => by
    have ih := sumTo_count f n l fun y hy => h y (List.mem_cons_of_mem _ hy)
    have hx := h x List.mem_cons_self
    have h1 : ∀ m, sumTo (fun i => if f x = i then 1 else 0) m = if f x < m then 1 else 0 := by
      intro m
      induction m with
      | zero => simp [sumTo]
      | succ m ihm =>
        simp only [sumTo, ihm]
        rcases Nat.lt_trichotomy (f x) m with e | e | e
        · rw [if_pos e, if_neg (by omega), if_pos (by omega)]
        · subst e; simp
        · rw [if_neg (by omega), if_neg (by omega), if_neg (by omega)]
    have h2 : (fun i => (x :: l).countP fun x => f x == i) = fun i => (l.countP fun x => f x == i) + (if f x = i then 1 else 0) := by
      funext i
      simp [List.countP_cons]
    rw [h2, sumTo_add, ih, h1, if_pos hx]
    simp
theorem degs_sum {G : List Vtx} (hM : May G) : sumTo (degs G (flatE G)) G.length = 2 * nE G := by
  have h1 : degs G (flatE G) = fun i => (flatE G).countP (fun x => fnd G x.1 == i) + (flatE G).countP (fun x => fnd G x.2.1 == i) := by funext i; rfl
  rw [h1, sumTo_add, sumTo_count (fun x : Int × Int × Int => fnd G x.1), sumTo_count (fun x : Int × Int × Int => fnd G x.2.1), flatE_len]
  · omega
  · intro x hx
    obtain ⟨k, j, hk, hj, rfl⟩ := flatE_mem hx
    exact (isIn_spec (hM.edges k j hk hj).1).1
  · intro x hx
    obtain ⟨k, j, hk, hj, rfl⟩ := flatE_mem hx
    simp only; rw [fnd_self hM.steps.rising hk]; exact hk

theorem law_degrees {F : Nat → Prop} {a : Option Addr} {l c : Nat} {H : AH} {G : List Vtx} (ok : Ok H) (hG : SlV F H a l G) (hf : Fit G) (hF : ∀ b, F b → b < H.next) :
    FW Ee F_cohortlaw10_SpecDegrees [.agg ⟨[.slice a l c]⟩] H fun r H' => r = .bool true ∧ Grow H H' := by
  have hlen := hG.len
  refine fw_cohortlaw10_SpecDegrees ?_
  intro H1 e1
  have g1 : Grow H H1 := e1 ▸ Grow.new ok _
  have b1 : H1.get H.next = some (.cells [.slice a l c] 0) := e1 ▸ get_new_self _ _
  refine ⟨a, l, c, cell_of b1 rfl, (good_ok g1.ok (hG.grow loc_vtx g1) hf).mono ?_⟩
  rintro _ H2 ⟨b, rfl, hgood, g2⟩
  refine ⟨b, rfl, cond_intro (fun _ => ?_) (fun hb => ?_)⟩
  · refine awake_ok.mono ?_
    rintro _ _ ⟨rfl, rfl⟩
    exact ⟨_, rfl, rfl, g1.trans g2⟩
  have hb : b = true := by simpa using hb
  obtain ⟨hM, h20, _⟩ := hgood hb
  have hr := hM.steps.rising
  have g12 := g1.trans g2
  refine ⟨a, l, c, cell_of (g2.get _ _ id b1) rfl, (ref_ok g2.ok (hG.grow loc_vtx g12) hf).mono ?_⟩
  rintro _ H4 ⟨xa, xl, xc, rfl, hX, g4⟩
  have g14 := g12.trans g4
  have hxl := hX.len
  refine ⟨xa, xl, xc, rfl, a, l, c, cell_of ((g2.trans g4).get _ _ id b1) rfl, (degrees_ok g4.ok (hG.grow loc_vtx g14) (fun b hb => by have := hF b hb; have := g14.next; omega) hM).mono ?_⟩
  rintro _ H5 ⟨ob, n, cp, rfl, rfl, hob, hcells, g5⟩
  refine ⟨_, _, _, rfl, cond_neg (by simp; omega) ?_⟩
  have hX5 := hX.grow loc_vtx g5
  have hmany := hM.many
  have hflat := flatE_len G
  refine ⟨fun n _ all i H6 => H5 = H6 ∧ ∃ p : Nat, i = p ∧ n = G.length - p ∧ p ≤ G.length ∧ all = sumTo (degs G (flatE G)) p, ⟨_, rfl, 0, rfl, rfl, by omega, rfl⟩, ?_⟩
  rintro n t all i H6 ⟨rfl, p, rfl, rfl, hp, rfl⟩
  have dle := fun i => degs_le G (flatE G) i
  have sumle : ∀ q, q ≤ G.length → sumTo (degs G (flatE G)) q ≤ q * 4096 := by
    intro q
    induction q with
    | zero => intro _; simp [sumTo]
    | succ q ih => intro hq; have := ih (by omega); have := dle q; simp only [sumTo]; omega
  refine cond_dec (fun hlt => ?_) (fun hge => ?_)
  · have hk : p < G.length := by omega
    obtain ⟨hs, cid, _, ea, el, ec, c3, c4⟩ := hX5.nth hk
    have hel := c4.len
    refine grd_intro hs ⟨by omega, by omega, ea, el, ec, c3, ?_⟩
    refine ⟨fun n m k H7 => H5 = H7 ∧ ∃ q : Nat, k = q ∧ n = G.length - q ∧ q ≤ G.length ∧ m = G[p].edges.length + into G[p].id (flatE (G.take q)), ⟨_, rfl, 0, rfl, rfl, by omega, by simp [hel, flatE, into]⟩, ?_⟩
    rintro n m k H7 ⟨rfl, q, rfl, rfl, hq, rfl⟩
    have hin1 := into_le G[p].id (flatE G)
    have htk : ∀ k, (flatE (G.take k)).length ≤ 2048 := fun k => by rw [flatE_len]; have := nE_take_le G k; omega
    have hpe : G[p].edges.length ≤ 2048 := by
      have h1 := nE_take hk
      have h2 := nE_take_le G (p + 1)
      omega
    refine cond_dec (fun hlt2 => ?_) (fun hge2 => ?_)
    · have hk2 : q < G.length := by omega
      obtain ⟨hs2, _, _, fa, fl, fc, d3, d4⟩ := hX5.nth hk2
      have hfl := d4.len
      refine ⟨fun n m e H8 => H5 = H8 ∧ ∃ j : Nat, e = j ∧ n = fl - j ∧ j ≤ fl ∧ m = G[p].edges.length + into G[p].id (flatE (G.take q) ++ (G[q].edges.take j).map fun e => (G[q].id, e)), ⟨_, rfl, 0, rfl, rfl, by omega, by simp⟩, ?_⟩
      rintro n m e H8 ⟨rfl, j, rfl, rfl, hj, rfl⟩
      have hsz : (flatE (G.take q) ++ (G[q].edges.take j).map fun e => (G[q].id, e)).length ≤ 2048 := by
        have h1 := nE_take hk2
        have h2 := nE_take_le G (q + 1)
        rw [List.length_append, flatE_len, List.length_map, List.length_take]
        omega
      have hin2 := into_le G[p].id (flatE (G.take q) ++ (G[q].edges.take j).map fun e => (G[q].id, e))
      refine grd_intro hs ⟨by omega, by omega, fa, fl, fc, d3, cond_dec (fun hlt3 => ?_) (fun hge3 => ?_)⟩
      · have hk3 : j < G[q].edges.length := by omega
        have hfq : G[q].edges.length ≤ 2048 := by
          have h1 := nE_take hk2
          have h2 := nE_take_le G (q + 1)
          omega
        obtain ⟨hs3, f1, _⟩ := d4.nth hk3
        have hnext : into G[p].id (flatE (G.take q) ++ (G[q].edges.take (j + 1)).map fun e => (G[q].id, e)) = into G[p].id (flatE (G.take q) ++ (G[q].edges.take j).map fun e => (G[q].id, e)) + if (G[q].edges[j]).1 = G[p].id then 1 else 0 := by
          rw [List.take_succ_eq_append_getElem hk3, into_append, into_append, into_map]; omega
        refine grd_intro hs ⟨by omega, by omega, fa, fl, fc, d3, grd_intro hs3 ⟨by omega, by omega, _, f1, grd_intro hs ⟨by omega, by omega, _, cid, cond_intro (fun he => ?_) (fun he => ?_)⟩⟩⟩
        · have he : (G[q].edges[j]).1 = G[p].id := by simpa using he
          rw [if_pos he] at hnext
          intro t67 e67 t50 e50
          rw [wrap_i64 (by omega) (by omega)] at e67 e50
          subst e67 e50
          refine ⟨_, ?_, rfl, j + 1, by simp, rfl, by omega, ?_⟩
          · omega
          · rw [hnext]; omega
        · have he : ¬ (G[q].edges[j]).1 = G[p].id := by simpa using he
          rw [if_neg he] at hnext
          intro t50 e50
          rw [wrap_i64 (by omega) (by omega)] at e50
          subst e50
          refine ⟨_, ?_, rfl, j + 1, by simp, rfl, by omega, ?_⟩
          · omega
          · rw [hnext]; omega
      · intro t40 e40
        rw [wrap_i64 (by omega) (by omega)] at e40
        subst e40
        refine ⟨_, ?_, rfl, q + 1, by simp, rfl, by omega, ?_⟩
        · omega
        · have hjl : G[q].edges.take j = G[q].edges := List.take_of_length_le (by omega)
          rw [hjl, ← flatE_take hk2]
    · have hqG : G.take q = G := List.take_of_length_le (by omega)
      rw [hqG, ← Int.natCast_add, ← degs_eq hr hM.edges hk]
      have hka : (p : Int).toNat * 1 = p := by omega
      refine grd_intro rfl ⟨by omega, by omega, _, cell_of hcells (by rw [hka]; simp only [adr, Nat.zero_add]; exact ints_get hk), cond_neg (by simp) ?_⟩
      intro t76 e76 t28 e28
      have h1 := sumle p hp
      have h2 := dle p
      rw [wrap_i64 (by omega) (by omega)] at e76 e28
      subst e76 e28
      refine ⟨_, ?_, rfl, p + 1, by simp, rfl, by omega, ?_⟩
      · omega
      · simp [sumTo]
  · refine awake_ok.mono ?_
    rintro _ _ ⟨rfl, rfl⟩
    refine ⟨_, rfl, cond_pos rfl ?_⟩
    refine (redges_ok hX5 (by omega) (by omega)).mono ?_
    rintro _ _ ⟨rfl, rfl⟩
    refine ⟨_, rfl, ?_⟩
    intro t82 e82
    rw [wrap_i64 (by omega) (by omega)] at e82
    subst e82
    have hpG : p = G.length := by omega
    subst hpG
    rw [degs_sum hM]
    exact ⟨by simp, g14.trans g5⟩
end Go.Proofs.Cx

namespace Go.Proofs.Cx
open Go Go.Ev Go.RowKit

/-! graphs as they come in -/
abbrev RE : AH → List Value → Int × Int × Unit → Prop := RCons (RInt .i64) (RCons (RInt .i64) RNil)
abbrev RV : AH → List Value → Int × Int × List (Int × Int × Unit) × Unit → Prop := RCons (RInt .i64) (RCons (RInt .i64) (RCons (RSl 2 16 RE) RNil))
abbrev RG : AH → List Value → List (Int × Int × List (Int × Int × Unit) × Unit) × Unit → Prop := RCons (RSl 3 40 RV) RNil
theorem stable_re : Stable RE := stable_cons stable_int (stable_cons stable_int stable_nil)
theorem stable_rv : Stable RV := stable_cons stable_int (stable_cons stable_int (stable_cons (stable_slice stable_re) stable_nil))
theorem stable_rg : Stable RG := stable_cons (stable_slice stable_rv) stable_nil
theorem re_len (H : AH) (cs : List Value) (x) (h : RE H cs x) : cs.length = 2 := by
  obtain ⟨c1, c2, rfl, ⟨rfl, _⟩, c3, c4, rfl, ⟨rfl, _⟩, rfl⟩ := h; rfl
theorem rv_len (H : AH) (cs : List Value) (x) (h : RV H cs x) : cs.length = 3 := by
  obtain ⟨c1, c2, rfl, ⟨rfl, _⟩, c3, c4, rfl, ⟨rfl, _⟩, c5, c6, rfl, ⟨a, l, c, rfl, _⟩, rfl⟩ := h; rfl

section
variable {Hh : Type} {enc : TypeId × Value → Hh} {W : World} [Sy]
theorem lay_edge : LayT enc Try.prog W T_api_Edge RE :=
  lay_struct (ds := [(T_int64, 0), (T_int64, 1)]) (by kernel_rfl) (total := 2) (by kernel_rfl)
    (lay_fcons (off := 0) (n := 1) rfl (by kernel_rfl) (lay_int (by kernel_rfl)) stable_int (lay_fcons (off := 1) (n := 1) rfl (by kernel_rfl) (lay_int (by kernel_rfl)) stable_int lay_fnil))
theorem lay_vertex : LayT enc Try.prog W T_api_Vertex RV :=
  lay_struct (ds := [(T_int64, 0), (T_int64, 1), (T_L_api_Edge, 2)]) (by kernel_rfl) (total := 3) (by kernel_rfl)
    (lay_fcons (off := 0) (n := 1) rfl (by kernel_rfl) (lay_int (by kernel_rfl)) stable_int (lay_fcons (off := 1) (n := 1) rfl (by kernel_rfl) (lay_int (by kernel_rfl)) stable_int
      (lay_fcons (off := 2) (n := 1) rfl (by kernel_rfl) (lay_slice (by kernel_rfl) (by kernel_rfl) (by omega) (by kernel_rfl) lay_edge stable_re re_len) (stable_slice stable_re) lay_fnil)))
theorem lay_graph : LayT enc Try.prog W T_api_Graph RG :=
  lay_struct (ds := [(T_L_api_Vertex, 0)]) (by kernel_rfl) (total := 1) (by kernel_rfl)
    (lay_fcons (off := 0) (n := 1) rfl (by kernel_rfl) (lay_slice (by kernel_rfl) (by kernel_rfl) (by omega) (by kernel_rfl) lay_vertex stable_rv rv_len) (stable_slice stable_rv) lay_fnil)
end

def toE (x : Int × Int × Unit) : Int × Int := (x.1, x.2.1)
def toV (x : Int × Int × List (Int × Int × Unit) × Unit) : Vtx := ⟨x.1, x.2.1, x.2.2.1.map toE⟩
theorem lt_of_cell {H : AH} (ok : Ok H) {b i : Nat} {v : Value} (h : H.cell b i = some v) : b < H.next := by
  rcases Nat.lt_or_ge b H.next with h1 | h1
  · exact h1
  · have := ok b h1
    unfold AH.cell AH.rd at h
    rw [this] at h; cases h
theorem Sl.into {α β : Type} {sz : Nat} {P : AH → Nat → Nat → α → Prop} {Q : AH → Nat → Nat → β → Prop} {F : Nat → Prop} {H : AH} {f : α → β} {a : Option Addr} {l : Nat} {xs : List α} (h : Sl (fun _ => True) H sz P a l xs)
    (hF : ∀ b o x, P H b o x → F b) (k : ∀ b o x, x ∈ xs → P H b o x → Q H b o (f x)) : Sl F H sz Q a l (xs.map f) := by
  refine ⟨by rw [List.length_map]; exact h.len, fun hp => ⟨(h.base hp).1, ?_⟩, fun i hi => ?_⟩
  · have h1 : 0 < xs.length := by rw [← h.len]; exact hp
    exact hF _ _ _ (h.cells 0 h1)
  · rw [List.length_map] at hi
    rw [List.getElem_map]
    exact k _ _ _ (List.getElem_mem _) (h.cells i hi)
theorem graph_in {H : AH} (ok : Ok H) {a : Option Addr} {l : Nat} {xs : List (Int × Int × List (Int × Int × Unit) × Unit)} (h : Sl (fun _ => True) H 3 (PCs RV) a l xs) (hb : xs.length * 40 ≤ 140737488351232) :
    SlV (fun b => b < H.next) H a l (xs.map toV) ∧ Fit (xs.map toV) := by
  have edge : ∀ b o x, PCs RE H b o x → PEdge H b o (toE x) := by
    rintro b o x ⟨cs, hc, c1, c2, rfl, ⟨rfl, _⟩, c3, c4, rfl, ⟨rfl, _⟩, rfl⟩
    exact ⟨by simpa [toE, toV] using hc 0 _ rfl, by simpa [toE, toV] using hc 1 _ rfl⟩
  have vtx : ∀ b o x, PCs RV H b o x → PVtx (fun b => b < H.next) H b o (toV x) ∧ x.2.2.1.length * 16 ≤ 140737488351232 := by
    rintro b o x ⟨cs, hc, c1, c2, rfl, ⟨rfl, _⟩, c3, c4, rfl, ⟨rfl, _⟩, c5, c6, rfl, ⟨ea, el, ec, rfl, he, hn⟩, rfl⟩
    refine ⟨⟨by simpa [toE, toV] using hc 0 _ rfl, by simpa [toE, toV] using hc 1 _ rfl, ea, el, ec, by simpa using hc 2 _ rfl, ?_⟩, hn⟩
    exact Sl.into he (fun b o x hx => lt_of_cell ok (edge b o x hx).1) (fun b o x _ hx => edge b o x hx)
  refine ⟨Sl.into h (fun b o x hx => lt_of_cell ok (vtx b o x hx).1.1) (fun b o x _ hx => (vtx b o x hx).1), ⟨by rw [List.length_map]; omega, ?_⟩⟩
  intro v hv
  obtain ⟨x, hx, rfl⟩ := List.mem_map.1 hv
  obtain ⟨i, hi, rfl⟩ := List.getElem_of_mem hx
  have := (vtx _ _ _ (h.cells i hi)).2
  simp only [toV, List.length_map]
  omega
end Go.Proofs.Cx

namespace Go.Ev
open Go

/-! ### Tables -/
def tab (f : Nat → Value) (n : Nat) : List Value := (List.range n).map f
theorem tab_len (f : Nat → Value) (n : Nat) : (tab f n).length = n := by simp [tab]
theorem tab_get {f : Nat → Value} {n i : Nat} (h : i < n) : (tab f n)[i]? = some (f i) := by simp [tab, h]
def upd {α : Type} (f : Nat → α) (i : Nat) (x : α) : Nat → α := fun k => if k = i then x else f k
theorem upd_self {α : Type} (f : Nat → α) (i : Nat) (x : α) : upd f i x i = x := if_pos rfl
theorem upd_ne {α : Type} {f : Nat → α} {i k : Nat} {x : α} (h : k ≠ i) : upd f i x k = f k := if_neg h
theorem tab_congr {f g : Nat → Value} {n : Nat} (h : ∀ i, i < n → f i = g i) : tab f n = tab g n := by
  simp only [tab]
  refine List.map_congr_left fun i hi => ?_
  rw [h i (by simpa using hi)]
theorem tab_set {f : Nat → Value} {n i : Nat} {x : Value} (h : i < n) : (tab f n).set i x = tab (upd f i x) n := by
  apply List.ext_getElem?
  intro k
  rw [List.getElem?_set]
  by_cases hk : k < n
  · by_cases e : i = k
    · subst e; rw [if_pos rfl, if_pos (by rw [tab_len]; exact h), tab_get h, upd_self]
    · rw [if_neg e, tab_get hk, tab_get hk, upd_ne (fun e2 => e e2.symm)]
  · rw [List.getElem?_eq_none (l := tab (upd f i x) n) (by rw [tab_len]; omega)]
    rw [if_neg (by omega), List.getElem?_eq_none (by rw [tab_len]; omega)]
theorem tab_const (v : Value) (n : Nat) : (List.replicate n [v]).flatten = tab (fun _ => v) n := by
  apply List.ext_getElem?
  intro k
  rw [show (List.replicate n [v]).flatten = List.replicate n v by
    induction n with
    | zero => rfl
    | succ n ih => rw [List.replicate_succ, List.replicate_succ, List.flatten_cons, ih]; rfl]
  by_cases hk : k < n
  · rw [tab_get hk]; simp [hk]
  · rw [List.getElem?_eq_none (by simpa using hk), List.getElem?_eq_none (by rw [tab_len]; omega)]
theorem tab_one {f : Nat → Value} {n : Nat} (h : ∀ i, oneCell (f i) = true) : (tab f n).all oneCell = true := by simp [tab, h]

/-! ### Lists, each its own -/
structure SW where
  a : Option Addr
  l : Nat
  c : Nat
def SW.v (s : SW) : Value := .slice s.a s.l s.c
structure Fam (H : AH) (n0 N : Nat) (sl : Nat → SW) (raw : Nat → List Int) : Prop where
  own : ∀ i, i < N → Own H 1 (sl i).a (sl i).l (sl i).c ((raw i).map iv)
  far : ∀ i, i < N → ∀ x, (sl i).a = some x → n0 ≤ x.block
  apart : ∀ i j, i < N → j < N → i ≠ j → ∀ x y, (sl i).a = some x → (sl j).a = some y → x.block ≠ y.block
theorem iv_one (zs : List Int) : (zs.map iv).all oneCell = true := by simp [iv, oneCell]
theorem Own.lt {H : AH} {sz l c : Nat} {a : Option Addr} {cs : List Value} (h : Own H sz a l c cs) (ok : Ok H) {x : Addr} (e : a = some x) : x.block < H.next := by
  rcases h.st with ⟨h1, _⟩ | ⟨b, h1, _, _, h4⟩ | ⟨b, h1, _, h4⟩
  · rw [h1] at e; cases e
  · rw [h1] at e; cases e; exact ok.lt h4
  · rw [h1] at e; cases e; exact ok.lt h4
theorem Own.num {H : AH} {l c : Nat} {a : Option Addr} {zs : List Int} (h : Own H 1 a l c (zs.map iv)) : l = zs.length := by
  have := h.len; rw [List.length_map, Nat.mul_one] at this; exact this.symm
section
variable {H H' : AH} {n0 N : Nat} {sl : Nat → SW} {raw : Nat → List Int}
theorem Fam.mod {S : Nat → Prop} (h : Fam H n0 N sl raw) (hm : Mod S H H') (hs : ∀ b, S b → ∀ i, i < N → Off (sl i).a b) : Fam H' n0 N sl raw :=
  ⟨fun i hi => (h.own i hi).mod hm fun b hb => hs b hb i hi, h.far, h.apart⟩
theorem Fam.low (h : Fam H n0 N sl raw) {b : Nat} (hb : b < n0) (i : Nat) (hi : i < N) : Off (sl i).a b := fun x e => by have := h.far i hi x e; omega
theorem Fam.grow (h : Fam H n0 N sl raw) (hm : Grow H H') : Fam H' n0 N sl raw := h.mod hm fun _ hb => hb.elim
theorem Fam.off (h : Fam H n0 N sl raw) {i j : Nat} (hi : i < N) (hj : j < N) (hn : j ≠ i) {b : Nat} (hb : ¬ Off (sl i).a b) : Off (sl j).a b := by
  intro y e e2
  refine hb fun x ex ex2 => ?_
  exact h.apart i j hi hj (fun e => hn e.symm) x y ex e (by rw [ex2, e2])
/-- one of them is given anew -/
theorem Fam.set {S : Nat → Prop} (h : Fam H n0 N sl raw) {i : Nat} {s : SW} {r : List Int} (hm : Mod S H H') (hs : ∀ b, S b → ∀ j, j < N → j ≠ i → Off (sl j).a b) (hnew : Own H' 1 s.a s.l s.c (r.map iv))
    (hfar : ∀ x, s.a = some x → n0 ≤ x.block) (hap : ∀ x, s.a = some x → ∀ j, j < N → j ≠ i → Off (sl j).a x.block) : Fam H' n0 N (upd sl i s) (upd raw i r) := by
  refine ⟨fun j hj => ?_, fun j hj x e => ?_, fun j k hj hk hne x y ex ey => ?_⟩
  · by_cases e : j = i
    · subst e; rw [upd_self, upd_self]; exact hnew
    · rw [upd_ne e, upd_ne e]; exact (h.own j hj).mod hm fun b hb => hs b hb j hj e
  · by_cases e2 : j = i
    · subst e2; rw [upd_self] at e; exact hfar x e
    · rw [upd_ne e2] at e; exact h.far j hj x e
  · by_cases e1 : j = i
    · subst e1
      rw [upd_self] at ex
      rw [upd_ne (fun e => hne e.symm)] at ey
      exact fun e => hap x ex k hk (fun e => hne e.symm) y ey e.symm
    · rw [upd_ne e1] at ex
      by_cases e2 : k = i
      · subst e2; rw [upd_self] at ey; exact fun e => hap y ey j hj e1 x ex e
      · rw [upd_ne e2] at ey; exact h.apart j k hj hk hne x y ex ey
/-- a number is put behind one of them -/
theorem Fam.push {H1 : AH} (h : Fam H n0 N sl raw) (ok : Ok H) (hn0 : n0 ≤ H.next) {i : Nat} (hi : i < N) (x : Int) (e1 : H1 = H.new (.cells [.int .i64 x] 0)) (hb : ((sl i).l + 1) * 8 ≤ 140737488355328) :
    ∃ H2, apnd H1 1 8 (sl i).a (sl i).l (sl i).c (.slice (some ⟨H.next, 0, none⟩) 1 2) = some (.slice (some ⟨H1.next, 0, none⟩) ((sl i).l + 1) (2 * ((sl i).l + 1) + 1), H2) ∧
      Fam H2 n0 N (upd sl i ⟨some ⟨H1.next, 0, none⟩, (sl i).l + 1, 2 * ((sl i).l + 1) + 1⟩) (upd raw i (raw i ++ [x])) ∧ H2.next = H1.next + 1 ∧ Mod (fun b => ¬ Off (sl i).a b) H1 H2 := by
  have g1 : Grow H H1 := e1 ▸ Grow.new ok _
  have n1 : H1.next = H.next + 1 := by rw [e1]; rfl
  have h1 := h.grow g1
  obtain ⟨H2, k1, k2, k3, k4⟩ := (h1.own i hi).append (n := 1) (bytes := 8) (new := [iv x]) (x := .slice (some ⟨H.next, 0, none⟩) 1 2) g1.ok rfl (takev_new e1 rfl) (by omega) rfl rfl (by omega) (by omega)
  refine ⟨H2, k1, h1.set k4 (fun b hb j hj hne => h1.off hi hj hne hb) ?_ ?_ ?_, k3, k4⟩
  · simpa using k2
  · intro y e; cases e; simp only; omega
  · intro y e j hj _ z ez
    cases e
    have := (h1.own j hj).lt g1.ok ez
    simp only; omega
end
end Go.Ev
namespace Go.Proofs.Cx
open Go Go.Ev

/-- All: each round may change what the state owns -/
theorem all2_ok {St : Type} {F : Nat → Prop} {T : St → Nat → Prop} {s0 : St} {tb y : Nat} {a : Option Addr} {l c : Nat} {H : AH} {G : List Vtx} {R : St → List (Int × Int × Int) → AH → Prop} (ok : Ok H) (hG : SlV F H a l G)
    (hl : l ≤ 4611686018427387904) (hE : ∀ v ∈ G, v.edges.length * 16 ≤ 140737488355328) (ht : H.cell tb 0 = some (.slice a l c))
    (hT : ∀ s done H1, Ok H1 → R s done H1 → ∀ b, T s b → b < H1.next ∧ ¬ F b)
    (h0 : R s0 [] H) (hst : ∀ s done H1 H2, R s done H1 → Grow H1 H2 → R s done H2)
    (hR : ∀ s done x rest H1, flatE G = done ++ x :: rest → R s done H1 → Ok H1 → Mod (T s0) H H1 → RW Ee y [.int .i64 x.1, .agg ⟨[.int .i64 x.2.1, .int .i64 x.2.2]⟩] H1 fun v H2 => v = .bool true ∧ ∃ s', R s' (done ++ [x]) H2 ∧ Mod (T s) H1 H2 ∧ ∀ b, T s' b → T s b ∨ H1.next ≤ b) :
    FW Ee F_graph_All_1 [.func (.yield y) ⟨[]⟩ ⟨[]⟩, .pointer (some ⟨tb, 0, none⟩)] H fun _ H' => ∃ s, R s (flatE G) H' ∧ Mod (T s0) H H' := by
  have hlen := hG.len
  have hT0 := hT _ _ _ ok h0
  refine fw_graph_All_1 ?_
  refine ⟨a, l, c, ht, ?_⟩
  refine ⟨fun n i H1 => ∃ (p : Nat) (s : St), i = p ∧ p ≤ l ∧ n = l - p ∧ R s (flatE (G.take p)) H1 ∧ Mod (T s0) H H1 ∧ ∀ b, T s b → T s0 b ∨ H.next ≤ b, ⟨_, 0, s0, rfl, by omega, rfl, h0, .refl ok, fun b hb => .inl hb⟩, ?_⟩
  rintro n i H1 ⟨p, s1, rfl, hp, rfl, r1, m1, t1⟩
  refine cond_dec (fun hlt => ?_) (fun hge => ?_)
  · have hk : p < G.length := by omega
    obtain ⟨hs, c1, c2, ea, el, ec, c3, c4⟩ := (hG.mod loc_vtx m1 (fun b hb h => (hT0 b h).2 hb)).nth hk
    have hT1 := hT _ _ _ m1.ok r1
    have hel := c4.len
    have hfe := hE _ (List.getElem_mem hk)
    refine grd_intro hs ⟨by omega, by omega, _, _, ea, el, ec, c1, c2, c3, ?_⟩
    intro H1' e1'
    obtain ⟨H2, e2, b2, g2, n2⟩ := fresh_store (vs := [.int .i64 G[p].id, .int .i64 G[p].val, .slice ea el ec]) e1' rfl rfl m1.ok
    refine ⟨H2, e2, ea, el, ec, cell_of b2 rfl, ?_⟩
    refine ⟨fun n k H3 => ∃ (j : Nat) (s : St), k = j ∧ j ≤ el ∧ n = el - j ∧ R s (flatE (G.take p) ++ (G[p].edges.take j).map fun e => (G[p].id, e)) H3 ∧ Mod (T s0) H H3 ∧ Mod (T s1) H1 H3 ∧ H3.get H1.next = some (.cells [.int .i64 G[p].id, .int .i64 G[p].val, .slice ea el ec] 0) ∧
        (∀ b, T s b → T s0 b ∨ H.next ≤ b) ∧ (∀ b, T s b → T s1 b ∨ H2.next ≤ b) ∧ H2.next ≤ H3.next,
      ⟨_, 0, s1, rfl, by omega, rfl, by simpa using hst _ _ _ _ r1 g2, m1.add g2, (Mod.refl m1.ok).add g2, b2, t1, fun b hb => .inl hb, Nat.le_refl _⟩, ?_⟩
    rintro n k H3 ⟨j, s3, rfl, hj, rfl, r3, m3, m13, b3, t3, t13, n23⟩
    refine cond_dec (fun hlt2 => ?_) (fun hge2 => ?_)
    · have hk2 : j < G[p].edges.length := by omega
      obtain ⟨hs2, d1, d2⟩ := (c4.mod loc_edge m13 (fun b hb h => (hT1 b h).2 hb)).nth hk2
      refine grd_intro hs2 ⟨by omega, by omega, _, _, d1, d2, ?_⟩
      intro H3' e3'
      obtain ⟨H4, e4, b4, g4, n4⟩ := fresh_store (vs := [.int .i64 G[p].edges[j].1, .int .i64 G[p].edges[j].2]) e3' rfl rfl m3.ok
      refine ⟨H4, e4, _, cell_of (g4.get _ _ id b3) rfl, _, _, cell_of b4 rfl, cell_of b4 rfl, ?_⟩
      refine (hR _ _ (G[p].id, G[p].edges[j]) _ H4 (flatE_split hk hk2) (hst _ _ _ _ r3 g4) g4.ok (m3.add g4)).mono ?_
      rintro _ H5 ⟨rfl, s5, r5, m5, t5⟩
      refine ⟨_, rfl, ?_⟩
      refine cond_neg rfl ?_
      intro t27 e27
      rw [wrap_i64 (by omega) (by omega)] at e27
      subst e27
      have hn1 := m1.next
      have hn3 := m3.next
      have hn4 := g4.next
      have hn5 := m5.next
      refine ⟨_, ?_, j + 1, s5, by simp, by omega, rfl, ?_, ?_, ?_, ?_, ?_, ?_, ?_⟩
      · omega
      · rw [List.take_succ_eq_append_getElem hk2, List.map_append, ← List.append_assoc]; exact r5
      · exact Mod.ext (m3.add g4) m5 ok t3
      · refine Mod.ext (m13.add g4) m5 m1.ok fun b hb => ?_
        rcases t13 b hb with h | h
        · exact .inl h
        · exact .inr (by omega)
      · refine m5.get _ _ (fun h => ?_) (g4.get _ _ id b3)
        rcases t13 _ h with h | h
        · have := (hT1 _ h).1; omega
        · omega
      · intro b hb
        rcases t5 b hb with h | h
        · exact t3 b h
        · exact .inr (by omega)
      · intro b hb
        rcases t5 b hb with h | h
        · exact t13 b h
        · exact .inr (by omega)
      · omega
    · intro t28 e28
      rw [wrap_i64 (by omega) (by omega)] at e28
      subst e28
      refine ⟨_, ?_, p + 1, s3, by simp, by omega, rfl, ?_, m3, t3⟩
      · omega
      · rw [flatE_take hk]
        have e3 : G[p].edges.take j = G[p].edges := List.take_of_length_le (by omega)
        rw [e3] at r3
        exact r3
  · refine ⟨s1, ?_, m1⟩
    rw [List.take_of_length_le (by omega)] at r1
    exact r1
end Go.Proofs.Cx

namespace Go.Ev
open Go

/-- equal ones that stand side by side: one of them -/
def dd : List Int → List Int
  | [] => []
  | [x] => [x]
  | x :: y :: l => if x = y then dd (y :: l) else x :: dd (y :: l)
theorem dd_snoc : ∀ (l : List Int) (x y : Int), dd (l ++ [x, y]) = dd (l ++ [x]) ++ (if x = y then [] else [y])
  | [], x, y => by
    simp only [List.nil_append, dd]
    split
    · rename_i h; rw [h]; rfl
    · rfl
  | [a], x, y => by
    simp only [List.cons_append, List.nil_append, dd]
    by_cases h1 : a = x <;> by_cases h2 : x = y <;> simp [h1, h2]
  | a :: b :: l, x, y => by
    have ih := dd_snoc (b :: l) x y
    simp only [List.cons_append] at ih
    simp only [List.cons_append, dd]
    split
    · exact ih
    · rw [ih]; rfl
theorem dd_take {zs : List Int} {k : Nat} (h0 : 1 ≤ k) (hk : k < zs.length) : dd (zs.take (k + 1)) = dd (zs.take k) ++ (if zs[k - 1] = zs[k] then [] else [zs[k]]) := by
  have e1 : zs.take k = zs.take (k - 1) ++ [zs[k - 1]] := by
    have := List.take_succ_eq_append_getElem (l := zs) (i := k - 1) (by omega)
    rwa [show k - 1 + 1 = k from by omega] at this
  rw [List.take_succ_eq_append_getElem hk, e1, List.append_assoc]
  exact dd_snoc _ _ _
theorem dd_same {zs : List Int} {p : Nat} (hp : p ≤ zs.length) (h : ∀ i, 1 ≤ i → ∀ (h2 : i < p), zs[i - 1]'(by omega) ≠ zs[i]'(by omega)) : dd (zs.take p) = zs.take p := by
  induction p with
  | zero => rfl
  | succ p ih =>
    rcases Nat.eq_zero_or_pos p with h0 | h0
    · subst h0
      cases zs with
      | nil => rfl
      | cons z zs => rfl
    · rw [dd_take h0 (by omega), ih (by omega) fun i h1 h2 => h i h1 (by omega), if_neg (h p h0 (by omega)), List.take_succ_eq_append_getElem (by omega)]
theorem dd_mem : ∀ {zs : List Int} {x : Int}, x ∈ dd zs ↔ x ∈ zs
  | [], x => by simp [dd]
  | [a], x => by simp [dd]
  | a :: b :: l, x => by
    have ih := dd_mem (zs := b :: l) (x := x)
    unfold dd
    split
    · rename_i h; subst h; rw [ih]; simp
    · simp only [List.mem_cons] at ih ⊢; rw [ih]
/-- what is known of the cells behind a list -/
structure Cap (H : AH) (a : Option Addr) (l c : Nat) : Prop where
  here : ∀ x, a = some x → x.off = 0 ∧ ∃ cs es, H.get x.block = some (.cells cs es)
  room : 0 < l → ∃ b cs, a = some ⟨b, 0, none⟩ ∧ c = 2 * cs.length + 1 ∧ l ≤ cs.length ∧ H.get b = some (.cells cs 1)
theorem Own.cap {H : AH} {a : Option Addr} {l c : Nat} {cs : List Value} (h : Own H 1 a l c cs) : Cap H a l c := by
  refine ⟨fun x ex => ?_, fun hp => ?_⟩
  · rcases h.st with ⟨h1, _⟩ | ⟨b, h1, _, _, hg⟩ | ⟨b, h1, _, hg⟩
    · rw [h1] at ex; cases ex
    · rw [h1] at ex; cases ex; exact ⟨rfl, _, _, hg⟩
    · rw [h1] at ex; cases ex; exact ⟨rfl, _, _, hg⟩
  · rcases h.st with ⟨_, h1, _⟩ | ⟨b, _, h1, _⟩ | ⟨b, e, hc, hg⟩
    · omega
    · omega
    · have := h.len
      exact ⟨b, cs, e, by omega, by omega, hg⟩
theorem Cap.mod {S : Nat → Prop} {H H' : AH} {a : Option Addr} {l c : Nat} (h : Cap H a l c) (hm : Mod S H H') (hs : ∀ b, S b → Off a b) : Cap H' a l c := by
  refine ⟨fun x ex => ?_, fun hp => ?_⟩
  · obtain ⟨h0, cs, es, hg⟩ := h.here x ex
    exact ⟨h0, cs, es, hm.get _ _ (fun hb => hs _ hb _ ex rfl) hg⟩
  · obtain ⟨b, cs, e, h1, h2, h3⟩ := h.room hp
    exact ⟨b, cs, e, h1, h2, hm.get _ _ (fun hb => hs _ hb _ e rfl) h3⟩
/-- rising ones -/
def Asc (l : List Int) : Prop := l.Pairwise (· < ·)
theorem dd_asc : ∀ {zs : List Int}, zs.Pairwise (· ≤ ·) → Asc (dd zs)
  | [], _ => .nil
  | [a], _ => by simp [dd, Asc]
  | a :: b :: l, h => by
    have h2 := List.pairwise_cons.1 h
    have ih := dd_asc (zs := b :: l) h2.2
    unfold dd
    split
    · exact ih
    · rename_i hne
      refine List.pairwise_cons.2 ⟨fun x hx => ?_, ih⟩
      have hx2 := dd_mem.1 hx
      have h3 := h2.1 b List.mem_cons_self
      rcases List.mem_cons.1 hx2 with rfl | h4
      · omega
      · have h5 := (List.pairwise_cons.1 h2.2).1 x h4
        omega
theorem sortI_mem {zs : List Int} {x : Int} : x ∈ sortI zs ↔ x ∈ zs := List.mem_mergeSort
theorem sortI_le (zs : List Int) : (sortI zs).Pairwise (· ≤ ·) := by
  have := List.pairwise_mergeSort (le := fun x y : Int => decide (x ≤ y)) (by intro a b c; simp; omega) (by intro a b; simp; omega) zs
  exact this.imp fun h => by simpa using h
theorem sortI_len (zs : List Int) : (sortI zs).length = zs.length := List.length_mergeSort _
/-- rising lists with the same members are the same -/
theorem Asc.ext : ∀ {a b : List Int}, Asc a → Asc b → (∀ x, x ∈ a ↔ x ∈ b) → a = b
  | [], [], _, _, _ => rfl
  | [], y :: b, _, _, h => by have := (h y).2 List.mem_cons_self; simp at this
  | x :: a, [], _, _, h => by have := (h x).1 List.mem_cons_self; simp at this
  | x :: a, y :: b, ha, hb, h => by
    have ha := List.pairwise_cons.1 ha
    have hb := List.pairwise_cons.1 hb
    have e : x = y := by
      have h1 := (h x).1 List.mem_cons_self
      have h2 := (h y).2 List.mem_cons_self
      rcases List.mem_cons.1 h1 with h1 | h1
      · exact h1
      · rcases List.mem_cons.1 h2 with h2 | h2
        · exact h2.symm
        · have := hb.1 x h1; have := ha.1 y h2; omega
    subst e
    congr 1
    refine Asc.ext ha.2 hb.2 fun z => ⟨fun hz => ?_, fun hz => ?_⟩
    · have := ha.1 z hz
      rcases List.mem_cons.1 ((h z).1 (List.mem_cons_of_mem _ hz)) with h1 | h1
      · omega
      · exact h1
    · have := hb.1 z hz
      rcases List.mem_cons.1 ((h z).2 (List.mem_cons_of_mem _ hz)) with h1 | h1
      · omega
      · exact h1

theorem own_sl {F : Nat → Prop} {H : AH} {a : Option Addr} {l c : Nat} {zs : List Int} (h : Own H 1 a l c (zs.map iv)) (hF : ∀ x, a = some x → F x.block) : SlI F H a l zs := by
  refine ⟨h.num, fun hp => ?_, fun i hi => ?_⟩
  · rcases h.st with ⟨_, h1, _⟩ | ⟨b, _, h1, _⟩ | ⟨b, rfl, _⟩
    · omega
    · omega
    · exact ⟨rfl, hF _ rfl⟩
  · obtain ⟨_, h2, h3⟩ := h.cell (i := i) (v := iv zs[i]) (by rw [List.getElem?_map, List.getElem?_eq_getElem hi]; rfl)
    show H.cell _ _ = _
    rw [h2, Nat.zero_add, Nat.mul_one]; exact h3

section
variable {H : AH} {b o len k : Nat} {cs : List Value}
theorem slcv_lo (hg : H.get b = some (.cells cs 1)) (hk : k < len) : slcv H 1 (some ⟨b, o, none⟩) len (2 * len + 1) (some (.int .i64 (k : Int))) none none = some (.slice (some ⟨b, o + k * 1, none⟩) (len - k) (2 * (len - k) + 1)) := by
  have e1 : capN (2 * len + 1) = len := by simp only [capN]; omega
  have e2 : Nat.beq len k = false := by
    cases h : Nat.beq len k with
    | false => rfl
    | true => have := Nat.eq_of_beq_eq_true h; omega
  have e3 : Nat.beq ((2 * len + 1) % 2) 0 = false := by
    rw [show (2 * len + 1) % 2 = 1 from by omega]; rfl
  have e4 : esAt H b 1 = true := by simp only [esAt, hg]; rfl
  unfold slcv
  simp only [e1, boundOf, Option.isSome_none, cond_false]
  rw [if_pos (by omega)]
  simp only [Int.toNat_natCast, Nat.ble_eq_true_of_le (Nat.le_refl len), cond_true, cutv, e2, cond_false, e3, Bool.or_false, e4]
theorem slcv_hi (hg : H.get b = some (.cells cs 1)) (hk : k ≤ len) (h0 : 0 < len) : slcv H 1 (some ⟨b, o, none⟩) len (2 * len + 1) none (some (.int .i64 (k : Int))) none = some (.slice (some ⟨b, o, none⟩) k (2 * len + 1)) := by
  have e1 : capN (2 * len + 1) = len := by simp only [capN]; omega
  have e2 : Nat.beq len 0 = false := by
    cases h : Nat.beq len 0 with
    | false => rfl
    | true => have := Nat.eq_of_beq_eq_true h; omega
  have e3 : Nat.beq ((2 * len + 1) % 2) 0 = false := by
    rw [show (2 * len + 1) % 2 = 1 from by omega]; rfl
  have e4 : esAt H b 1 = true := by simp only [esAt, hg]; rfl
  unfold slcv
  simp only [e1, boundOf, Option.isSome_none]
  rw [if_pos (by omega)]
  simp only [Int.toNat_natCast, Nat.ble_eq_true_of_le hk, cond_true, cutv, e2, cond_false, e3, Bool.or_false, e4, Nat.zero_mul, Nat.add_zero, Nat.sub_zero]
end
end Go.Ev
namespace Go.Proofs.Cx
open Go Go.Ev

set_option maxRecDepth 100000 in
theorem sort_eq {args : List Value} {H : AH} : (evalN Ee 1).call F_slices_Sort_L_int_int args H = sortW args H := by kernel_rfl
set_option maxRecDepth 100000 in
theorem clear_eq {H : AH} {a : Addr} {n c : Nat} : clearv Ee H [T_L_int] (.slice (some a) n c) = bif Nat.beq n 0 then some (.tuple #[], H) else (match storeCellsv H a.block a.off ((List.replicate n [Value.int .i64 0]).flatten) with
    | some H' => some (.tuple #[], H')
    | none => none) := by kernel_rfl

theorem sort_ok {a : Option Addr} {l c : Nat} {H : AH} {zs : List Int} (ok : Ok H) (h : Own H 1 a l c (zs.map iv)) (hl : l ≤ 4611686018427387903) :
    FW Ee F_slices_Sort_L_int_int [.slice a l c] H fun r H' => r = .tuple ⟨[]⟩ ∧ Own H' 1 a l c ((sortI zs).map iv) ∧ H'.next = H.next ∧ Mod (fun b => ¬ Off a b) H H' := by
  have hn := h.num
  have some_ : ∀ {b es : Nat}, a = some ⟨b, 0, none⟩ → H.get b = some (.cells (zs.map iv) es) → (∀ H', H'.get b = some (.cells ((sortI zs).map iv) es) → Own H' 1 a l c ((sortI zs).map iv)) →
      FW Ee F_slices_Sort_L_int_int [.slice a l c] H fun r H' => r = .tuple ⟨[]⟩ ∧ Own H' 1 a l c ((sortI zs).map iv) ∧ H'.next = H.next ∧ Mod (fun b => ¬ Off a b) H H' := by
    intro b es ea hg ho
    subst ea
    refine ⟨1, .tuple ⟨[]⟩, H.set b (.cells ((sortI zs).map iv) es), ?_, rfl, ho _ (get_set_self _ _ _), rfl, ?_⟩
    · rw [sort_eq]
      have e1 : ((zs.map iv).drop 0).take l = zs.map iv := by rw [List.drop_zero, List.take_of_length_le (by rw [List.length_map]; omega)]
      have e2 : (zs.map iv).drop (0 + l) = [] := List.drop_of_length_le (by rw [List.length_map]; omega)
      simp only [sortW, hg, e1, intsOf_map, e2, List.take_zero, List.nil_append, List.append_nil]
      rw [← hn, Nat.beq_refl, Nat.ble_eq_true_of_le hl]
      rfl
    · refine (Mod.set ok hg _).le (fun x hx _ => ?_) ok
      subst hx
      exact fun hoff => hoff _ rfl rfl
  rcases h.st with ⟨rfl, rfl, rfl⟩ | ⟨b, rfl, rfl, rfl, hg⟩ | ⟨b, rfl, rfl, hg⟩
  · have hz : zs = [] := List.length_eq_zero_iff.1 hn.symm
    subst hz
    refine ⟨1, .tuple ⟨[]⟩, H, ?_, rfl, ?_, rfl, Mod.refl ok⟩
    · rw [sort_eq]; rfl
    · simpa [sortI] using Own.nil H 1
  · have hz : zs = [] := List.length_eq_zero_iff.1 hn.symm
    subst hz
    exact some_ rfl hg fun H' hg' => by simpa [sortI] using Own.empty 1 (by simpa [sortI] using hg')
  · exact some_ rfl hg fun H' hg' => ⟨by rw [List.length_map, sortI_len]; omega, iv_one _, .inr (.inr ⟨b, rfl, rfl, hg'⟩)⟩

theorem compact_ok {F : Nat → Prop} {a : Option Addr} {l c : Nat} {H : AH} {zs : List Int} (ok : Ok H) (h : Own H 1 a l c (zs.map iv)) (hl : l ≤ 4611686018427387903) (hF : ∀ x, a = some x → F x.block) :
    FW Ee F_slices_Compact_L_int_int [.slice a l c] H fun r H' => ∃ l' c', r = .slice a l' c' ∧ SlI F H' a l' (dd zs) ∧ Cap H' a l' c' ∧ H'.next = H.next ∧ Mod (fun b => ¬ Off a b) H H' := by
  have hn := h.num
  refine fw_slices_Compact_L_int_int ?_
  refine cond_dec (fun h2 => ?_) (fun h2 => ?_)
  · refine ⟨l, c, rfl, ?_, h.cap, rfl, Mod.refl ok⟩
    have : dd zs = zs := by
      match zs, hn with
      | [], _ => rfl
      | [_], _ => rfl
      | _ :: _ :: _, hn => simp at hn; omega
    rw [this]
    exact own_sl h hF
  · obtain ⟨b, rfl, rfl, hg⟩ : ∃ b, a = some ⟨b, 0, none⟩ ∧ c = 2 * l + 1 ∧ H.get b = some (.cells (zs.map iv) 1) := by
      rcases h.st with ⟨_, h1, _⟩ | ⟨b, _, h1, _⟩ | h1
      · omega
      · omega
      · exact h1
    have at0 : ∀ {i : Nat} (hi : i < zs.length), (zs.map iv)[i]? = some (iv zs[i]) := fun hi => by rw [List.getElem?_map, List.getElem?_eq_getElem hi]; rfl
    refine ⟨fun n k _ _ _ H1 => H = H1 ∧ ∃ p : Nat, k = p ∧ 1 ≤ p ∧ p ≤ l ∧ n = l - p ∧ ∀ i, 1 ≤ i → ∀ (h2 : i < p) (h3 : i < zs.length), zs[i - 1] ≠ zs[i], ⟨_, rfl, 1, rfl, by omega, by omega, rfl, fun i h1 h2 => by omega⟩, ?_⟩
    rintro n k t2a t2l t2c H1 ⟨rfl, p, rfl, hp1, hpl, rfl, hne⟩
    refine cond_dec (fun hlt => ?_) (fun hge => ?_)
    · have hk : p < zs.length := by omega
      refine grd_intro rfl ⟨by omega, by omega, zs[p], cell_of hg (by rw [show (adr (some (⟨b, 0, none⟩ : Addr))).off + ((p : Int)).toNat * 1 = p from by simp only [adr]; omega]; exact at0 hk), ?_⟩
      intro t22 e22
      rw [wrap_i64 (by omega) (by omega)] at e22
      subst e22
      refine grd_intro rfl ⟨by omega, by omega, zs[p - 1], cell_of hg ?_, ?_⟩
      · rw [show (adr (some (⟨b, 0, none⟩ : Addr))).off + ((p : Int) - 1).toNat * 1 = p - 1 from by simp only [adr]; omega]
        exact at0 (by omega)
      refine cond_intro (fun he => ?_) (fun he => ?_)
      · have he : zs[p] = zs[p - 1] := by simpa using he
        refine ⟨_, _, _, slcv_lo hg (by omega), ?_⟩
        have hpre : dd (zs.take p) = zs.take p := dd_same (by omega) fun i h1 h2 => hne i h1 h2 (by omega)
        refine ⟨fun n2 k3 k2 H2 => ∃ (q m : Nat) (cs : List Value), k3 = q ∧ k2 = m ∧ 1 ≤ m ∧ p + m ≤ l ∧ n2 = l - p - m ∧ q ≤ p + m - 1 ∧ H2.get b = some (.cells cs 1) ∧ cs.length = l ∧ cs.take q = (dd (zs.take (p + m))).map iv ∧
            (∀ i, p + m - 1 ≤ i → cs[i]? = (zs.map iv)[i]?) ∧ H2.next = H.next ∧ Mod (· = b) H H2,
          ⟨_, p, 1, zs.map iv, rfl, rfl, by omega, by omega, rfl, by omega, hg, by rw [List.length_map]; omega, ?_, fun i _ => rfl, rfl, .refl ok⟩, ?_⟩
        · rw [dd_take hp1 hk, if_pos he.symm, List.append_nil, hpre, List.map_take]
        rintro n2 k3 k2 H2 ⟨q, m, cs, rfl, rfl, hm1, hml, rfl, hq, hg2, hcl, hct, hcd, hnx, hmod⟩
        refine cond_dec (fun hlt2 => ?_) (fun hge2 => ?_)
        · have hm : p + m < zs.length := by omega
          have r1 : cs[p + m]? = some (iv zs[p + m]) := by rw [hcd _ (by omega)]; exact at0 hm
          have r2 : cs[p + m - 1]? = some (iv zs[p + m - 1]) := by rw [hcd _ (by omega)]; exact at0 (by omega)
          refine grd_intro rfl ⟨by omega, by omega, zs[p + m], cell_of hg2 ?_, ?_⟩
          · rw [show (adr (some (⟨b, 0 + p * 1, none⟩ : Addr))).off + ((m : Int)).toNat * 1 = p + m from by simp only [adr]; omega]; exact r1
          intro t41 e41
          rw [wrap_i64 (by omega) (by omega)] at e41
          subst e41
          refine grd_intro rfl ⟨by omega, by omega, zs[p + m - 1], cell_of hg2 ?_, ?_⟩
          · rw [show (adr (some (⟨b, 0 + p * 1, none⟩ : Addr))).off + ((m : Int) - 1).toNat * 1 = p + m - 1 from by simp only [adr]; omega]; exact r2
          refine cond_intro (fun hd => ?_) (fun hd => ?_)
          · have hd : zs[p + m] ≠ zs[p + m - 1] := by simpa using hd
            refine grd_intro rfl ⟨by omega, by omega, zs[p + m], cell_of hg2 ?_, grd_intro rfl ⟨by omega, by omega, ?_⟩⟩
            · rw [show (adr (some (⟨b, 0 + p * 1, none⟩ : Addr))).off + ((m : Int)).toNat * 1 = p + m from by simp only [adr]; omega]; exact r1
            have hqn : (q : Int).toNat * 1 = q := by omega
            refine ⟨_, store_of (o := (adr (some (⟨b, 0, none⟩ : Addr))).off + (q : Int).toNat * 1) hg2 (by rw [hqn]; simp [adr]; omega) rfl, ?_⟩
            rw [hqn, show (adr (some (⟨b, 0, none⟩ : Addr))).off + q = q from by simp only [adr]; omega, lset_one (by omega)]
            intro t53 e53 t34 e34
            rw [wrap_i64 (by omega) (by omega)] at e53 e34
            subst e53 e34
            refine ⟨l - p - (m + 1), by omega, q + 1, m + 1, cs.set q (.int .i64 zs[p + m]), by simp, by simp, by omega, by omega, rfl, by omega, get_set_self _ _ _, by rw [List.length_set]; exact hcl, ?_, ?_, hnx, ?_⟩
            · rw [show p + (m + 1) = p + m + 1 from rfl, dd_take (by omega) hm, if_neg (fun e => hd e.symm), List.map_append, ← hct, List.take_succ_eq_append_getElem (by rw [List.length_set]; omega), List.getElem_set_self, List.take_set_of_le (Nat.le_refl _)]
              rfl
            · intro i hi
              rw [List.getElem?_set_ne (by omega)]
              exact hcd i (by omega)
            · exact hmod.trans (Mod.set hmod.ok hg2 _)
          · have hd : zs[p + m] = zs[p + m - 1] := by simpa using hd
            intro t34 e34
            rw [wrap_i64 (by omega) (by omega)] at e34
            subst e34
            refine ⟨l - p - (m + 1), by omega, q, m + 1, cs, rfl, by simp, by omega, by omega, rfl, by omega, hg2, hcl, ?_, fun i hi => hcd i (by omega), hnx, hmod⟩
            rw [show p + (m + 1) = p + m + 1 from rfl, dd_take (by omega) hm, if_pos hd.symm, List.append_nil, hct]
        · have hpm : p + m = l := by omega
          rw [hpm, hn, List.take_length] at hct
          have hql : q < l := by omega
          have hdl : (dd zs).length = q := by
            have := congrArg List.length hct
            rw [List.length_take, List.length_map] at this
            omega
          refine ⟨_, _, _, slcv_lo hg2 hql, ?_⟩
          have hb0 : Nat.beq (l - q) 0 = false := by
            cases h : Nat.beq (l - q) 0 with
            | false => rfl
            | true => have := Nat.eq_of_beq_eq_true h; omega
          refine ⟨.tuple #[], H2.set b (.cells (lset cs (0 + q * 1) (tab (fun _ => Value.int .i64 0) (l - q))) 1), ?_, ?_⟩
          · rw [clear_eq, hb0, tab_const, store_of (o := 0 + q * 1) hg2 (by rw [tab_len]; omega) (tab_one fun _ => rfl)]
            rfl
          refine ⟨_, _, _, slcv_hi (get_set_self _ _ _) (by omega) (by omega), ?_⟩
          refine ⟨_, _, rfl, ⟨hdl.symm, fun _ => ⟨rfl, hF _ rfl⟩, fun i hi => ?_⟩, ⟨fun x ex => by cases ex; exact ⟨rfl, _, _, get_set_self _ _ _⟩, fun _ => ⟨b, _, rfl, ?_, ?_, get_set_self _ _ _⟩⟩, hnx, ?_⟩
          · refine cell_of (get_set_self _ _ _) ?_
            have h5 : (cs.take q)[i]? = some (iv (dd zs)[i]) := by rw [hct, List.getElem?_map, List.getElem?_eq_getElem hi]; rfl
            rw [List.getElem?_take_of_lt (by omega)] at h5
            simp only [adr, Nat.zero_add, Nat.mul_one]
            rw [lset, List.append_assoc, List.getElem?_append_left (by rw [List.length_take]; omega), List.getElem?_take_of_lt (by omega)]
            exact h5
          · simp only [lset, List.length_append, List.length_take, List.length_drop, tab_len]; omega
          · simp only [lset, List.length_append, List.length_take, List.length_drop, tab_len]; omega
          · refine (hmod.trans (Mod.set hmod.ok hg2 _)).le (fun x hx _ => ?_) ok
            subst hx
            exact fun hoff => hoff _ rfl rfl
      · have he : zs[p] ≠ zs[p - 1] := by simpa using he
        intro t15 e15
        rw [wrap_i64 (by omega) (by omega)] at e15
        subst e15
        refine ⟨l - (p + 1), by omega, rfl, p + 1, by simp, by omega, by omega, rfl, fun i h1 h2 h3 => ?_⟩
        rcases Nat.lt_or_ge i p with h4 | h4
        · exact hne i h1 h4 h3
        · have : i = p := by omega
          subst this
          exact fun e => he e.symm
    · refine ⟨l, 2 * l + 1, rfl, ?_, h.cap, rfl, Mod.refl ok⟩
      have : dd zs = zs := by
        have h4 := dd_same (zs := zs) (Nat.le_refl _) fun i h1 h2 => hne i h1 (by omega) h2
        rwa [List.take_length] at h4
      rw [this]
      exact own_sl h hF
end Go.Proofs.Cx
