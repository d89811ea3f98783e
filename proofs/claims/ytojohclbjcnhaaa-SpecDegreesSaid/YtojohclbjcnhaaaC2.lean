/- SpecDegrees: the law, as formulas have it. Graphs that come in. -/
import Derived.Test.YtojohclbjcnhaaaC1
import Derived.Test.YtojohclbjcnhaaaB3
namespace Go.Ev
open Go
structure GoodG (G : List Vtx) : Prop where
  may : May G
  few : G.length ≤ 20
  pos : ∀ (i k : Nat) (hi : i < G.length) (hk : k < G[i].edges.length), 0 ≤ (G[i].edges[k]).2
end Go.Ev
namespace Go.Proofs.Cx
open Go Go.Ev

set_option maxRecDepth 100000 in
theorem awake_ok {H : AH} : FW Ee F_cohortlaw10_awake [] H fun v H' => v = .bool true ∧ H = H' := by
  have e : (evalN Ee 1).call F_cohortlaw10_awake [] H = some (.bool true, H) := by kernel_rfl
  exact ⟨1, _, _, e, rfl, rfl⟩

theorem good_ok {F : Nat → Prop} {a : Option Addr} {l c : Nat} {H : AH} {G : List Vtx} (ok : Ok H) (hG : SlV F H a l G) (hf : Fit G) :
    FW Ee F_cohortlaw10_good [.agg ⟨[.slice a l c]⟩] H fun r H' => ∃ b : Bool, r = .bool b ∧ (b = true → GoodG G) ∧ Grow H H' := by
  have hlen := hG.len
  have hfn := hf.n
  refine fw_cohortlaw10_good ?_
  intro H1 e1
  have g1 : Grow H H1 := e1 ▸ Grow.new ok _
  have b1 : H1.get H.next = some (.cells [.slice a l c] 0) := e1 ▸ get_new_self _ _
  refine ⟨a, l, c, cell_of b1 rfl, ?_⟩
  refine (ref_ok g1.ok (hG.grow loc_vtx g1) hf).mono ?_
  rintro _ H2 ⟨xa, xl, xc, rfl, hX, g2⟩
  refine ⟨xa, xl, xc, rfl, (rcheck_ok hX hf).mono ?_⟩
  rintro _ _ ⟨rfl, rfl⟩
  refine ⟨_, rfl, cond_intro (fun _ => ⟨false, rfl, by simp, g1.trans g2⟩) (fun hz => ?_)⟩
  have hM : May G := chk_zero.1 (by simpa using hz)
  have b2 := g2.get _ _ id b1
  refine ⟨a, l, c, cell_of b2 rfl, cond_dec (fun _ => ⟨false, rfl, by simp, g1.trans g2⟩) (fun h20 => ?_)⟩
  have hG2 := (hG.grow loc_vtx g1).grow loc_vtx g2
  refine ⟨fun n _ i H3 => H2 = H3 ∧ ∃ p : Nat, i = p ∧ n = l - p ∧ ∀ (i k : Nat) (hi : i < G.length) (hk : k < G[i].edges.length), i < p → 0 ≤ (G[i].edges[k]).2, ⟨_, rfl, 0, rfl, rfl, fun i k _ _ h => by omega⟩, ?_⟩
  rintro n t i H3 ⟨rfl, p, rfl, rfl, hp⟩
  refine ⟨a, l, c, cell_of b2 rfl, cond_dec (fun hlt => ?_) (fun hge => ?_)⟩
  · have hk : p < G.length := by omega
    obtain ⟨hs, _, _, ea, el, ec, c3, c4⟩ := hG2.nth hk
    have hel := c4.len
    have hfe := hf.at hk
    refine ⟨fun n _ k H3 => H2 = H3 ∧ ∃ j : Nat, k = j ∧ n = el - j ∧ ∀ k (hk2 : k < G[p].edges.length), k < j → 0 ≤ (G[p].edges[k]).2, ⟨_, rfl, 0, rfl, rfl, fun k _ h => by omega⟩, ?_⟩
    rintro n t k H3 ⟨rfl, j, rfl, rfl, hj⟩
    refine ⟨a, l, c, cell_of b2 rfl, grd_intro hs ⟨by omega, by omega, ea, el, ec, c3, cond_dec (fun hlt2 => ?_) (fun hge2 => ?_)⟩⟩
    · have hk2 : j < G[p].edges.length := by omega
      obtain ⟨hs2, _, d2⟩ := c4.nth hk2
      refine ⟨a, l, c, cell_of b2 rfl, grd_intro hs ⟨by omega, by omega, ea, el, ec, c3, grd_intro hs2 ⟨by omega, by omega, _, d2, cond_dec (fun _ => ⟨false, rfl, by simp, g1.trans g2⟩) (fun hn => ?_)⟩⟩⟩
      intro t32 e32
      rw [wrap_i64 (by omega) (by omega)] at e32
      subst e32
      refine ⟨_, ?_, rfl, j + 1, by simp, rfl, ?_⟩
      · omega
      · intro k hk3 hkj
        rcases Nat.lt_or_ge k j with h3 | h3
        · exact hj k hk3 h3
        · have : k = j := by omega
          subst this; omega
    · intro t21 e21
      rw [wrap_i64 (by omega) (by omega)] at e21
      subst e21
      refine ⟨_, ?_, rfl, p + 1, by simp, rfl, ?_⟩
      · omega
      · intro i k hi hk3 hip
        rcases Nat.lt_or_ge i p with h3 | h3
        · exact hp i k hi hk3 h3
        · have : i = p := by omega
          subst this; exact hj k hk3 (by omega)
  · exact ⟨true, rfl, fun _ => ⟨hM, by omega, fun i k hi hk => hp i k hi hk (by omega)⟩, g1.trans g2⟩

/-- edges to a number, among so many -/
def into (t : Int) (l : List (Int × Int × Int)) : Nat := l.countP fun x => x.2.1 == t

theorem into_append (t : Int) (a b : List (Int × Int × Int)) : into t (a ++ b) = into t a + into t b := by simp [into]
theorem into_map (t i : Int) (es : List (Int × Int)) (e : Int × Int) : into t ((es ++ [e]).map fun x => (i, x)) = into t (es.map fun x => (i, x)) + if e.1 = t then 1 else 0 := by
  simp only [List.map_append, into_append, List.map_cons, List.map_nil]
  simp only [into, List.countP_cons, List.countP_nil, beq_iff_eq]
  omega
theorem into_le (t : Int) (l : List (Int × Int × Int)) : into t l ≤ l.length := List.countP_le_length

/-- the degree of a vertex, as the law counts it -/
theorem degs_eq {G : List Vtx} (hr : Rising G) (hE : EdgesOk G) {i : Nat} (hi : i < G.length) : degs G (flatE G) i = G[i].edges.length + into G[i].id (flatE G) := by
  have h1 : (flatE G).countP (fun x => fnd G x.1 == i) = G[i].edges.length := by
    have key : ∀ (k : Nat), k ≤ G.length → (flatE (G.take k)).countP (fun x => fnd G x.1 == i) = if i < k then G[i].edges.length else 0 := by
      intro k
      induction k with
      | zero => intro _; simp [flatE]
      | succ k ih =>
        intro hk
        have hk' : k < G.length := by omega
        rw [flatE_take hk', List.countP_append, ih (by omega)]
        have h2 : (G[k].edges.map fun e => (G[k].id, e)).countP (fun x => fnd G x.1 == i) = if k = i then G[i].edges.length else 0 := by
          by_cases e : k = i
          · subst e
            rw [if_pos rfl, List.countP_eq_length.2]
            · simp
            · intro x hx
              obtain ⟨e, _, rfl⟩ := List.mem_map.1 hx
              simp [fnd_self hr hk']
          · rw [if_neg e, List.countP_eq_zero]
            intro x hx
            obtain ⟨e2, _, rfl⟩ := List.mem_map.1 hx
            simp [fnd_self hr hk', e]
        rw [h2]
        rcases Nat.lt_trichotomy i k with h | h | h
        · rw [if_pos h, if_neg (by omega), if_pos (by omega)]; omega
        · subst h; rw [if_neg (by omega), if_pos rfl, if_pos (by omega)]; omega
        · rw [if_neg (by omega), if_neg (by omega), if_neg (by omega)]
    have := key G.length (Nat.le_refl _)
    rw [List.take_length, if_pos hi] at this
    exact this
  have h2 : (flatE G).countP (fun x => fnd G x.2.1 == i) = into G[i].id (flatE G) := by
    refine List.countP_congr fun x hx => ?_
    obtain ⟨k, j, hk, hj, rfl⟩ := flatE_mem hx
    obtain ⟨h3, h4⟩ := isIn_spec (hE k j hk hj).1
    simp only [beq_iff_eq]
    constructor
    · intro e; subst e; exact h4.symm
    · intro e; rw [e]; exact fnd_self hr hi
  unfold degs; rw [h1, h2]

def sumTo (f : Nat → Nat) : Nat → Nat
  | 0 => 0
  | n + 1 => sumTo f n + f n
theorem sumTo_add (f g : Nat → Nat) (n : Nat) : sumTo (fun i => f i + g i) n = sumTo f n + sumTo g n := by
  induction n with
  | zero => rfl
  | succ n ih => simp only [sumTo, ih]; omega
theorem sumTo_count {α : Type} (f : α → Nat) (n : Nat) : ∀ (l : List α), (∀ x ∈ l, f x < n) → sumTo (fun i => l.countP fun x => f x == i) n = l.length
  | [], _ => by
    have : ∀ m, sumTo (fun _ => 0) m = 0 := by intro m; induction m with
      | zero => rfl
      | succ m ih => simp [sumTo, ih]
    simpa using this n
  | x :: l, h => by
    have ih := sumTo_count f n l fun y hy => h y (List.mem_cons_of_mem _ hy)
    have hx := h x List.mem_cons_self
    have h1 : ∀ m, sumTo (fun i => if f x = i then 1 else 0) m = if f x < m then 1 else 0 := by
      intro m
      induction m with
      | zero => simp [sumTo]
      | succ m ihm =>
        simp only [sumTo, ihm]
        rcases Nat.lt_trichotomy (f x) m with e | e | e
        · rw [if_pos e, if_neg (by omega), if_pos (by omega)]
        · subst e; simp
        · rw [if_neg (by omega), if_neg (by omega), if_neg (by omega)]
    have h2 : (fun i => (x :: l).countP fun x => f x == i) = fun i => (l.countP fun x => f x == i) + (if f x = i then 1 else 0) := by
      funext i
      simp [List.countP_cons]
    rw [h2, sumTo_add, ih, h1, if_pos hx]
    simp
theorem degs_sum {G : List Vtx} (hM : May G) : sumTo (degs G (flatE G)) G.length = 2 * nE G := by
  have h1 : degs G (flatE G) = fun i => (flatE G).countP (fun x => fnd G x.1 == i) + (flatE G).countP (fun x => fnd G x.2.1 == i) := by funext i; rfl
  rw [h1, sumTo_add, sumTo_count (fun x : Int × Int × Int => fnd G x.1), sumTo_count (fun x : Int × Int × Int => fnd G x.2.1), flatE_len]
  · omega
  · intro x hx
    obtain ⟨k, j, hk, hj, rfl⟩ := flatE_mem hx
    exact (isIn_spec (hM.edges k j hk hj).1).1
  · intro x hx
    obtain ⟨k, j, hk, hj, rfl⟩ := flatE_mem hx
    simp only; rw [fnd_self hM.steps.rising hk]; exact hk

theorem law_degrees {F : Nat → Prop} {a : Option Addr} {l c : Nat} {H : AH} {G : List Vtx} (ok : Ok H) (hG : SlV F H a l G) (hf : Fit G) (hF : ∀ b, F b → b < H.next) :
    FW Ee F_cohortlaw10_SpecDegrees [.agg ⟨[.slice a l c]⟩] H fun r H' => r = .bool true ∧ Grow H H' := by
  have hlen := hG.len
  refine fw_cohortlaw10_SpecDegrees ?_
  intro H1 e1
  have g1 : Grow H H1 := e1 ▸ Grow.new ok _
  have b1 : H1.get H.next = some (.cells [.slice a l c] 0) := e1 ▸ get_new_self _ _
  refine ⟨a, l, c, cell_of b1 rfl, (good_ok g1.ok (hG.grow loc_vtx g1) hf).mono ?_⟩
  rintro _ H2 ⟨b, rfl, hgood, g2⟩
  refine ⟨b, rfl, cond_intro (fun _ => ?_) (fun hb => ?_)⟩
  · refine awake_ok.mono ?_
    rintro _ _ ⟨rfl, rfl⟩
    exact ⟨_, rfl, rfl, g1.trans g2⟩
  have hb : b = true := by simpa using hb
  obtain ⟨hM, h20, _⟩ := hgood hb
  have hr := hM.steps.rising
  have g12 := g1.trans g2
  refine ⟨a, l, c, cell_of (g2.get _ _ id b1) rfl, (ref_ok g2.ok (hG.grow loc_vtx g12) hf).mono ?_⟩
  rintro _ H4 ⟨xa, xl, xc, rfl, hX, g4⟩
  have g14 := g12.trans g4
  have hxl := hX.len
  refine ⟨xa, xl, xc, rfl, a, l, c, cell_of ((g2.trans g4).get _ _ id b1) rfl, (degrees_ok g4.ok (hG.grow loc_vtx g14) (fun b hb => by have := hF b hb; have := g14.next; omega) hM).mono ?_⟩
  rintro _ H5 ⟨ob, n, cp, rfl, rfl, hob, hcells, g5⟩
  refine ⟨_, _, _, rfl, cond_neg (by simp; omega) ?_⟩
  have hX5 := hX.grow loc_vtx g5
  have hmany := hM.many
  have hflat := flatE_len G
  refine ⟨fun n _ all i H6 => H5 = H6 ∧ ∃ p : Nat, i = p ∧ n = G.length - p ∧ p ≤ G.length ∧ all = sumTo (degs G (flatE G)) p, ⟨_, rfl, 0, rfl, rfl, by omega, rfl⟩, ?_⟩
  rintro n t all i H6 ⟨rfl, p, rfl, rfl, hp, rfl⟩
  have dle := fun i => degs_le G (flatE G) i
  have sumle : ∀ q, q ≤ G.length → sumTo (degs G (flatE G)) q ≤ q * 4096 := by
    intro q
    induction q with
    | zero => intro _; simp [sumTo]
    | succ q ih => intro hq; have := ih (by omega); have := dle q; simp only [sumTo]; omega
  refine cond_dec (fun hlt => ?_) (fun hge => ?_)
  · have hk : p < G.length := by omega
    obtain ⟨hs, cid, _, ea, el, ec, c3, c4⟩ := hX5.nth hk
    have hel := c4.len
    refine grd_intro hs ⟨by omega, by omega, ea, el, ec, c3, ?_⟩
    refine ⟨fun n m k H7 => H5 = H7 ∧ ∃ q : Nat, k = q ∧ n = G.length - q ∧ q ≤ G.length ∧ m = G[p].edges.length + into G[p].id (flatE (G.take q)), ⟨_, rfl, 0, rfl, rfl, by omega, by simp [hel, flatE, into]⟩, ?_⟩
    rintro n m k H7 ⟨rfl, q, rfl, rfl, hq, rfl⟩
    have hin1 := into_le G[p].id (flatE G)
    have htk : ∀ k, (flatE (G.take k)).length ≤ 2048 := fun k => by rw [flatE_len]; have := nE_take_le G k; omega
    have hpe : G[p].edges.length ≤ 2048 := by
      have h1 := nE_take hk
      have h2 := nE_take_le G (p + 1)
      omega
    refine cond_dec (fun hlt2 => ?_) (fun hge2 => ?_)
    · have hk2 : q < G.length := by omega
      obtain ⟨hs2, _, _, fa, fl, fc, d3, d4⟩ := hX5.nth hk2
      have hfl := d4.len
      refine ⟨fun n m e H8 => H5 = H8 ∧ ∃ j : Nat, e = j ∧ n = fl - j ∧ j ≤ fl ∧ m = G[p].edges.length + into G[p].id (flatE (G.take q) ++ (G[q].edges.take j).map fun e => (G[q].id, e)), ⟨_, rfl, 0, rfl, rfl, by omega, by simp⟩, ?_⟩
      rintro n m e H8 ⟨rfl, j, rfl, rfl, hj, rfl⟩
      have hsz : (flatE (G.take q) ++ (G[q].edges.take j).map fun e => (G[q].id, e)).length ≤ 2048 := by
        have h1 := nE_take hk2
        have h2 := nE_take_le G (q + 1)
        rw [List.length_append, flatE_len, List.length_map, List.length_take]
        omega
      have hin2 := into_le G[p].id (flatE (G.take q) ++ (G[q].edges.take j).map fun e => (G[q].id, e))
      refine grd_intro hs ⟨by omega, by omega, fa, fl, fc, d3, cond_dec (fun hlt3 => ?_) (fun hge3 => ?_)⟩
      · have hk3 : j < G[q].edges.length := by omega
        have hfq : G[q].edges.length ≤ 2048 := by
          have h1 := nE_take hk2
          have h2 := nE_take_le G (q + 1)
          omega
        obtain ⟨hs3, f1, _⟩ := d4.nth hk3
        have hnext : into G[p].id (flatE (G.take q) ++ (G[q].edges.take (j + 1)).map fun e => (G[q].id, e)) = into G[p].id (flatE (G.take q) ++ (G[q].edges.take j).map fun e => (G[q].id, e)) + if (G[q].edges[j]).1 = G[p].id then 1 else 0 := by
          rw [List.take_succ_eq_append_getElem hk3, into_append, into_append, into_map]; omega
        refine grd_intro hs ⟨by omega, by omega, fa, fl, fc, d3, grd_intro hs3 ⟨by omega, by omega, _, f1, grd_intro hs ⟨by omega, by omega, _, cid, cond_intro (fun he => ?_) (fun he => ?_)⟩⟩⟩
        · have he : (G[q].edges[j]).1 = G[p].id := by simpa using he
          rw [if_pos he] at hnext
          intro t67 e67 t50 e50
          rw [wrap_i64 (by omega) (by omega)] at e67 e50
          subst e67 e50
          refine ⟨_, ?_, rfl, j + 1, by simp, rfl, by omega, ?_⟩
          · omega
          · rw [hnext]; omega
        · have he : ¬ (G[q].edges[j]).1 = G[p].id := by simpa using he
          rw [if_neg he] at hnext
          intro t50 e50
          rw [wrap_i64 (by omega) (by omega)] at e50
          subst e50
          refine ⟨_, ?_, rfl, j + 1, by simp, rfl, by omega, ?_⟩
          · omega
          · rw [hnext]; omega
      · intro t40 e40
        rw [wrap_i64 (by omega) (by omega)] at e40
        subst e40
        refine ⟨_, ?_, rfl, q + 1, by simp, rfl, by omega, ?_⟩
        · omega
        · have hjl : G[q].edges.take j = G[q].edges := List.take_of_length_le (by omega)
          rw [hjl, ← flatE_take hk2]
    · have hqG : G.take q = G := List.take_of_length_le (by omega)
      rw [hqG, ← Int.natCast_add, ← degs_eq hr hM.edges hk]
      have hka : (p : Int).toNat * 1 = p := by omega
      refine grd_intro rfl ⟨by omega, by omega, _, cell_of hcells (by rw [hka]; simp only [adr, Nat.zero_add]; exact ints_get hk), cond_neg (by simp) ?_⟩
      intro t76 e76 t28 e28
      have h1 := sumle p hp
      have h2 := dle p
      rw [wrap_i64 (by omega) (by omega)] at e76 e28
      subst e76 e28
      refine ⟨_, ?_, rfl, p + 1, by simp, rfl, by omega, ?_⟩
      · omega
      · simp [sumTo]
  · refine awake_ok.mono ?_
    rintro _ _ ⟨rfl, rfl⟩
    refine ⟨_, rfl, cond_pos rfl ?_⟩
    refine (redges_ok hX5 (by omega) (by omega)).mono ?_
    rintro _ _ ⟨rfl, rfl⟩
    refine ⟨_, rfl, ?_⟩
    intro t82 e82
    rw [wrap_i64 (by omega) (by omega)] at e82
    subst e82
    have hpG : p = G.length := by omega
    subst hpG
    rw [degs_sum hM]
    exact ⟨by simp, g14.trans g5⟩
end Go.Proofs.Cx

namespace Go.Proofs.Cx
open Go Go.Ev Go.RowKit

/-! graphs as they come in -/
abbrev RE : AH → List Value → Int × Int × Unit → Prop := RCons (RInt .i64) (RCons (RInt .i64) RNil)
abbrev RV : AH → List Value → Int × Int × List (Int × Int × Unit) × Unit → Prop := RCons (RInt .i64) (RCons (RInt .i64) (RCons (RSl 2 16 RE) RNil))
abbrev RG : AH → List Value → List (Int × Int × List (Int × Int × Unit) × Unit) × Unit → Prop := RCons (RSl 3 40 RV) RNil
theorem stable_re : Stable RE := stable_cons stable_int (stable_cons stable_int stable_nil)
theorem stable_rv : Stable RV := stable_cons stable_int (stable_cons stable_int (stable_cons (stable_slice stable_re) stable_nil))
theorem stable_rg : Stable RG := stable_cons (stable_slice stable_rv) stable_nil
theorem re_len (H : AH) (cs : List Value) (x) (h : RE H cs x) : cs.length = 2 := by
  obtain ⟨c1, c2, rfl, ⟨rfl, _⟩, c3, c4, rfl, ⟨rfl, _⟩, rfl⟩ := h; rfl
theorem rv_len (H : AH) (cs : List Value) (x) (h : RV H cs x) : cs.length = 3 := by
  obtain ⟨c1, c2, rfl, ⟨rfl, _⟩, c3, c4, rfl, ⟨rfl, _⟩, c5, c6, rfl, ⟨a, l, c, rfl, _⟩, rfl⟩ := h; rfl

section
variable {Hh : Type} {enc : TypeId × Value → Hh} {W : World} [Sy]
theorem lay_edge : LayT enc Try.prog W T_api_Edge RE :=
  lay_struct (ds := [(T_int64, 0), (T_int64, 1)]) (by kernel_rfl) (total := 2) (by kernel_rfl)
    (lay_fcons (off := 0) (n := 1) rfl (by kernel_rfl) (lay_int (by kernel_rfl)) stable_int (lay_fcons (off := 1) (n := 1) rfl (by kernel_rfl) (lay_int (by kernel_rfl)) stable_int lay_fnil))
theorem lay_vertex : LayT enc Try.prog W T_api_Vertex RV :=
  lay_struct (ds := [(T_int64, 0), (T_int64, 1), (T_L_api_Edge, 2)]) (by kernel_rfl) (total := 3) (by kernel_rfl)
    (lay_fcons (off := 0) (n := 1) rfl (by kernel_rfl) (lay_int (by kernel_rfl)) stable_int (lay_fcons (off := 1) (n := 1) rfl (by kernel_rfl) (lay_int (by kernel_rfl)) stable_int
      (lay_fcons (off := 2) (n := 1) rfl (by kernel_rfl) (lay_slice (by kernel_rfl) (by kernel_rfl) (by omega) (by kernel_rfl) lay_edge stable_re re_len) (stable_slice stable_re) lay_fnil)))
theorem lay_graph : LayT enc Try.prog W T_api_Graph RG :=
  lay_struct (ds := [(T_L_api_Vertex, 0)]) (by kernel_rfl) (total := 1) (by kernel_rfl)
    (lay_fcons (off := 0) (n := 1) rfl (by kernel_rfl) (lay_slice (by kernel_rfl) (by kernel_rfl) (by omega) (by kernel_rfl) lay_vertex stable_rv rv_len) (stable_slice stable_rv) lay_fnil)
end

def toE (x : Int × Int × Unit) : Int × Int := (x.1, x.2.1)
def toV (x : Int × Int × List (Int × Int × Unit) × Unit) : Vtx := ⟨x.1, x.2.1, x.2.2.1.map toE⟩
theorem lt_of_cell {H : AH} (ok : Ok H) {b i : Nat} {v : Value} (h : H.cell b i = some v) : b < H.next := by
  rcases Nat.lt_or_ge b H.next with h1 | h1
  · exact h1
  · have := ok b h1
    unfold AH.cell AH.rd at h
    rw [this] at h; cases h
theorem Sl.into {α β : Type} {sz : Nat} {P : AH → Nat → Nat → α → Prop} {Q : AH → Nat → Nat → β → Prop} {F : Nat → Prop} {H : AH} {f : α → β} {a : Option Addr} {l : Nat} {xs : List α} (h : Sl (fun _ => True) H sz P a l xs)
    (hF : ∀ b o x, P H b o x → F b) (k : ∀ b o x, x ∈ xs → P H b o x → Q H b o (f x)) : Sl F H sz Q a l (xs.map f) := by
  refine ⟨by rw [List.length_map]; exact h.len, fun hp => ⟨(h.base hp).1, ?_⟩, fun i hi => ?_⟩
  · have h1 : 0 < xs.length := by rw [← h.len]; exact hp
    exact hF _ _ _ (h.cells 0 h1)
  · rw [List.length_map] at hi
    rw [List.getElem_map]
    exact k _ _ _ (List.getElem_mem _) (h.cells i hi)
theorem graph_in {H : AH} (ok : Ok H) {a : Option Addr} {l : Nat} {xs : List (Int × Int × List (Int × Int × Unit) × Unit)} (h : Sl (fun _ => True) H 3 (PCs RV) a l xs) (hb : xs.length * 40 ≤ 140737488351232) :
    SlV (fun b => b < H.next) H a l (xs.map toV) ∧ Fit (xs.map toV) := by
  have edge : ∀ b o x, PCs RE H b o x → PEdge H b o (toE x) := by
    rintro b o x ⟨cs, hc, c1, c2, rfl, ⟨rfl, _⟩, c3, c4, rfl, ⟨rfl, _⟩, rfl⟩
    exact ⟨by simpa [toE, toV] using hc 0 _ rfl, by simpa [toE, toV] using hc 1 _ rfl⟩
  have vtx : ∀ b o x, PCs RV H b o x → PVtx (fun b => b < H.next) H b o (toV x) ∧ x.2.2.1.length * 16 ≤ 140737488351232 := by
    rintro b o x ⟨cs, hc, c1, c2, rfl, ⟨rfl, _⟩, c3, c4, rfl, ⟨rfl, _⟩, c5, c6, rfl, ⟨ea, el, ec, rfl, he, hn⟩, rfl⟩
    refine ⟨⟨by simpa [toE, toV] using hc 0 _ rfl, by simpa [toE, toV] using hc 1 _ rfl, ea, el, ec, by simpa using hc 2 _ rfl, ?_⟩, hn⟩
    exact Sl.into he (fun b o x hx => lt_of_cell ok (edge b o x hx).1) (fun b o x _ hx => edge b o x hx)
  refine ⟨Sl.into h (fun b o x hx => lt_of_cell ok (vtx b o x hx).1.1) (fun b o x _ hx => (vtx b o x hx).1), ⟨by rw [List.length_map]; omega, ?_⟩⟩
  intro v hv
  obtain ⟨x, hx, rfl⟩ := List.mem_map.1 hv
  obtain ⟨i, hi, rfl⟩ := List.getElem_of_mem hx
  have := (vtx _ _ _ (h.cells i hi)).2
  simp only [toV, List.length_map]
  omega
end Go.Proofs.Cx
