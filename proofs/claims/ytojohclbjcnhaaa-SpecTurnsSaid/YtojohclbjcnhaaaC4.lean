/- SpecMatched: the law, as formulas have it. Neighbours as numbers; counts; triangles; cores: plain laws. Tables of numbers, rows as numbers; spec.Colors. spec.Triangles. Lists of numbers that are put in order: the plain law. -/
import Derived.Test.YtojohclbjcnhaaaC3
import Derived.Test.YtojohclbjcnhaaaVc3
namespace Go.Proofs.Cx
open Go Go.Ev Go.RowKit

theorem law_matched {F FP : Nat → Prop} {a pa : Option Addr} {l c pl pc : Nat} {H : AH} {G : List Vtx} {ps : List Int} (ok : Ok H) (hG : SlV F H a l G) (hf : Fit G) (hF : ∀ b, F b → b < H.next) (hP : SlI FP H pa pl ps) (hb : ps.length ≤ 4611686018427387903) :
    FW Ee F_cohortlaw10_SpecMatched [.agg ⟨[.slice a l c]⟩, .slice pa pl pc] H fun r H' => r = .bool true ∧ Grow H H' := by
  have hlen := hG.len
  have hplen := hP.len
  refine fw_cohortlaw10_SpecMatched ?_
  intro H1 e1
  have g1 : Grow H H1 := e1 ▸ Grow.new ok _
  have b1 : H1.get H.next = some (.cells [.slice a l c] 0) := e1 ▸ get_new_self _ _
  refine ⟨a, l, c, cell_of b1 rfl, (good_ok g1.ok (hG.grow loc_vtx g1) hf).mono ?_⟩
  rintro _ H2 ⟨b, rfl, hgood, g2⟩
  refine ⟨b, rfl, cond_intro (fun _ => ?_) (fun hb2 => ?_)⟩
  · refine awake_ok.mono ?_
    rintro _ _ ⟨rfl, rfl⟩
    exact ⟨_, rfl, rfl, g1.trans g2⟩
  have hb2 : b = true := by simpa using hb2
  obtain ⟨hM, h20, _⟩ := hgood hb2
  have hr := hM.steps.rising
  have g12 := g1.trans g2
  refine ⟨a, l, c, cell_of (g2.get _ _ id b1) rfl, (ref_ok g2.ok (hG.grow loc_vtx g12) hf).mono ?_⟩
  rintro _ H4 ⟨xa, xl, xc, rfl, hX, g4⟩
  have g14 := g12.trans g4
  have hxl := hX.len
  have P4 := hP.grow loc_int g14
  have b4 := (g2.trans g4).get _ _ id b1
  have hE : ∀ v ∈ G, v.edges.length ≤ 4611686018427387903 := by
    intro v hv
    have h1 : v.edges.length ≤ nE G := by
      obtain ⟨k, hk, rfl⟩ := List.mem_iff_getElem.1 hv
      have h2 := nE_take hk
      have h3 := nE_take_le G (k + 1)
      omega
    have := hM.many
    omega
  have last : ∀ ok6 : Bool, (ok6 = true ↔ ps.length = G.length ∧ ∀ i, i < G.length → PairOk G ps i) → FW Ee F_cohortlaw10_awake [] H4 fun v_6 H10 => ∃ (r95 : Bool), v_6 = .bool r95 ∧ cond (r95) (
      ∃ (va : Option Addr) (vl : Nat) (vc : Nat), H10.cell H.next (0 + 0) = some (.slice va vl vc) ∧ FW Ee F_spec_Matched [.agg ⟨[.slice va vl vc]⟩, .slice pa pl pc] H10 fun v_7 H11 => ∃ (r99 : Bool), v_7 = .bool r99 ∧ (Value.bool (r99 == ok6) = .bool true ∧ Grow H H11))
      (Value.bool false = .bool true ∧ Grow H H10) := by
    intro ok6 hok
    refine awake_ok.mono ?_
    rintro _ _ ⟨rfl, rfl⟩
    refine ⟨true, rfl, cond_pos rfl ?_⟩
    refine ⟨a, l, c, cell_of b4 rfl, (matched_ok g4.ok (hG.grow loc_vtx g14) (fun b hb => by have := hF b hb; have := g14.next; omega) P4 hM hb).mono ?_⟩
    rintro _ H11 ⟨r, rfl, hr9, g11⟩
    refine ⟨r, rfl, ?_, g14.trans g11⟩
    have : r = ok6 := by
      cases r <;> cases ok6
      · rfl
      · exact absurd (hr9.2 (hok.1 rfl)) (by simp)
      · exact absurd (hok.2 (hr9.1 rfl)) (by simp)
      · rfl
    rw [this]; simp
  refine ⟨xa, xl, xc, rfl, fun m ok6 i Hb => H4 = Hb ∧ ∃ p : Nat, i = p ∧ p ≤ xl ∧ m = xl - p ∧ (ok6 = true ↔ ps.length = G.length ∧ ∀ i, i < p → PairOk G ps i), ⟨_, rfl, 0, rfl, by omega, rfl, ?_⟩, ?_⟩
  · constructor
    · intro h
      have h : (pl : Int) = (xl : Int) := by simpa using h
      exact ⟨by omega, fun i h => by omega⟩
    · rintro ⟨h, _⟩
      have : pl = xl := by omega
      rw [this]; simp
  rintro m ok6 i Hb ⟨rfl, p, rfl, hp, rfl, hok⟩
  refine cond_dec (fun hlt => ?_) (fun hge => ?_)
  · refine cond_intro (fun hok6 => ?_) (fun hok6 => ?_)
    · obtain ⟨hpG, hdone⟩ := hok.1 hok6
      have hiG : p < G.length := by omega
      have hi : p < ps.length := by omega
      obtain ⟨hsp, ep⟩ := P4.nth hi
      obtain ⟨hsx, ex, _⟩ := hX.nth hiG
      have fin : ∀ (o : Bool), (o = true ↔ PairOk G ps p) → ∀ t30 : Int, t30 = IntKind.i64.wrap ((p : Int) + 1) → ∃ m, m < xl - p ∧ (H4 = H4 ∧ ∃ p : Nat, t30 = p ∧ p ≤ xl ∧ m = xl - p ∧ (o = true ↔ ps.length = G.length ∧ ∀ i, i < p → PairOk G ps i)) := by
        intro o ho t30 e30
        rw [wrap_i64 (by omega) (by omega)] at e30
        subst e30
        refine ⟨xl - (p + 1), by omega, rfl, p + 1, by simp, by omega, rfl, fun h => ⟨hpG, fun i hi2 => ?_⟩, fun h => ho.2 (h.2 p (by omega))⟩
        rcases Nat.lt_or_ge i p with h1 | h1
        · exact hdone i h1
        · have : i = p := by omega
          subst this; exact ho.1 h
      refine grd_intro hsp ⟨by omega, by omega, _, ep, grd_intro hsx ⟨by omega, by omega, _, ex, cond_intro (fun hfree => ?_) (fun hfree => ?_)⟩⟩
      · have hfree : ps[p] = G[p].id := by simpa using hfree
        refine ⟨fun m o k Hc => H4 = Hc ∧ ∃ q : Nat, k = q ∧ q ≤ xl ∧ m = xl - q ∧ (o = true ↔ ∀ a, a < q → Near G p a → ∀ (h : a < G.length) (h2 : a < ps.length), ps[a] ≠ G[a].id), ⟨_, rfl, 0, rfl, by omega, rfl, by rw [hok6]; simp⟩, ?_⟩
        rintro m o k Hc ⟨rfl, q, rfl, hq, rfl, ho⟩
        refine cond_dec (fun hlt2 => ?_) (fun hge2 => ?_)
        · have hqG : q < G.length := by omega
          have hq2 : q < ps.length := by omega
          have step : ∀ (o' : Bool), (o' = true ↔ o = true ∧ (Near G p q → ps[q] ≠ G[q].id)) → ∀ t46 : Int, t46 = IntKind.i64.wrap ((q : Int) + 1) → ∃ m, m < xl - q ∧ (H4 = H4 ∧ ∃ q : Nat, t46 = q ∧ q ≤ xl ∧ m = xl - q ∧ (o' = true ↔ ∀ a, a < q → Near G p a → ∀ (h : a < G.length) (h2 : a < ps.length), ps[a] ≠ G[a].id)) := by
            intro o' ho' t46 e46
            rw [wrap_i64 (by omega) (by omega)] at e46
            subst e46
            refine ⟨xl - (q + 1), by omega, rfl, q + 1, by simp, by omega, rfl, fun h a ha hn h1 h2 => ?_, fun h => ho'.2 ⟨ho.2 fun a ha => h a (by omega), fun hn => h q (by omega) hn hqG hq2⟩⟩
            obtain ⟨h3, h4⟩ := ho'.1 h
            rcases Nat.lt_or_ge a q with h5 | h5
            · exact ho.1 h3 a h5 hn h1 h2
            · have : a = q := by omega
              subst this; exact h4 hn
          refine cond_intro (fun hot => ?_) (fun hof => ?_)
          · refine (near_ok hX hE hiG hqG).mono ?_
            rintro _ _ ⟨b, rfl, hbn, rfl⟩
            refine ⟨_, rfl, cond_intro (fun hbt => ?_) (fun hbf => ?_)⟩
            · obtain ⟨hs5, e5⟩ := P4.nth hq2
              obtain ⟨hs6, e6, _⟩ := hX.nth hqG
              refine grd_intro hs5 ⟨by omega, by omega, _, e5, grd_intro hs6 ⟨by omega, by omega, _, e6, ?_⟩⟩
              refine step _ ⟨fun h => ⟨hot, fun _ => by simpa using h⟩, fun h => ?_⟩
              have := h.2 (hbn.1 hbt)
              simpa using this
            · refine step _ ⟨fun _ => ⟨hot, fun hn => ?_⟩, fun _ => rfl⟩
              rw [hbn.2 hn] at hbf; cases hbf
          · refine step _ ⟨fun h => (by cases h), fun h => ?_⟩
            rw [hof] at h; exact h.1
        · refine fin _ ⟨fun h => ⟨hiG, hi, .inl ⟨hfree, fun a hn h1 h2 => ho.1 h a (by omega) hn h1 h2⟩⟩, ?_⟩
          rintro ⟨_, _, ⟨_, h⟩ | ⟨h, _⟩⟩
          · exact ho.2 fun a _ hn h1 h2 => h a hn h1 h2
          · exact (h hfree).elim
      · have hfree : ps[p] ≠ G[p].id := by simpa using hfree
        refine grd_intro hsp ⟨by omega, by omega, _, ep, (rfind_ok hX (by omega)).mono ?_⟩
        rintro _ _ ⟨rfl, rfl⟩
        refine ⟨_, _, rfl, cond_intro (fun hin => ?_) (fun hin => ?_)⟩
        · obtain ⟨hf2, hfid⟩ := isIn_spec hin
          refine (near_ok hX hE hiG hf2).mono ?_
          rintro _ _ ⟨b, rfl, hbn, rfl⟩
          refine ⟨_, rfl, cond_intro (fun hbt => ?_) (fun hbf => ?_)⟩
          · obtain ⟨hs5, e5⟩ := P4.nth (k := fnd G ps[p]) (by omega)
            refine grd_intro hs5 ⟨by omega, by omega, _, e5, grd_intro hsx ⟨by omega, by omega, _, ex, ?_⟩⟩
            refine fin _ ⟨fun h => ⟨hiG, hi, .inr ⟨hfree, hin, hbn.1 hbt, by omega, by simpa using h⟩⟩, ?_⟩
            rintro ⟨_, _, ⟨h, _⟩ | ⟨_, _, _, _, h⟩⟩
            · exact (hfree h).elim
            · simpa using h
          · refine fin _ ⟨fun h => (by cases h), ?_⟩
            rintro ⟨_, _, ⟨h, _⟩ | ⟨_, _, h, _⟩⟩
            · exact (hfree h).elim
            · rw [hbn.2 h] at hbf; cases hbf
        · refine fin _ ⟨fun h => (by cases h), ?_⟩
          rintro ⟨_, _, ⟨h, _⟩ | ⟨_, h, _⟩⟩
          · exact (hfree h).elim
          · rw [h] at hin; cases hin
    · refine last ok6 ⟨fun h => (by rw [hok6] at h; cases h), fun h => ?_⟩
      exact hok.2 ⟨h.1, fun i hi => h.2 i (by omega)⟩
  · refine last ok6 ⟨fun h => ?_, fun h => hok.2 ⟨h.1, fun i hi => h.2 i (by omega)⟩⟩
    obtain ⟨h1, h2⟩ := hok.1 h
    exact ⟨h1, fun i hi => h2 i (by omega)⟩

/-! a list of numbers as it comes in -/
abbrev RL : AH → List Value → List Int → Prop := RSl 1 8 (RInt .i64)
theorem rl_len (H : AH) (cs : List Value) (x : Int) (h : RInt .i64 H cs x) : cs.length = 1 := by obtain ⟨rfl, _⟩ := h; rfl
theorem stable_rl : Stable RL := stable_slice stable_int
theorem ints_in {H : AH} (ok : Ok H) {a : Option Addr} {l : Nat} {xs : List Int} (h : Sl (fun _ => True) H 1 (PCs (RInt .i64)) a l xs) : SlI (fun b => b < H.next) H a l xs := by
  have one : ∀ b o x, PCs (RInt .i64) H b o x → PInt .i64 H b o x := by
    rintro b o x ⟨cs, hc, rfl, _⟩
    exact by simpa [PInt] using hc 0 _ rfl
  have := Sl.into (f := id) (Q := PInt .i64) (F := fun b => b < H.next) h (fun b o x hx => lt_of_cell ok (one b o x hx)) (fun b o x _ hx => one b o x hx)
  rwa [List.map_id] at this
section
variable {Hh : Type} {enc : TypeId × Value → Hh} {W : World} [Sy]
theorem lay_ints : LayT enc Try.prog W T_L_int64 RL := lay_slice (e := T_int64) (by kernel_rfl) (by kernel_rfl) (by omega) (by kernel_rfl) (lay_int (by kernel_rfl)) stable_int rl_len
end
end Go.Proofs.Cx

namespace Go.Ev
open Go

noncomputable def nearB (G : List Vtx) (i k : Nat) : Bool := @decide (Near G i k) (Classical.propDecidable _)
theorem nearB_iff {G : List Vtx} {i k : Nat} : nearB G i k = true ↔ Near G i k := by
  unfold nearB; exact @decide_eq_true_iff _ (Classical.propDecidable _)
theorem nearB_of {G : List Vtx} {i k : Nat} {b : Bool} (h : b = true ↔ Near G i k) : nearB G i k = b := by
  cases b
  · cases hq : nearB G i k with
    | false => rfl
    | true => have := h.2 (nearB_iff.1 hq); cases this
  · exact nearB_iff.2 (h.1 rfl)
theorem nearB_symm (G : List Vtx) (i k : Nat) : nearB G i k = nearB G k i :=
  nearB_of ⟨fun h => (nearB_iff.1 h).symm, fun h => nearB_iff.2 h.symm⟩
theorem nearB_self (G : List Vtx) (i : Nat) : nearB G i i = false := by
  cases hq : nearB G i i with
  | false => rfl
  | true => exact absurd rfl (nearB_iff.1 hq).1
noncomputable def nbr (G : List Vtx) (i : Nat) : List Nat := (List.range G.length).filter (nearB G i)
theorem nbr_mem {G : List Vtx} {i q : Nat} : q ∈ nbr G i ↔ q < G.length ∧ nearB G i q = true := by simp [nbr]
theorem nbr_asc (G : List Vtx) (i : Nat) : (nbr G i).Pairwise (· < ·) := List.Pairwise.filter _ List.pairwise_lt_range
theorem nbr_len (G : List Vtx) (i : Nat) : (nbr G i).length ≤ G.length := by
  have := List.length_filter_le (nearB G i) (List.range G.length)
  rwa [List.length_range] at this
theorem boths_eq {G : List Vtx} (hM : May G) {i : Nat} (hi : i < G.length) (h : i < (boths G).length) : (boths G)[i] = (nbr G i).map fun (q : Nat) => (q : Int) := by
  refine Asc.ext ?_ ?_ fun x => ?_
  · simp only [boths, List.getElem_map, List.getElem_range]
    exact dd_asc (sortI_le _)
  · refine List.pairwise_map.2 ((nbr_asc G i).imp fun h => by omega)
  · rw [boths_mem hM hi, List.mem_map]
    constructor
    · rintro ⟨q, rfl, hn⟩
      obtain ⟨h1, h2, h3, h4⟩ := hn
      exact ⟨q, nbr_mem.2 ⟨h3, nearB_iff.2 ⟨h1, h2, h3, h4⟩⟩, rfl⟩
    · rintro ⟨q, hq, rfl⟩
      exact ⟨q, rfl, nearB_iff.1 (nbr_mem.1 hq).2⟩

/-! sums and counts -/
def smTo (f : Nat → Nat) : Nat → Nat
  | 0 => 0
  | n + 1 => smTo f n + f n
def cntTo (p : Nat → Bool) : Nat → Nat := smTo fun i => bif p i then 1 else 0
theorem smTo_congr {f g : Nat → Nat} : ∀ {n : Nat}, (∀ i, i < n → f i = g i) → smTo f n = smTo g n
  | 0, _ => rfl
  | n + 1, h => by simp only [smTo]; rw [smTo_congr fun i hi => h i (by omega), h n (by omega)]
theorem cntTo_congr {p q : Nat → Bool} {n : Nat} (h : ∀ i, i < n → p i = q i) : cntTo p n = cntTo q n := smTo_congr fun i hi => by rw [h i hi]
theorem cntTo_succ (p : Nat → Bool) (n : Nat) : cntTo p (n + 1) = cntTo p n + bif p n then 1 else 0 := rfl
theorem cntTo_le (p : Nat → Bool) : ∀ n, cntTo p n ≤ n
  | 0 => Nat.le_refl _
  | n + 1 => by have := cntTo_le p n; rw [cntTo_succ]; cases p n <;> simp <;> omega
theorem cntTo_mono {p q : Nat → Bool} : ∀ {n : Nat}, (∀ i, i < n → p i = true → q i = true) → cntTo p n ≤ cntTo q n
  | 0, _ => Nat.le_refl _
  | n + 1, h => by
    have ih := cntTo_mono (n := n) fun i hi => h i (by omega)
    have h1 := h n (by omega)
    rw [cntTo_succ, cntTo_succ]
    cases hp : p n
    · simp; omega
    · rw [h1 hp]; simp; exact ih
theorem cntTo_zero {p : Nat → Bool} {n : Nat} (h : ∀ i, i < n → p i = false) : cntTo p n = 0 := by
  have := cntTo_mono (p := p) (q := fun _ => false) (n := n) fun i hi e => by rw [h i hi] at e; cases e
  have h2 : ∀ n, cntTo (fun _ => false) n = 0 := by
    intro n
    induction n with
    | zero => rfl
    | succ n ih => rw [cntTo_succ, ih]; rfl
  rw [h2] at this; omega
theorem cntTo_none {p : Nat → Bool} {n : Nat} (h : cntTo p n = 0) (i : Nat) (hi : i < n) : p i = false := by
  induction n with
  | zero => omega
  | succ n ih =>
    rw [cntTo_succ] at h
    cases hp : p n with
    | true => rw [hp] at h; simp at h
    | false =>
      rw [hp] at h
      rcases Nat.lt_or_ge i n with h1 | h1
      · exact ih (by simpa using h) h1
      · have : i = n := by omega
        rw [this]; exact hp
theorem cntTo_all : ∀ (n : Nat), cntTo (fun _ => true) n = n
  | 0 => rfl
  | n + 1 => by rw [cntTo_succ, cntTo_all n]; rfl
/-- one is taken out -/
theorem cntTo_upd {S p : Nat → Bool} {i : Nat} (hS : S i = true) : ∀ {n : Nat}, cntTo (fun a => upd S i false a && p a) n + (bif decide (i < n) && p i then 1 else 0) = cntTo (fun a => S a && p a) n
  | 0 => by simp [cntTo, smTo]
  | n + 1 => by
    have ih := cntTo_upd (p := p) (n := n) hS
    rw [cntTo_succ, cntTo_succ]
    by_cases h : n = i
    · subst h
      rw [upd_self, hS]
      rw [show decide (n < n) = false from by simp] at ih
      rw [show decide (n < n + 1) = true from by simp]
      simp only [Bool.false_and, Bool.true_and, cond_false] at ih ⊢
      omega
    · rw [upd_ne h]
      have : decide (i < n + 1) = decide (i < n) := decide_eq_decide.2 (by omega)
      rw [this]
      omega
theorem cntTo_out {S : Nat → Bool} {i n : Nat} (hS : S i = true) (hi : i < n) : cntTo (upd S i false) n + 1 = cntTo S n := by
  have := cntTo_upd (p := fun _ => true) (n := n) hS
  simpa [hi] using this
def lcnt (p : Nat → Bool) (l : List Nat) : Nat := l.countP p
theorem lcnt_range (p q : Nat → Bool) : ∀ n, ((List.range n).filter q).countP p = cntTo (fun i => q i && p i) n
  | 0 => rfl
  | n + 1 => by
    rw [List.range_succ, List.filter_append, List.countP_append, lcnt_range p q n, cntTo_succ]
    cases hq : q n <;> cases hp : p n <;> simp [hq, hp]
theorem lsum_range (f : Nat → Nat) (q : Nat → Bool) : ∀ n, (((List.range n).filter q).map f).sum = smTo (fun i => bif q i then f i else 0) n
  | 0 => rfl
  | n + 1 => by
    rw [List.range_succ, List.filter_append, List.map_append, List.sum_append, lsum_range f q n]
    simp only [smTo]
    cases hq : q n <;> simp [hq]
theorem nbr_count (G : List Vtx) (i : Nat) : (nbr G i).length = cntTo (nearB G i) G.length := by
  have := lcnt_range (fun _ => true) (nearB G i) G.length
  simp only [Bool.and_true] at this
  rw [← this]
  simp [nbr, List.countP_eq_length_filter]

/-! triangles -/
noncomputable def trip (G : List Vtx) (b a : Nat) : Nat := cntTo (fun c => nearB G b c && (decide (b < c) && nearB G a c)) G.length
noncomputable def tri (G : List Vtx) (b : Nat) : Nat := smTo (fun a => bif nearB G b a then (bif decide (a < b) then trip G b a else 0) else 0) G.length
theorem trip_nbr (G : List Vtx) (b a : Nat) : (nbr G b).countP (fun c => decide (b < c) && nearB G a c) = trip G b a := lcnt_range _ _ _
theorem tri_nbr (G : List Vtx) (b : Nat) : ((nbr G b).map fun a => bif decide (a < b) then trip G b a else 0).sum = tri G b := lsum_range _ _ _
theorem smTo_le {f : Nat → Nat} {m : Nat} : ∀ {n : Nat}, (∀ i, i < n → f i ≤ m) → smTo f n ≤ n * m
  | 0, _ => by simp [smTo]
  | n + 1, h => by
    have := smTo_le (n := n) fun i hi => h i (by omega)
    have := h n (by omega)
    rw [Nat.add_mul]; simp only [smTo]; omega

/-! cores -/
noncomputable def inS (G : List Vtx) (S : Nat → Bool) (i : Nat) : Nat := cntTo (fun a => S a && nearB G i a) G.length
/-- each one in it has enough -/
def KC (G : List Vtx) (k : Nat) (C : Nat → Bool) : Prop := ∀ i, i < G.length → C i = true → k ≤ inS G C i
/-- all that could be in a core are in it -/
def Holds (G : List Vtx) (k : Nat) (S : Nat → Bool) : Prop := ∀ C, KC G k C → ∀ i, i < G.length → C i = true → S i = true
theorem inS_mono {G : List Vtx} {C S : Nat → Bool} (h : ∀ i, i < G.length → C i = true → S i = true) (i : Nat) : inS G C i ≤ inS G S i :=
  cntTo_mono fun a ha e => by
    rw [Bool.and_eq_true] at e ⊢
    exact ⟨h a ha e.1, e.2⟩
theorem Holds.out {G : List Vtx} {k : Nat} {S : Nat → Bool} (h : Holds G k S) {i : Nat} (hi : inS G S i < k) : Holds G k (upd S i false) := by
  intro C hC j hj hCj
  by_cases e : j = i
  · subst e
    have h1 := hC j hj hCj
    have h2 := inS_mono (h C hC) j
    omega
  · rw [upd_ne e]; exact h C hC j hj hCj
theorem Holds.same {G : List Vtx} {k : Nat} {S T : Nat → Bool} (hS : Holds G k S) (hT : Holds G k T) (kS : KC G k S) (kT : KC G k T) (i : Nat) (hi : i < G.length) : S i = T i := by
  cases h1 : S i <;> cases h2 : T i
  · rfl
  · rw [hS T kT i hi h2] at h1; cases h1
  · rw [hT S kS i hi h1] at h2; cases h2
  · rfl
theorem Holds.all (G : List Vtx) (k : Nat) : Holds G k fun _ => true := fun _ _ _ _ _ => rfl
theorem KC.congr {G : List Vtx} {k : Nat} {S T : Nat → Bool} (h : KC G k S) (e : ∀ i, i < G.length → S i = T i) : KC G k T := by
  intro i hi hT
  have h1 := h i hi (by rw [e i hi]; exact hT)
  have : inS G S i = inS G T i := cntTo_congr fun a ha => by rw [e a ha]
  omega
theorem inS_out {G : List Vtx} {S : Nat → Bool} {i : Nat} (hS : S i = true) (hi : i < G.length) (t : Nat) : inS G (upd S i false) t + (bif nearB G t i then 1 else 0) = inS G S t := by
  have := cntTo_upd (p := nearB G t) (n := G.length) hS
  rw [show decide (i < G.length) = true from by simp [hi], Bool.true_and] at this
  exact this
end Go.Ev

namespace Go.Ev
open Go
def bv (b : Bool) : Value := .bool b
theorem upd_map {α β : Type} (g : α → β) (f : Nat → α) (i : Nat) (x : α) : upd (fun j => g (f j)) i (g x) = fun j => g (upd f i x j) := by
  funext j; simp only [upd]; split <;> rfl
theorem step_tab {α : Type} {g : α → Value} {f : Nat → α} {H : AH} {b n i : Nat} {x : α} (ok : Ok H) (h : H.get b = some (.cells (tab (fun j => g (f j)) n) 0)) (hi : i < n) (hv : oneCell (g x) = true) :
    ∃ H', storeCellsv H b (0 + (i : Int).toNat * 1) [g x] = some H' ∧ H'.get b = some (.cells (tab (fun j => g (upd f i x j)) n) 0) ∧ Mod (· = b) H H' ∧ H'.next = H.next := by
  refine ⟨_, store_tab h hi hv, ?_, Mod.set ok h _, rfl⟩
  rw [get_set_self, upd_map]
def nats (l : List Nat) : List Int := l.map fun (q : Nat) => (q : Int)
theorem nats_len (l : List Nat) : (nats l).length = l.length := by simp [nats]
theorem row_at {F : Nat → Prop} {H : AH} {a : Option Addr} {l : Nat} {zs : List Nat} (h : SlI F H a l (nats zs)) {q : Nat} (hq : q < zs.length) : a.isSome = true ∧ H.cell (adr a).block ((adr a).off + q * 1) = some (.int .i64 (zs[q] : Int)) := by
  obtain ⟨h1, h2⟩ := h.nth (k := q) (by rw [nats_len]; exact hq)
  have e : (nats zs)[q]'(by rw [nats_len]; exact hq) = (zs[q] : Int) := by simp [nats]
  rw [e] at h2
  exact ⟨h1, h2⟩
theorem row_len {F : Nat → Prop} {H : AH} {a : Option Addr} {l : Nat} {zs : List Nat} (h : SlI F H a l (nats zs)) : l = zs.length := by
  rw [h.len, nats_len]
theorem slcv_tail {F : Nat → Prop} {H : AH} {a : Option Addr} {l c k : Nat} {xs : List Int} (h : SlI F H a l xs) (hc : Cap H a l c) (h0 : 0 < l) (hk : k ≤ l) :
    ∃ a' c', slcv H 1 a l c (some (.int .i64 (k : Int))) none none = some (.slice a' (l - k) c') ∧ SlI F H a' (l - k) (xs.drop k) := by
  obtain ⟨b, cs, rfl, rfl, h2, h3⟩ := hc.room h0
  have hlen := h.len
  have e1 : capN (2 * cs.length + 1) = cs.length := by simp only [capN]; omega
  have e3 : Nat.beq ((2 * cs.length + 1) % 2) 0 = false := by
    rw [show (2 * cs.length + 1) % 2 = 1 from by omega]; rfl
  have e4 : esAt H b 1 = true := by simp only [esAt, h3]; rfl
  have hF := (h.base h0).2
  unfold slcv
  simp only [e1, boundOf, Option.isSome_none, cond_false]
  rw [if_pos (by omega)]
  simp only [Int.toNat_natCast, Nat.ble_eq_true_of_le h2, cond_true, cutv, Bool.false_or, e3, cond_false, e4]
  by_cases e : cs.length = k
  · have e2 : Nat.beq cs.length k = true := by rw [e]; exact Nat.beq_refl k
    rw [e2]
    refine ⟨none, 1, ?_, ?_⟩
    · simp only [cond_true]
      rw [show l - k = 0 from by omega]
    · refine ⟨by rw [List.length_drop]; omega, fun hp => by omega, fun i hi => ?_⟩
      rw [List.length_drop] at hi; omega
  · have e2 : Nat.beq cs.length k = false := by
      cases h : Nat.beq cs.length k with
      | false => rfl
      | true => exact (e (Nat.eq_of_beq_eq_true h)).elim
    rw [e2]
    refine ⟨some ⟨b, 0 + k * 1, none⟩, 2 * (cs.length - k) + 1, by simp only [cond_false], ?_⟩
    refine ⟨by rw [List.length_drop]; omega, fun _ => ⟨rfl, hF⟩, fun i hi => ?_⟩
    rw [List.length_drop] at hi
    rw [List.getElem_drop]
    have h5 := h.cells (k + i) (by omega)
    have e5 : (adr (some (⟨b, 0, none⟩ : Addr))).off + (k + i) * 1 = (adr (some (⟨b, 0 + k * 1, none⟩ : Addr))).off + i * 1 := by simp only [adr]; omega
    rw [e5] at h5
    exact h5
theorem asc_inj {l : List Nat} (h : l.Pairwise (· < ·)) {i j : Nat} (hi : i < l.length) (hj : j < l.length) (hij : i < j) : l[i] < l[j] := List.pairwise_iff_getElem.1 h i j hi hj hij
/-- colours are as they must be, as far as p -/
def ColOk (G : List Vtx) (f : Nat → Int) (p : Nat) : Prop :=
  ∀ i, i < p → 0 ≤ f i ∧ f i ≤ i ∧ (∀ a, a < i → nearB G i a = true → f a ≠ f i) ∧ ∀ c : Int, 0 ≤ c → c < f i → ∃ a, a < i ∧ nearB G i a = true ∧ f a = c
theorem ColOk.step {G : List Vtx} {f : Nat → Int} {p c : Nat} (h : ColOk G f p) (hc : c ≤ p) (h1 : ∀ a, a < p → nearB G p a = true → f a ≠ c) (h2 : ∀ d : Nat, d < c → ∃ a, a < p ∧ nearB G p a = true ∧ f a = d) : ColOk G (upd f p (c : Int)) (p + 1) := by
  intro i hi
  rcases Nat.lt_or_ge i p with h3 | h3
  · obtain ⟨k1, k2, k3, k4⟩ := h i h3
    rw [upd_ne (show i ≠ p by omega)]
    refine ⟨k1, k2, fun a ha hn => ?_, fun c h5 h6 => ?_⟩
    · rw [upd_ne (by omega)]; exact k3 a ha hn
    · obtain ⟨a, ha, hn, e⟩ := k4 c h5 h6
      exact ⟨a, ha, hn, by rw [upd_ne (by omega)]; exact e⟩
  · have : i = p := by omega
    subst this
    rw [upd_self]
    refine ⟨by omega, by omega, fun a ha hn => ?_, fun d h5 h6 => ?_⟩
    · rw [upd_ne (by omega)]; exact h1 a ha hn
    · obtain ⟨a, ha, hn, e⟩ := h2 d.toNat (by omega)
      exact ⟨a, ha, hn, by rw [upd_ne (by omega), e]; omega⟩
end Go.Ev
namespace Go.Proofs.Cx
open Go Go.Ev
theorem boths_nats {G : List Vtx} (hM : May G) {i : Nat} (hi : i < G.length) (h : i < (boths G).length) : (boths G)[i] = nats (nbr G i) := boths_eq hM hi h
/-- a row of neighbours -/
theorem row_of {F : Nat → Prop} {H : AH} {b i : Nat} {G : List Vtx} (hM : May G) (h : SlR F H (some ⟨b, 0, none⟩) G.length (boths G)) (hi : i < G.length) :
    ∃ a l c, ∀ (Hx : AH) (S : Nat → Prop), Mod S H Hx → (∀ b, F b → ¬ S b) → Hx.cell b (0 + i * 1) = some (.slice a l c) ∧ SlI F Hx a l (nats (nbr G i)) ∧ Cap Hx a l c := by
  obtain ⟨_, a, l, c, h1, h2, h3, h4⟩ := h.nth (k := i) (by rw [boths_len]; exact hi)
  rw [boths_nats hM hi] at h2
  have hF : F b := (h.base (by omega)).2
  exact ⟨a, l, c, fun Hx S hm hs => ⟨hm.cell (hs _ hF) h1, h2.mod loc_int hm hs, h3.mod hm fun b hb x ex e => hs _ (h4 x ex) (by rw [e]; exact hb)⟩⟩

theorem colors_ok {F : Nat → Prop} {a : Option Addr} {l c : Nat} {H : AH} {G : List Vtx} (ok : Ok H) (hG : SlV F H a l G) (hF : ∀ b, F b → b < H.next) (hM : May G) :
    FW Ee F_spec_Colors [.agg ⟨[.slice a l c]⟩] H fun r H' => ∃ b f, r = .slice (some ⟨b, 0, none⟩) G.length (2 * G.length) ∧ H'.get b = some (.cells (tab (fun i => iv (f i)) G.length) 0) ∧ H.next ≤ b ∧ ColOk G f G.length ∧ Grow H H' := by
  have hl := hM.len
  have hlen := hG.len
  subst hlen
  refine fw_spec_Colors ?_
  intro H1 e1
  have g1 : Grow H H1 := e1 ▸ Grow.new ok _
  have b1 : H1.get H.next = some (.cells [.slice a G.length c] 0) := e1 ▸ get_new_self _ _
  have n1 : H1.next = H.next + 1 := by rw [e1]; rfl
  refine ⟨a, G.length, c, cell_of b1 rfl, ?_⟩
  refine (of_ok g1.ok (hG.grow loc_vtx g1) (fun b h => by have := hF b h; omega) hM).mono ?_
  rintro _ H2 ⟨ob, bb, c1, c2, rfl, hO, hB, g2⟩
  refine ⟨_, _, _, _, _, _, _, _, _, rfl, ?_⟩
  intro H3 e3
  obtain ⟨H4, e4, b4, g4, n4⟩ := fresh_store (vs := [.slice a G.length c, .slice (some ⟨ob, 0, none⟩) G.length c1, .slice (some ⟨bb, 0, none⟩) G.length c2]) e3 rfl rfl g2.ok
  have b14 := (g2.trans g4).get _ _ id b1
  refine ⟨H4, e4, a, G.length, c, cell_of b14 rfl, by omega, by omega, by omega, by omega, ?_⟩
  intro H5 e5
  have g5 : Grow H4 H5 := e5 ▸ Grow.new g4.ok _
  have o5 : H5.get H4.next = some (.cells (tab (fun _ => iv 0) G.length) 0) := by rw [e5, get_new_self, tab_const]; rfl
  have n2 := g2.next
  have n5 := g5.next
  have B5 := (hB.grow loc_row g4).grow loc_row g5
  have v5 := g5.get _ _ id b4
  have g05 : Grow H H5 := ((g1.trans g2).trans g4).trans g5
  refine ⟨some ⟨bb, 0, none⟩, G.length, c2, cell_of v5 rfl, ?_⟩
  refine ⟨fun m i Hb => ∃ (p : Nat) (f : Nat → Int), i = p ∧ p ≤ G.length ∧ m = G.length - p ∧ Hb.get H4.next = some (.cells (tab (fun j => iv (f j)) G.length) 0) ∧ ColOk G f p ∧ Mod (H4.next ≤ ·) H5 Hb,
    ⟨_, 0, fun _ => 0, rfl, by omega, rfl, o5, fun i h => by omega, .refl g5.ok⟩, ?_⟩
  rintro m i Hb ⟨p, f, rfl, hp, rfl, hf, hcol, hm⟩
  refine cond_dec (fun hlt => ?_) (fun hge => ?_)
  · have hk : p < G.length := by omega
    obtain ⟨za, zl, zc, row⟩ := row_of hM B5 hk
    obtain ⟨ez, hZ, -⟩ := row Hb _ hm fun b hb h => by have := hb.2; omega
    have hzl := row_len hZ
    have hzn := nbr_len G p
    refine grd_intro rfl ⟨by omega, by omega, za, zl, zc, ez, ?_⟩
    refine ⟨fun m c Hc => Hb = Hc ∧ ∃ d : Nat, c = d ∧ d ≤ p ∧ m = p - d ∧ ∀ e : Nat, e < d → ∃ a, a < p ∧ nearB G p a = true ∧ f a = e, ⟨_, rfl, 0, rfl, by omega, rfl, fun e h => by omega⟩, ?_⟩
    rintro m c7 Hc ⟨rfl, d, rfl, hd, rfl, hused⟩
    refine ⟨fun m c t Hc => Hb = Hc ∧ c = (d : Int) ∧ ∃ q : Nat, t = q ∧ q ≤ zl ∧ m = zl - q ∧ ∀ j (hj : j < (nbr G p).length), j < q → (nbr G p)[j] < p → f (nbr G p)[j] ≠ d, ⟨_, rfl, rfl, 0, rfl, by omega, rfl, fun j _ h => by omega⟩, ?_⟩
    rintro m c8 t Hc ⟨rfl, rfl, q, rfl, hq, rfl, hno⟩
    refine cond_dec (fun hlt2 => ?_) (fun hge2 => ?_)
    · have hqz : q < (nbr G p).length := by omega
      obtain ⟨hs, ec⟩ := row_at hZ hqz
      obtain ⟨hz1, hz2⟩ := nbr_mem.1 (List.getElem_mem hqz)
      have next : ((nbr G p)[q] < p → f (nbr G p)[q] ≠ d) → ∀ t' : Int, t' = IntKind.i64.wrap ((q : Int) + 1) → ∃ m, m < zl - q ∧ (Hb = Hb ∧ (d : Int) = (d : Int) ∧ ∃ q : Nat, t' = q ∧ q ≤ zl ∧ m = zl - q ∧ ∀ j (hj : j < (nbr G p).length), j < q → (nbr G p)[j] < p → f (nbr G p)[j] ≠ d) := by
        intro h t' e'
        rw [wrap_i64 (by omega) (by omega)] at e'
        subst e'
        refine ⟨zl - (q + 1), by omega, rfl, rfl, q + 1, by simp, by omega, rfl, fun j hj h2 => ?_⟩
        rcases Nat.lt_or_ge j q with h3 | h3
        · exact hno j hj h3
        · have : j = q := by omega
          subst this; exact h
      refine grd_intro hs ⟨by omega, by omega, _, ec, cond_dec (fun hlo => ?_) (fun hhi => next fun h => by omega)⟩
      have hlo : (nbr G p)[q] < p := by omega
      refine ⟨by omega, by omega, _, cell_tab hf hz1, cond_intro (fun he => ?_) (fun he => ?_)⟩
      · have he : f (nbr G p)[q] = d := by simpa using he
        have := (hcol _ hlo).2.1
        intro t' e'
        rw [wrap_i64 (by omega) (by omega)] at e'
        subst e'
        refine ⟨p - (d + 1), by omega, rfl, d + 1, by simp, by omega, rfl, fun e h => ?_⟩
        rcases Nat.lt_or_ge e d with h1 | h1
        · exact hused e h1
        · have : e = d := by omega
          subst this
          exact ⟨_, hlo, hz2, he⟩
      · have he : f (nbr G p)[q] ≠ d := by simpa using he
        exact next fun _ => he
    · obtain ⟨H6, s1, s2, s3, -⟩ := step_tab (g := iv) (x := (d : Int)) hm.ok hf hk rfl
      refine ⟨by omega, by omega, H6, s1, ?_⟩
      intro t' e'
      rw [wrap_i64 (by omega) (by omega)] at e'
      subst e'
      refine ⟨G.length - (p + 1), by omega, p + 1, upd f p (d : Int), by simp, by omega, rfl, s2, hcol.step hd (fun a ha hn => ?_) hused, hm.ext s3 g5.ok fun b hb => .inl (by omega)⟩
      obtain ⟨j, hj, e⟩ := List.mem_iff_getElem.1 (nbr_mem.2 ⟨(by omega : a < G.length), hn⟩)
      have := hno j hj (by omega) (by omega)
      rwa [e] at this
  · have : p = G.length := by omega
    subst this
    exact ⟨_, f, rfl, hf, by omega, hcol, g05.ext hm ok fun b hb => .inr (by omega)⟩
end Go.Proofs.Cx

namespace Go.Ev
open Go
theorem nats_drop (l : List Nat) (k : Nat) : (nats l).drop k = nats (l.drop k) := by simp [nats]
theorem mem_nats {l : List Nat} {q : Nat} : (q : Int) ∈ nats l ↔ q ∈ l := by
  simp only [nats, List.mem_map]
  exact ⟨fun ⟨x, h, e⟩ => by rwa [show q = x by omega], fun h => ⟨q, h, rfl⟩⟩
theorem upd_same {α : Type} {f : Nat → α} {i : Nat} {x : α} (h : f i = x) : upd f i x = f := by
  funext k; simp only [upd]; split
  · rename_i e; rw [e, h]
  · rfl
theorem upd_upd {α : Type} {f : Nat → α} {i : Nat} {x y : α} : upd (upd f i x) i y = upd f i y := by
  funext k; simp only [upd]; split <;> rfl
theorem countP_take {p : Nat → Bool} {l : List Nat} {k : Nat} (hk : k < l.length) : (l.take (k + 1)).countP p = (l.take k).countP p + bif p l[k] then 1 else 0 := by
  rw [List.take_succ_eq_append_getElem hk, List.countP_append]
  cases h : p l[k] <;> simp [h]
theorem sum_take {g : Nat → Nat} {l : List Nat} {k : Nat} (hk : k < l.length) : ((l.take (k + 1)).map g).sum = ((l.take k).map g).sum + g l[k] := by
  rw [List.take_succ_eq_append_getElem hk, List.map_append, List.sum_append]
  simp
theorem sum_le {g : Nat → Nat} {m : Nat} : ∀ {l : List Nat}, (∀ x ∈ l, g x ≤ m) → (l.map g).sum ≤ l.length * m
  | [], _ => by simp
  | x :: l, h => by
    have h1 := sum_le (l := l) fun y hy => h y (List.mem_cons_of_mem _ hy)
    have h2 := h x List.mem_cons_self
    rw [List.map_cons, List.sum_cons, List.length_cons, Nat.add_mul]; omega
theorem sum_zero {g : Nat → Nat} : ∀ {l : List Nat}, (∀ x ∈ l, g x = 0) → (l.map g).sum = 0
  | [], _ => rfl
  | x :: l, h => by
    rw [List.map_cons, List.sum_cons, h x List.mem_cons_self, sum_zero fun y hy => h y (List.mem_cons_of_mem _ hy)]
theorem sum_rest {g : Nat → Nat} {l : List Nat} {k : Nat} (h : ∀ x ∈ l.drop k, g x = 0) : ((l.take k).map g).sum = (l.map g).sum := by
  have e : (l.map g).sum = ((l.take k).map g).sum + ((l.drop k).map g).sum := by
    rw [← List.sum_append, ← List.map_append, List.take_append_drop]
  rw [e, sum_zero h]; omega
theorem trip_le (G : List Vtx) (b a : Nat) : trip G b a ≤ G.length := cntTo_le _ _
theorem asc_drop {l : List Nat} (h : l.Pairwise (· < ·)) {q : Nat} (hq : q < l.length) {x : Nat} (hx : x ∈ l.drop q) : l[q] ≤ x := by
  obtain ⟨i, hi, rfl⟩ := List.mem_iff_getElem.1 hx
  rw [List.length_drop] at hi
  rw [List.getElem_drop]
  rcases Nat.eq_zero_or_pos i with h0 | h0
  · subst h0; exact Nat.le_refl _
  · exact Nat.le_of_lt (asc_inj h hq (by omega) (by omega))
theorem asc_take {l : List Nat} (h : l.Pairwise (· < ·)) {q : Nat} (hq : q < l.length) {x : Nat} (hx : x ∈ l.take (q + 1)) : x ≤ l[q] := by
  obtain ⟨i, hi, rfl⟩ := List.mem_iff_getElem.1 hx
  rw [List.length_take] at hi
  rw [List.getElem_take]
  rcases Nat.lt_or_ge i q with h0 | h0
  · exact Nat.le_of_lt (asc_inj h (by omega) hq h0)
  · have : i = q := by omega
    subst this; exact Nat.le_refl _
noncomputable def trg (G : List Vtx) (p a : Nat) : Nat := bif decide (a < p) then trip G p a else 0
theorem trg_sum (G : List Vtx) (p : Nat) : ((nbr G p).map (trg G p)).sum = tri G p := tri_nbr G p
theorem trg_le (G : List Vtx) (p a : Nat) : trg G p a ≤ G.length := by
  unfold trg
  have := trip_le G p a
  cases decide (a < p) <;> simp <;> omega
end Go.Ev
namespace Go.Proofs.Cx
open Go Go.Ev

theorem triangles_ok {F : Nat → Prop} {a : Option Addr} {l c : Nat} {H : AH} {G : List Vtx} (ok : Ok H) (hG : SlV F H a l G) (hF : ∀ b, F b → b < H.next) (hM : May G) :
    FW Ee F_spec_Triangles [.agg ⟨[.slice a l c]⟩] H fun r H' => ∃ (b : Nat) (f : Nat → Int), r = .slice (some ⟨b, 0, none⟩) G.length (2 * G.length) ∧ H'.get b = some (.cells (tab (fun i => iv (f i)) G.length) 0) ∧ H.next ≤ b ∧ (∀ j, j < G.length → f j = (tri G j : Nat)) ∧ Grow H H' := by
  have hl := hM.len
  have hlen := hG.len
  subst hlen
  refine fw_spec_Triangles ?_
  intro H1 e1
  have g1 : Grow H H1 := e1 ▸ Grow.new ok _
  have b1 : H1.get H.next = some (.cells [.slice a G.length c] 0) := e1 ▸ get_new_self _ _
  have n1 : H1.next = H.next + 1 := by rw [e1]; rfl
  refine ⟨a, G.length, c, cell_of b1 rfl, ?_⟩
  refine (of_ok g1.ok (hG.grow loc_vtx g1) (fun b h => by have := hF b h; omega) hM).mono ?_
  rintro _ H2 ⟨ob, bb, c1, c2, rfl, hO, hB, g2⟩
  refine ⟨_, _, _, _, _, _, _, _, _, rfl, ?_⟩
  intro H3 e3
  obtain ⟨H4, e4, b4, g4, n4⟩ := fresh_store (vs := [.slice a G.length c, .slice (some ⟨ob, 0, none⟩) G.length c1, .slice (some ⟨bb, 0, none⟩) G.length c2]) e3 rfl rfl g2.ok
  have b14 := (g2.trans g4).get _ _ id b1
  refine ⟨H4, e4, a, G.length, c, cell_of b14 rfl, by omega, by omega, by omega, by omega, ?_⟩
  intro H5 e5
  have g5 : Grow H4 H5 := e5 ▸ Grow.new g4.ok _
  have o5 : H5.get H4.next = some (.cells (tab (fun _ => iv 0) G.length) 0) := by rw [e5, get_new_self, tab_const]; rfl
  have n2 := g2.next
  have n5 := g5.next
  have B5 := (hB.grow loc_row g4).grow loc_row g5
  have v5 := g5.get _ _ id b4
  have g05 : Grow H H5 := ((g1.trans g2).trans g4).trans g5
  refine ⟨some ⟨bb, 0, none⟩, G.length, c2, cell_of v5 rfl, ?_⟩
  refine ⟨fun m i Hb => ∃ (p : Nat) (f : Nat → Int), i = p ∧ p ≤ G.length ∧ m = G.length - p ∧ Hb.get H4.next = some (.cells (tab (fun j => iv (f j)) G.length) 0) ∧ (∀ j, j < p → f j = (tri G j : Nat)) ∧ (∀ j, p ≤ j → f j = 0) ∧ Mod (H4.next ≤ ·) H5 Hb,
    ⟨_, 0, fun _ => 0, rfl, by omega, rfl, o5, fun i h => by omega, fun _ _ => rfl, .refl g5.ok⟩, ?_⟩
  rintro m i Hb ⟨p, f, rfl, hp, rfl, hf, hdone, hzero, hm⟩
  refine cond_dec (fun hlt => ?_) (fun hge => ?_)
  · have hk : p < G.length := by omega
    obtain ⟨za, zl, zc, row⟩ := row_of hM B5 hk
    have low : ∀ b, New H1 H2 b → ¬ H4.next ≤ b := fun b hb h => by have := hb.2; omega
    obtain ⟨ez, hZ0, -⟩ := row Hb _ hm low
    have hzl := row_len hZ0
    have hzn := nbr_len G p
    -- what the sum is, as far as q
    obtain ⟨S, hS⟩ : ∃ S : Nat → Nat, S = fun q => (((nbr G p).take q).map (trg G p)).sum := ⟨_, rfl⟩
    have hSle : ∀ q, S q ≤ 65536 := fun q => by
      rw [hS]
      have h1 := sum_le (g := trg G p) (m := G.length) (l := (nbr G p).take q) fun x _ => trg_le G p x
      rw [List.length_take] at h1
      have h2 : min q (nbr G p).length * G.length ≤ 256 * 256 := Nat.mul_le_mul (by omega) hl
      simp only; omega
    have fin : ∀ {Hx : AH} {q : Nat}, Hx.get H4.next = some (.cells (tab (fun j => iv (upd f p (S q : Int) j)) G.length) 0) → Mod (H4.next ≤ ·) H5 Hx → S q = tri G p → ∀ t : Int, t = IntKind.i64.wrap ((p : Int) + 1) →
        ∃ m, m < G.length - p ∧ ∃ (p : Nat) (f : Nat → Int), t = p ∧ p ≤ G.length ∧ m = G.length - p ∧ Hx.get H4.next = some (.cells (tab (fun j => iv (f j)) G.length) 0) ∧ (∀ j, j < p → f j = (tri G j : Nat)) ∧ (∀ j, p ≤ j → f j = 0) ∧ Mod (H4.next ≤ ·) H5 Hx := by
      intro Hx q hx hmx hq t et
      rw [wrap_i64 (by omega) (by omega)] at et
      subst et
      refine ⟨G.length - (p + 1), by omega, p + 1, _, by simp, by omega, rfl, hx, fun j hj => ?_, fun j hj => ?_, hmx⟩
      · rcases Nat.lt_or_ge j p with h1 | h1
        · rw [upd_ne (by omega)]; exact hdone j h1
        · have : j = p := by omega
          subst this; rw [upd_self, hq]
      · rw [upd_ne (by omega)]; exact hzero j (by omega)
    refine grd_intro rfl ⟨by omega, by omega, za, zl, zc, ez, ?_⟩
    refine ⟨fun m t Hc => ∃ q : Nat, t = q ∧ q ≤ zl ∧ m = zl - q ∧ Hc.get H4.next = some (.cells (tab (fun j => iv (upd f p (S q : Int) j)) G.length) 0) ∧ Mod (H4.next ≤ ·) H5 Hc, ⟨_, 0, rfl, by omega, rfl, ?_, hm⟩, ?_⟩
    · have : S 0 = 0 := by rw [hS]; rfl
      rw [this, show ((0 : Nat) : Int) = 0 from rfl, upd_same (hzero p (Nat.le_refl _))]; exact hf
    rintro m t Hc ⟨q, rfl, hq, rfl, hfc, hmc⟩
    refine cond_dec (fun hlt2 => ?_) (fun hge2 => ?_)
    · have hqz : q < (nbr G p).length := by omega
      obtain ⟨-, hZc, hCc⟩ := row Hc _ hmc low
      obtain ⟨hs, ec⟩ := row_at hZc hqz
      obtain ⟨hz1, hz2⟩ := nbr_mem.1 (List.getElem_mem hqz)
      refine grd_intro hs ⟨by omega, by omega, _, ec, cond_dec (fun hbig => ?_) (fun hsmall => ?_)⟩
      · have hbig : p < (nbr G p)[q] := by omega
        refine fin hfc hmc ?_
        rw [hS, ← trg_sum]
        refine sum_rest fun x hx => ?_
        have := asc_drop (nbr_asc G p) hqz hx
        unfold trg
        rw [show decide (x < p) = false from by simp; omega]; rfl
      · have hne : (nbr G p)[q] ≠ p := fun e => by rw [e, nearB_self] at hz2; cases hz2
        have hlo : (nbr G p)[q] < p := by omega
        intro t37 e37
        rw [wrap_i64 (by omega) (by omega)] at e37
        subst e37
        obtain ⟨ta, tc, es, hT⟩ := slcv_tail (k := q + 1) hZc hCc (by omega) (by omega)
        rw [nats_drop] at hT
        have htl := row_len hT
        rw [List.length_drop] at htl
        refine ⟨ta, zl - (q + 1), tc, es, ?_⟩
        obtain ⟨P, hP⟩ : ∃ P : Nat → Bool, P = fun c => decide (p < c) && nearB G (nbr G p)[q] c := ⟨_, rfl⟩
        obtain ⟨X, hX⟩ : ∃ X : Nat → Nat, X = fun r => S q + ((nbr G p).take (q + 1 + r)).countP P := ⟨_, rfl⟩
        have hXle : ∀ r, X r ≤ 131072 := fun r => by
          have h1 := hSle q
          have h2 := List.countP_le_length (p := P) (l := (nbr G p).take (q + 1 + r))
          rw [List.length_take] at h2
          rw [hX]; simp only; omega
        have hX0 : X 0 = S q := by
          have : ((nbr G p).take (q + 1)).countP P = 0 := by
            rw [List.countP_eq_zero]
            intro x hx
            have := asc_take (nbr_asc G p) hqz hx
            rw [hP]
            simp only [Bool.and_eq_true, decide_eq_true_eq]
            omega
          rw [hX]; simp only [Nat.add_zero, this]
        refine ⟨fun m t Hd => ∃ r : Nat, t = r ∧ r ≤ zl - (q + 1) ∧ m = zl - (q + 1) - r ∧ Hd.get H4.next = some (.cells (tab (fun j => iv (upd f p (X r : Int) j)) G.length) 0) ∧ Mod (H4.next ≤ ·) Hc Hd, ⟨_, 0, rfl, by omega, rfl, by rw [hX0]; exact hfc, .refl hmc.ok⟩, ?_⟩
        rintro m t Hd ⟨r, rfl, hr, rfl, hfd, hmd⟩
        have hmd5 := hmc.trans hmd
        refine cond_dec (fun hlt3 => ?_) (fun hge3 => ?_)
        · have hrz : q + 1 + r < (nbr G p).length := by omega
          obtain ⟨hs3, ec3⟩ := row_at (hT.mod loc_int hmd low) (q := r) (by rw [List.length_drop]; omega)
          rw [List.getElem_drop] at ec3
          obtain ⟨z, hz⟩ : ∃ z, z = (nbr G p)[q + 1 + r] := ⟨_, rfl⟩
          rw [← hz] at ec3
          have hXs : X (r + 1) = X r + bif P z then 1 else 0 := by
            rw [hX, hz]; exact (congrArg (S q + ·) (countP_take hrz)).trans (Nat.add_assoc _ _ _).symm
          have step : ∀ {He : AH}, He.get H4.next = some (.cells (tab (fun j => iv (upd f p (X (r + 1) : Int) j)) G.length) 0) → Mod (H4.next ≤ ·) Hc He → ∀ t : Int, t = IntKind.i64.wrap ((r : Int) + 1) →
              ∃ m, m < zl - (q + 1) - r ∧ ∃ r : Nat, t = r ∧ r ≤ zl - (q + 1) ∧ m = zl - (q + 1) - r ∧ He.get H4.next = some (.cells (tab (fun j => iv (upd f p (X r : Int) j)) G.length) 0) ∧ Mod (H4.next ≤ ·) Hc He := by
            intro He h1 h2 t et
            rw [wrap_i64 (by omega) (by omega)] at et
            subst et
            exact ⟨zl - (q + 1) - (r + 1), by omega, r + 1, by simp, by omega, rfl, h1, h2⟩
          refine grd_intro hs3 ⟨by omega, by omega, _, ec3, cond_dec (fun hup => ?_) (fun hdn => ?_)⟩
          · have hup : p < z := by omega
            obtain ⟨wa, wl, wc, roww⟩ := row_of hM B5 hz1
            obtain ⟨ew, hW, -⟩ := roww Hd _ hmd5 low
            have hwl := row_len hW
            have hwn := nbr_len G (nbr G p)[q]
            have v6 := hmd5.get _ _ (show ¬ H4.next ≤ H2.next by omega) v5
            refine ⟨some ⟨bb, 0, none⟩, _, _, cell_of v6 rfl, grd_intro rfl ⟨by omega, by omega, wa, wl, wc, ew, ?_⟩⟩
            refine (contains_ok hW (by omega) _).mono ?_
            rintro _ _ ⟨b, rfl, hb, rfl⟩
            have hbn : b = nearB G (nbr G p)[q] z := by
              have : b = true ↔ nearB G (nbr G p)[q] z = true := by
                rw [hb, mem_nats, nbr_mem]
                exact ⟨fun h => h.2, fun h => ⟨by rw [hz]; exact (nbr_mem.1 (List.getElem_mem hrz)).1, h⟩⟩
              exact Bool.eq_iff_iff.2 this
            have hPz : P z = b := by rw [hP, hbn]; simp [hup]
            rw [hPz] at hXs
            refine ⟨b, rfl, cond_intro (fun hbt => ?_) (fun hbf => ?_)⟩
            · rw [hbt] at hXs
              refine ⟨by omega, by omega, _, cell_tab hfd hk, ?_⟩
              intro t60 e60
              have hle := hXle r
              rw [upd_self, wrap_i64 (by omega) (by omega)] at e60
              have e60 : t60 = ((X (r + 1) : Nat) : Int) := by rw [hXs, e60]; rfl
              subst e60
              obtain ⟨H6, s1, s2, s3, -⟩ := step_tab (g := iv) (x := ((X (r + 1) : Nat) : Int)) hmd.ok hfd hk rfl
              rw [upd_upd] at s2
              exact ⟨by omega, by omega, H6, s1, step s2 (hmd.ext s3 hmc.ok fun b hb => .inl (by omega))⟩
            · rw [hbf] at hXs
              have hXs : X (r + 1) = X r := hXs
              exact step (by rw [hXs]; exact hfd) hmd
          · have hPz : P z = false := by rw [hP]; simp; omega
            rw [hPz] at hXs
            have hXs : X (r + 1) = X r := hXs
            exact step (by rw [hXs]; exact hfd) hmd
        · intro t63 e63
          rw [wrap_i64 (by omega) (by omega)] at e63
          subst e63
          have hXe : X r = S (q + 1) := by
            have h1 : (nbr G p).take (q + 1 + r) = nbr G p := List.take_of_length_le (by omega)
            have h2 : S (q + 1) = S q + trg G p (nbr G p)[q] := by rw [hS]; exact sum_take hqz
            have h3 : trg G p (nbr G p)[q] = trip G p (nbr G p)[q] := by unfold trg; rw [show decide ((nbr G p)[q] < p) = true from by simp [hlo]]; rfl
            rw [h2, h3, ← trip_nbr, hX, hP]
            simp only [h1]
          exact ⟨zl - (q + 1), by omega, q + 1, by simp, by omega, rfl, hXe ▸ hfd, hmd5⟩
    · refine fin hfc hmc ?_
      rw [hS, ← trg_sum]
      simp only
      rw [List.take_of_length_le (by omega)]
  · have : p = G.length := by omega
    subst this
    exact ⟨_, f, rfl, hf, by omega, hdone, g05.ext hm ok fun b hb => .inr (by omega)⟩
end Go.Proofs.Cx

namespace Go.Ev
open Go
theorem wnat {x : Int} {n : Nat} (h : x = n) (hn : n ≤ 4611686018427387904) : IntKind.i64.wrap x = n := by
  rw [h, wrap_i64 (by omega) (by omega)]
/-- the number that stands at a place -/
def at_ (zs : List Int) (i : Nat) : Int := zs.getD i 0
theorem at_eq {zs : List Int} {i : Nat} (h : i < zs.length) : at_ zs i = zs[i] := by
  unfold at_; rw [List.getD_eq_getElem?_getD, List.getElem?_eq_getElem h]; rfl
theorem at_set {zs : List Int} {i k : Nat} {x : Int} (h : i < zs.length) : at_ (zs.set i x) k = if k = i then x else at_ zs k := by
  unfold at_
  rw [List.getD_eq_getElem?_getD, List.getD_eq_getElem?_getD, List.getElem?_set]
  by_cases e : i = k
  · subst e; rw [if_pos rfl, if_pos h, if_pos rfl]; rfl
  · rw [if_neg e, if_neg (fun e2 => e e2.symm)]
/-- two change places -/
def sw (zs : List Int) (i j : Nat) : List Int := (zs.set i (at_ zs j)).set j (at_ zs i)
theorem sw_len (zs : List Int) (i j : Nat) : (sw zs i j).length = zs.length := by simp [sw]
theorem sw_at {zs : List Int} {i j : Nat} (hi : i < zs.length) (hj : j < zs.length) (k : Nat) : at_ (sw zs i j) k = if k = j then at_ zs i else if k = i then at_ zs j else at_ zs k := by
  unfold sw
  rw [at_set (by rw [List.length_set]; exact hj), at_set hi]
theorem sw_perm {zs : List Int} {i j : Nat} (hi : i < zs.length) (hj : j < zs.length) : (sw zs i j).Perm zs := by
  unfold sw
  rw [at_eq hi, at_eq hj]
  exact List.set_set_perm hi hj
/-- the same numbers, in other order between a and b -/
structure Seg (a b : Nat) (zs ws : List Int) : Prop where
  perm : ws.Perm zs
  out : ∀ i, (i < a ∨ b ≤ i) → ws[i]? = zs[i]?
theorem Seg.refl (a b : Nat) (zs : List Int) : Seg a b zs zs := ⟨.refl _, fun _ _ => rfl⟩
theorem Seg.trans {a b : Nat} {zs ws us : List Int} (h : Seg a b zs ws) (k : Seg a b ws us) : Seg a b zs us := ⟨k.perm.trans h.perm, fun i hi => (k.out i hi).trans (h.out i hi)⟩
theorem Seg.wide {a b a' b' : Nat} {zs ws : List Int} (h : Seg a b zs ws) (ha : a' ≤ a) (hb : b ≤ b') : Seg a' b' zs ws := ⟨h.perm, fun i hi => h.out i (by omega)⟩
theorem Seg.len {a b : Nat} {zs ws : List Int} (h : Seg a b zs ws) : ws.length = zs.length := h.perm.length_eq
theorem Seg.same {a b : Nat} {zs ws : List Int} (h : Seg a b zs ws) {i : Nat} (hi : i < a ∨ b ≤ i) : at_ ws i = at_ zs i := by
  unfold at_
  rw [List.getD_eq_getElem?_getD, List.getD_eq_getElem?_getD, h.out i hi]
theorem Seg.sw {a b i j : Nat} {zs : List Int} (hi : i < zs.length) (hj : j < zs.length) (h1 : a ≤ i) (h2 : i < b) (h3 : a ≤ j) (h4 : j < b) : Seg a b zs (sw zs i j) := by
  refine ⟨sw_perm hi hj, fun k hk => ?_⟩
  unfold Ev.sw
  rw [List.getElem?_set_ne (by omega), List.getElem?_set_ne (by omega)]
theorem Seg.mid {a b : Nat} {zs ws : List Int} (h : Seg a b zs ws) (hab : a ≤ b) : ((ws.take b).drop a).Perm ((zs.take b).drop a) := by
  have e : ∀ l : List Int, l = l.take a ++ ((l.take b).drop a ++ l.drop b) := fun l => by
    rw [← List.append_assoc]
    have : l.take a ++ (l.take b).drop a = l.take b := by
      have := List.take_append_drop a (l.take b)
      rwa [List.take_take, Nat.min_eq_left hab] at this
    rw [this, List.take_append_drop]
  have h1 : ws.take a = zs.take a := by
    apply List.ext_getElem?
    intro i
    by_cases hi : i < a
    · rw [List.getElem?_take_of_lt hi, List.getElem?_take_of_lt hi]; exact h.out i (.inl hi)
    · rw [List.getElem?_take_eq_none (by omega), List.getElem?_take_eq_none (by omega)]
  have h2 : ws.drop b = zs.drop b := by
    apply List.ext_getElem?
    intro i
    rw [List.getElem?_drop, List.getElem?_drop]; exact h.out _ (.inr (by omega))
  have hp := h.perm
  rw [e ws, e zs, h1, h2] at hp
  exact (List.perm_append_right_iff _).1 ((List.perm_append_left_iff _).1 hp)
theorem mem_mid {a b : Nat} {l : List Int} {x : Int} : x ∈ (l.take b).drop a ↔ ∃ i, a ≤ i ∧ i < b ∧ i < l.length ∧ at_ l i = x := by
  constructor
  · intro h
    obtain ⟨i, hi, rfl⟩ := List.mem_iff_getElem.1 h
    rw [List.length_drop, List.length_take] at hi
    refine ⟨a + i, by omega, by omega, by omega, ?_⟩
    rw [at_eq (by omega), List.getElem_drop, List.getElem_take]
  · rintro ⟨i, h1, h2, h3, rfl⟩
    refine List.mem_iff_getElem.2 ⟨i - a, by rw [List.length_drop, List.length_take]; omega, ?_⟩
    rw [at_eq h3, List.getElem_drop, List.getElem_take]
    simp only [show a + (i - a) = i from by omega]
/-- what holds of all between a and b still does -/
theorem Seg.all {a b : Nat} {zs ws : List Int} (h : Seg a b zs ws) {P : Int → Prop} (hP : ∀ i, a ≤ i → i < b → i < zs.length → P (at_ zs i)) : ∀ i, a ≤ i → i < b → i < ws.length → P (at_ ws i) := by
  intro i h1 h2 h3
  have hm := (h.mid (by omega)).mem_iff.1 (mem_mid.2 ⟨i, h1, h2, h3, rfl⟩)
  obtain ⟨j, k1, k2, k3, k4⟩ := mem_mid.1 hm
  rw [← k4]; exact hP j k1 k2 k3
/-- in order between a and b -/
def Srt (a b : Nat) (zs : List Int) : Prop := ∀ i j, a ≤ i → i < j → j < b → at_ zs i ≤ at_ zs j
theorem Srt.one {a b : Nat} {zs : List Int} (h : b ≤ a + 1) : Srt a b zs := fun i j _ _ _ => by omega
theorem Srt.same {a b : Nat} {zs ws : List Int} (h : Srt a b zs) (k : ∀ i, a ≤ i → i < b → at_ ws i = at_ zs i) : Srt a b ws := fun i j h1 h2 h3 => by
  rw [k i h1 (by omega), k j (by omega) h3]; exact h i j h1 h2 h3
theorem Srt.sub {a b a' b' : Nat} {zs : List Int} (h : Srt a b zs) (ha : a ≤ a') (hb : b' ≤ b) : Srt a' b' zs := fun i j h1 h2 h3 => h i j (by omega) h2 (by omega)
/-- in order but for one that may stand too far to the right -/
def SrtB (a b j : Nat) (zs : List Int) : Prop := ∀ p q, a ≤ p → p < q → q < b → q ≠ j → at_ zs p ≤ at_ zs q
theorem SrtB.start {a i : Nat} {zs : List Int} (h : Srt a i zs) : SrtB a (i + 1) i zs := fun p q h1 h2 h3 h4 => h p q h1 h2 (by omega)
theorem SrtB.step {a b j : Nat} {zs : List Int} (h : SrtB a b j zs) (hj : a < j) (hb : j < b) (hl : b ≤ zs.length) (hlt : at_ zs j < at_ zs (j - 1)) : SrtB a b (j - 1) (sw zs (j - 1) j) := by
  intro p q h1 h2 h3 h4
  rw [sw_at (by omega) (by omega), sw_at (by omega) (by omega)]
  by_cases hq : q = j
  · rw [if_pos hq, if_neg (show p ≠ j by omega)]
    by_cases hp : p = j - 1
    · rw [if_pos hp]; omega
    · rw [if_neg hp]; exact h p (j - 1) h1 (by omega) (by omega) (by omega)
  · rw [if_neg hq, if_neg h4]
    by_cases hp : p = j
    · rw [if_pos hp]; exact h (j - 1) q (by omega) (by omega) h3 hq
    · rw [if_neg hp]
      by_cases hp2 : p = j - 1
      · rw [if_pos hp2]; exact h j q (by omega) (by omega) h3 hq
      · rw [if_neg hp2]; exact h p q h1 h2 h3 hq
theorem SrtB.stop {a b j : Nat} {zs : List Int} (h : SrtB a b j zs) (he : j ≤ a ∨ at_ zs (j - 1) ≤ at_ zs j) : Srt a b zs := by
  intro p q h1 h2 h3
  by_cases hq : q = j
  · subst hq
    rcases he with he | he
    · omega
    · by_cases hp : p = q - 1
      · rw [hp]; exact he
      · have := h p (q - 1) h1 (by omega) (by omega) (by omega)
        omega
  · exact h p q h1 h2 h3 hq
/-! ### Heaps -/
/-- each one from lo on, below hi, is not less than those beneath it -/
def HpX (zs : List Int) (f lo hi r : Nat) : Prop := ∀ k c, lo ≤ k → k ≠ r → (c = 2 * k + 1 ∨ c = 2 * k + 2) → c < hi → at_ zs (f + c) ≤ at_ zs (f + k)
def Hp (zs : List Int) (f lo hi : Nat) : Prop := ∀ k c, lo ≤ k → (c = 2 * k + 1 ∨ c = 2 * k + 2) → c < hi → at_ zs (f + c) ≤ at_ zs (f + k)
/-- the one above r is not less than those beneath r -/
def HpU (zs : List Int) (f lo hi r : Nat) : Prop := ∀ k c, lo ≤ k → (r = 2 * k + 1 ∨ r = 2 * k + 2) → (c = 2 * r + 1 ∨ c = 2 * r + 2) → c < hi → at_ zs (f + c) ≤ at_ zs (f + k)
theorem Hp.x {zs : List Int} {f lo hi : Nat} (h : Hp zs f (lo + 1) hi) : HpX zs f lo hi lo := fun k c h1 h2 h3 h4 => h k c (by omega) h3 h4
theorem Hp.u {zs : List Int} {f lo hi : Nat} : HpU zs f lo hi lo := fun k c h1 h2 _ _ => by omega
theorem HpX.stop {zs : List Int} {f lo hi r : Nat} (h : HpX zs f lo hi r) (k : ∀ c, (c = 2 * r + 1 ∨ c = 2 * r + 2) → c < hi → at_ zs (f + c) ≤ at_ zs (f + r)) : Hp zs f lo hi := fun k' c h1 h2 h3 => by
  by_cases e : k' = r
  · subst e; exact k c h2 h3
  · exact h k' c h1 e h2 h3
theorem HpX.step {zs : List Int} {f lo hi r d : Nat} (h : HpX zs f lo hi r) (hu : HpU zs f lo hi r) (hr : lo ≤ r) (hd : d = 2 * r + 1 ∨ d = 2 * r + 2) (hdh : d < hi) (hl : f + hi ≤ zs.length)
    (hbig : ∀ c, (c = 2 * r + 1 ∨ c = 2 * r + 2) → c < hi → at_ zs (f + c) ≤ at_ zs (f + d)) (hlt : at_ zs (f + r) < at_ zs (f + d)) :
    HpX (sw zs (f + r) (f + d)) f lo hi d ∧ HpU (sw zs (f + r) (f + d)) f lo hi d := by
  have ha : ∀ k, at_ (sw zs (f + r) (f + d)) (f + k) = if k = d then at_ zs (f + r) else if k = r then at_ zs (f + d) else at_ zs (f + k) := fun k => by
    rw [sw_at (by omega) (by omega)]
    by_cases h1 : k = d
    · rw [if_pos h1, if_pos (by omega)]
    · rw [if_neg h1, if_neg (by omega)]
      by_cases h2 : k = r
      · rw [if_pos h2, if_pos (by omega)]
      · rw [if_neg h2, if_neg (by omega)]
  constructor
  · intro k c h1 h2 h3 h4
    rw [ha, ha, if_neg h2]
    by_cases e : k = r
    · subst e
      rw [if_pos rfl]
      by_cases e2 : c = d
      · rw [if_pos e2]; omega
      · rw [if_neg e2, if_neg (by omega)]; exact hbig c h3 h4
    · rw [if_neg e]
      by_cases e2 : c = d
      · omega
      · rw [if_neg e2]
        by_cases e3 : c = r
        · rw [if_pos e3]
          exact hu k d h1 (by omega) hd hdh
        · rw [if_neg e3]; exact h k c h1 e h3 h4
  · intro k c h1 h2 h3 h4
    have e : k = r := by omega
    subst e
    rw [ha, ha, if_neg (show c ≠ d by omega), if_neg (show c ≠ k by omega), if_neg (show k ≠ d by omega), if_pos rfl]
    exact h d c (by omega) (by omega) h3 h4
theorem Hp.top {zs : List Int} {f hi : Nat} (h : Hp zs f 0 hi) : ∀ k, k < hi → at_ zs (f + k) ≤ at_ zs (f + 0) := by
  intro k
  induction k using Nat.strongRecOn with
  | _ k ih =>
    intro hk
    rcases Nat.eq_zero_or_pos k with h0 | h0
    · subst h0; exact Int.le_refl _
    · have h1 := ih ((k - 1) / 2) (by omega) (by omega)
      have h2 := h ((k - 1) / 2) k (by omega) (by omega) hk
      omega
end Go.Ev
