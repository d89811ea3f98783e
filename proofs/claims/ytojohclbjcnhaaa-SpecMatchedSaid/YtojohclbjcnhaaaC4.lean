/- SpecMatched: the law, as formulas have it. -/
import Derived.Test.YtojohclbjcnhaaaC3
namespace Go.Proofs.Cx
open Go Go.Ev Go.RowKit

theorem law_matched {F FP : Nat → Prop} {a pa : Option Addr} {l c pl pc : Nat} {H : AH} {G : List Vtx} {ps : List Int} (ok : Ok H) (hG : SlV F H a l G) (hf : Fit G) (hF : ∀ b, F b → b < H.next) (hP : SlI FP H pa pl ps) (hb : ps.length ≤ 4611686018427387903) :
    FW Ee F_cohortlaw10_SpecMatched [.agg ⟨[.slice a l c]⟩, .slice pa pl pc] H fun r H' => r = .bool true ∧ Grow H H' := by
  have hlen := hG.len
  have hplen := hP.len
  refine fw_cohortlaw10_SpecMatched ?_
  intro H1 e1
  have g1 : Grow H H1 := e1 ▸ Grow.new ok _
  have b1 : H1.get H.next = some (.cells [.slice a l c] 0) := e1 ▸ get_new_self _ _
  refine ⟨a, l, c, cell_of b1 rfl, (good_ok g1.ok (hG.grow loc_vtx g1) hf).mono ?_⟩
  rintro _ H2 ⟨b, rfl, hgood, g2⟩
  refine ⟨b, rfl, cond_intro (fun _ => ?_) (fun hb2 => ?_)⟩
  · refine awake_ok.mono ?_
    rintro _ _ ⟨rfl, rfl⟩
    exact ⟨_, rfl, rfl, g1.trans g2⟩
  have hb2 : b = true := by simpa using hb2
  obtain ⟨hM, h20, _⟩ := hgood hb2
  have hr := hM.steps.rising
  have g12 := g1.trans g2
  refine ⟨a, l, c, cell_of (g2.get _ _ id b1) rfl, (ref_ok g2.ok (hG.grow loc_vtx g12) hf).mono ?_⟩
  rintro _ H4 ⟨xa, xl, xc, rfl, hX, g4⟩
  have g14 := g12.trans g4
  have hxl := hX.len
  have P4 := hP.grow loc_int g14
  have b4 := (g2.trans g4).get _ _ id b1
  have hE : ∀ v ∈ G, v.edges.length ≤ 4611686018427387903 := by
    intro v hv
    have h1 : v.edges.length ≤ nE G := by
      obtain ⟨k, hk, rfl⟩ := List.mem_iff_getElem.1 hv
      have h2 := nE_take hk
      have h3 := nE_take_le G (k + 1)
      omega
    have := hM.many
    omega
  have last : ∀ ok6 : Bool, (ok6 = true ↔ ps.length = G.length ∧ ∀ i, i < G.length → PairOk G ps i) → FW Ee F_cohortlaw10_awake [] H4 fun v_6 H10 => ∃ (r95 : Bool), v_6 = .bool r95 ∧ cond (r95) (
      ∃ (va : Option Addr) (vl : Nat) (vc : Nat), H10.cell H.next (0 + 0) = some (.slice va vl vc) ∧ FW Ee F_spec_Matched [.agg ⟨[.slice va vl vc]⟩, .slice pa pl pc] H10 fun v_7 H11 => ∃ (r99 : Bool), v_7 = .bool r99 ∧ (Value.bool (r99 == ok6) = .bool true ∧ Grow H H11))
      (Value.bool false = .bool true ∧ Grow H H10) := by
    intro ok6 hok
    refine awake_ok.mono ?_
    rintro _ _ ⟨rfl, rfl⟩
    refine ⟨true, rfl, cond_pos rfl ?_⟩
    refine ⟨a, l, c, cell_of b4 rfl, (matched_ok g4.ok (hG.grow loc_vtx g14) (fun b hb => by have := hF b hb; have := g14.next; omega) P4 hM hb).mono ?_⟩
    rintro _ H11 ⟨r, rfl, hr9, g11⟩
    refine ⟨r, rfl, ?_, g14.trans g11⟩
    have : r = ok6 := by
      cases r <;> cases ok6
      · rfl
      · exact absurd (hr9.2 (hok.1 rfl)) (by simp)
      · exact absurd (hok.2 (hr9.1 rfl)) (by simp)
      · rfl
    rw [this]; simp
  refine ⟨xa, xl, xc, rfl, fun m ok6 i Hb => H4 = Hb ∧ ∃ p : Nat, i = p ∧ p ≤ xl ∧ m = xl - p ∧ (ok6 = true ↔ ps.length = G.length ∧ ∀ i, i < p → PairOk G ps i), ⟨_, rfl, 0, rfl, by omega, rfl, ?_⟩, ?_⟩
  · constructor
    · intro h
      have h : (pl : Int) = (xl : Int) := by simpa using h
      exact ⟨by omega, fun i h => by omega⟩
    · rintro ⟨h, _⟩
      have : pl = xl := by omega
      rw [this]; simp
  rintro m ok6 i Hb ⟨rfl, p, rfl, hp, rfl, hok⟩
  refine cond_dec (fun hlt => ?_) (fun hge => ?_)
  · refine cond_intro (fun hok6 => ?_) (fun hok6 => ?_)
    · obtain ⟨hpG, hdone⟩ := hok.1 hok6
      have hiG : p < G.length := by omega
      have hi : p < ps.length := by omega
      obtain ⟨hsp, ep⟩ := P4.nth hi
      obtain ⟨hsx, ex, _⟩ := hX.nth hiG
      have fin : ∀ (o : Bool), (o = true ↔ PairOk G ps p) → ∀ t30 : Int, t30 = IntKind.i64.wrap ((p : Int) + 1) → ∃ m, m < xl - p ∧ (H4 = H4 ∧ ∃ p : Nat, t30 = p ∧ p ≤ xl ∧ m = xl - p ∧ (o = true ↔ ps.length = G.length ∧ ∀ i, i < p → PairOk G ps i)) := by
        intro o ho t30 e30
        rw [wrap_i64 (by omega) (by omega)] at e30
        subst e30
        refine ⟨xl - (p + 1), by omega, rfl, p + 1, by simp, by omega, rfl, fun h => ⟨hpG, fun i hi2 => ?_⟩, fun h => ho.2 (h.2 p (by omega))⟩
        rcases Nat.lt_or_ge i p with h1 | h1
        · exact hdone i h1
        · have : i = p := by omega
          subst this; exact ho.1 h
      refine grd_intro hsp ⟨by omega, by omega, _, ep, grd_intro hsx ⟨by omega, by omega, _, ex, cond_intro (fun hfree => ?_) (fun hfree => ?_)⟩⟩
      · have hfree : ps[p] = G[p].id := by simpa using hfree
        refine ⟨fun m o k Hc => H4 = Hc ∧ ∃ q : Nat, k = q ∧ q ≤ xl ∧ m = xl - q ∧ (o = true ↔ ∀ a, a < q → Near G p a → ∀ (h : a < G.length) (h2 : a < ps.length), ps[a] ≠ G[a].id), ⟨_, rfl, 0, rfl, by omega, rfl, by rw [hok6]; simp⟩, ?_⟩
        rintro m o k Hc ⟨rfl, q, rfl, hq, rfl, ho⟩
        refine cond_dec (fun hlt2 => ?_) (fun hge2 => ?_)
        · have hqG : q < G.length := by omega
          have hq2 : q < ps.length := by omega
          have step : ∀ (o' : Bool), (o' = true ↔ o = true ∧ (Near G p q → ps[q] ≠ G[q].id)) → ∀ t46 : Int, t46 = IntKind.i64.wrap ((q : Int) + 1) → ∃ m, m < xl - q ∧ (H4 = H4 ∧ ∃ q : Nat, t46 = q ∧ q ≤ xl ∧ m = xl - q ∧ (o' = true ↔ ∀ a, a < q → Near G p a → ∀ (h : a < G.length) (h2 : a < ps.length), ps[a] ≠ G[a].id)) := by
            intro o' ho' t46 e46
            rw [wrap_i64 (by omega) (by omega)] at e46
            subst e46
            refine ⟨xl - (q + 1), by omega, rfl, q + 1, by simp, by omega, rfl, fun h a ha hn h1 h2 => ?_, fun h => ho'.2 ⟨ho.2 fun a ha => h a (by omega), fun hn => h q (by omega) hn hqG hq2⟩⟩
            obtain ⟨h3, h4⟩ := ho'.1 h
            rcases Nat.lt_or_ge a q with h5 | h5
            · exact ho.1 h3 a h5 hn h1 h2
            · have : a = q := by omega
              subst this; exact h4 hn
          refine cond_intro (fun hot => ?_) (fun hof => ?_)
          · refine (near_ok hX hE hiG hqG).mono ?_
            rintro _ _ ⟨b, rfl, hbn, rfl⟩
            refine ⟨_, rfl, cond_intro (fun hbt => ?_) (fun hbf => ?_)⟩
            · obtain ⟨hs5, e5⟩ := P4.nth hq2
              obtain ⟨hs6, e6, _⟩ := hX.nth hqG
              refine grd_intro hs5 ⟨by omega, by omega, _, e5, grd_intro hs6 ⟨by omega, by omega, _, e6, ?_⟩⟩
              refine step _ ⟨fun h => ⟨hot, fun _ => by simpa using h⟩, fun h => ?_⟩
              have := h.2 (hbn.1 hbt)
              simpa using this
            · refine step _ ⟨fun _ => ⟨hot, fun hn => ?_⟩, fun _ => rfl⟩
              rw [hbn.2 hn] at hbf; cases hbf
          · refine step _ ⟨fun h => (by cases h), fun h => ?_⟩
            rw [hof] at h; exact h.1
        · refine fin _ ⟨fun h => ⟨hiG, hi, .inl ⟨hfree, fun a hn h1 h2 => ho.1 h a (by omega) hn h1 h2⟩⟩, ?_⟩
          rintro ⟨_, _, ⟨_, h⟩ | ⟨h, _⟩⟩
          · exact ho.2 fun a _ hn h1 h2 => h a hn h1 h2
          · exact (h hfree).elim
      · have hfree : ps[p] ≠ G[p].id := by simpa using hfree
        refine grd_intro hsp ⟨by omega, by omega, _, ep, (rfind_ok hX (by omega)).mono ?_⟩
        rintro _ _ ⟨rfl, rfl⟩
        refine ⟨_, _, rfl, cond_intro (fun hin => ?_) (fun hin => ?_)⟩
        · obtain ⟨hf2, hfid⟩ := isIn_spec hin
          refine (near_ok hX hE hiG hf2).mono ?_
          rintro _ _ ⟨b, rfl, hbn, rfl⟩
          refine ⟨_, rfl, cond_intro (fun hbt => ?_) (fun hbf => ?_)⟩
          · obtain ⟨hs5, e5⟩ := P4.nth (k := fnd G ps[p]) (by omega)
            refine grd_intro hs5 ⟨by omega, by omega, _, e5, grd_intro hsx ⟨by omega, by omega, _, ex, ?_⟩⟩
            refine fin _ ⟨fun h => ⟨hiG, hi, .inr ⟨hfree, hin, hbn.1 hbt, by omega, by simpa using h⟩⟩, ?_⟩
            rintro ⟨_, _, ⟨h, _⟩ | ⟨_, _, _, _, h⟩⟩
            · exact (hfree h).elim
            · simpa using h
          · refine fin _ ⟨fun h => (by cases h), ?_⟩
            rintro ⟨_, _, ⟨h, _⟩ | ⟨_, _, h, _⟩⟩
            · exact (hfree h).elim
            · rw [hbn.2 h] at hbf; cases hbf
        · refine fin _ ⟨fun h => (by cases h), ?_⟩
          rintro ⟨_, _, ⟨h, _⟩ | ⟨_, h, _⟩⟩
          · exact (hfree h).elim
          · rw [h] at hin; cases hin
    · refine last ok6 ⟨fun h => (by rw [hok6] at h; cases h), fun h => ?_⟩
      exact hok.2 ⟨h.1, fun i hi => h.2 i (by omega)⟩
  · refine last ok6 ⟨fun h => ?_, fun h => hok.2 ⟨h.1, fun i hi => h.2 i (by omega)⟩⟩
    obtain ⟨h1, h2⟩ := hok.1 h
    exact ⟨h1, fun i hi => h2 i (by omega)⟩

/-! a list of numbers as it comes in -/
abbrev RL : AH → List Value → List Int → Prop := RSl 1 8 (RInt .i64)
theorem rl_len (H : AH) (cs : List Value) (x : Int) (h : RInt .i64 H cs x) : cs.length = 1 := by obtain ⟨rfl, _⟩ := h; rfl
theorem stable_rl : Stable RL := stable_slice stable_int
theorem ints_in {H : AH} (ok : Ok H) {a : Option Addr} {l : Nat} {xs : List Int} (h : Sl (fun _ => True) H 1 (PCs (RInt .i64)) a l xs) : SlI (fun b => b < H.next) H a l xs := by
  have one : ∀ b o x, PCs (RInt .i64) H b o x → PInt .i64 H b o x := by
    rintro b o x ⟨cs, hc, rfl, _⟩
    exact by simpa [PInt] using hc 0 _ rfl
  have := Sl.into (f := id) (Q := PInt .i64) (F := fun b => b < H.next) h (fun b o x hx => lt_of_cell ok (one b o x hx)) (fun b o x _ hx => one b o x hx)
  rwa [List.map_id] at this
section
variable {Hh : Type} {enc : TypeId × Value → Hh} {W : World} [Sy]
theorem lay_ints : LayT enc Try.prog W T_L_int64 RL := lay_slice (e := T_int64) (by kernel_rfl) (by kernel_rfl) (by omega) (by kernel_rfl) (lay_int (by kernel_rfl)) stable_int rl_len
end
end Go.Proofs.Cx
