/- SpecTurns: the law, as formulas have it. -/
import Derived.Test.YtojohclbjcnhaaaC7
namespace Go.Ev
open Go
theorem lin_congr {G : List Vtx} {f g : Nat → Int} : ∀ {p : Nat}, (∀ j, j < p → f j = g j) → ∀ j, lin G f p j = lin G g p j
  | 0, _, _ => rfl
  | p + 1, h, j => by
    rw [lin_succ, lin_succ, lin_congr (p := p) (fun i hi => h i (by omega)) j, h p (by omega)]
theorem LNext.congr {G : List Vtx} {f g next : Nat → Int} (h : LNext G f next) (e : ∀ j, j < G.length → f j = g j) : LNext G g next := fun j hj => by
  rw [← lin_congr e j, ← e j hj]; exact h j hj
theorem tmod6_nn {a : Int} (h : 0 ≤ a) : 0 ≤ a.tmod 6 ∧ a.tmod 6 < 6 := by
  rw [Int.tmod_eq_emod_of_nonneg h]; omega
theorem tmod6 (a : Int) : -6 < a.tmod 6 ∧ a.tmod 6 < 6 := by
  by_cases h : 0 ≤ a
  · have := tmod6_nn h; omega
  · have h2 := tmod6_nn (a := -a) (by omega)
    rw [Int.neg_tmod] at h2; omega
/-- the best one among the first q -/
structure BM (l : List Int) (q : Nat) (x : Int) (m : Nat) : Prop where
  mem : x ∈ l
  cnt : l.count x = m
  best : ∀ y ∈ l.take q, l.count y < m ∨ (l.count y = m ∧ x ≤ y)
theorem BM.mode {l : List Int} {q : Nat} {x : Int} {m : Nat} (h : BM l q x m) (hq : l.length ≤ q) : IsMode l x m := ⟨h.mem, h.cnt, fun y hy => h.best y (by rw [List.take_of_length_le hq]; exact hy)⟩
theorem BM.keep {l : List Int} {q : Nat} {x : Int} {m : Nat} (h : BM l q x m) (hq : q < l.length) (k : l.count l[q] < m ∨ (l.count l[q] = m ∧ x ≤ l[q])) : BM l (q + 1) x m := ⟨h.mem, h.cnt, fun y hy => by
  rw [List.take_succ_eq_append_getElem hq, List.mem_append, List.mem_singleton] at hy
  rcases hy with hy | rfl
  · exact h.best y hy
  · exact k⟩
theorem BM.new {l : List Int} {q : Nat} (hq : q < l.length) (k : ∀ y ∈ l.take q, l.count y < l.count l[q] ∨ (l.count y = l.count l[q] ∧ l[q] ≤ y)) : BM l (q + 1) l[q] (l.count l[q]) := ⟨List.getElem_mem hq, rfl, fun y hy => by
  rw [List.take_succ_eq_append_getElem hq, List.mem_append, List.mem_singleton] at hy
  rcases hy with hy | rfl
  · exact k y hy
  · right; exact ⟨rfl, Int.le_refl _⟩⟩
end Go.Ev
namespace Go.Proofs.Cx
open Go Go.Ev Go.RowKit

theorem law_turns {F : Nat → Prop} {a : Option Addr} {l c : Nat} {H : AH} {G : List Vtx} (ok : Ok H) (hG : SlV F H a l G) (hf : Fit G) (hF : ∀ b, F b → b < H.next) (k1 : Int) :
    FW Ee F_cohortlaw10_SpecTurns [.agg ⟨[.slice a l c]⟩, .int .i64 k1] H fun r H' => r = .bool true ∧ Grow H H' := by
  have hlen := hG.len
  refine fw_cohortlaw10_SpecTurns ?_
  intro H1 e1
  have g1 : Grow H H1 := e1 ▸ Grow.new ok _
  have b1 : H1.get H.next = some (.cells [.slice a l c] 0) := e1 ▸ get_new_self _ _
  refine ⟨a, l, c, cell_of b1 rfl, (good_ok g1.ok (hG.grow loc_vtx g1) hf).mono ?_⟩
  rintro _ H2 ⟨b, rfl, hgood, g2⟩
  refine ⟨b, rfl, cond_intro (fun _ => ?_) (fun hb2 => ?_)⟩
  · refine awake_ok.mono ?_
    rintro _ _ ⟨rfl, rfl⟩
    exact ⟨_, rfl, rfl, g1.trans g2⟩
  have hb2 : b = true := by simpa using hb2
  obtain ⟨hM, h20, _⟩ := hgood hb2
  have hr := hM.steps.rising
  have hl256 := hM.len
  have g12 := g1.trans g2
  refine ⟨by omega, ?_⟩
  intro t27 e27
  have h27 : -6 < t27 ∧ t27 < 6 := by
    subst_vars
    exact tmod6 k1
  intro t28 e28
  rw [wrap_i64 (by omega) (by omega)] at e28
  refine ⟨by omega, ?_⟩
  intro t29 e29
  obtain ⟨T, rfl, hT5⟩ : ∃ T : Nat, t29 = T ∧ T ≤ 5 := by
    have h28 : 0 ≤ t28.tmod 6 ∧ t28.tmod 6 < 6 := tmod6_nn (by omega)
    subst e29
    exact ⟨(t28.tmod 6).toNat, by omega, by omega⟩
  intro t30 e30
  obtain rfl : t30 = ((T + 1 : Nat) : Int) := e30.trans (wnat (by omega) (by omega))
  refine ⟨a, l, c, cell_of (g2.get _ _ id b1) rfl, (ref_ok g2.ok (hG.grow loc_vtx g12) hf).mono ?_⟩
  rintro _ H4 ⟨xa, xl, xc, rfl, hX, g4⟩
  have g14 := g12.trans g4
  have hxl := hX.len
  have b4 := (g2.trans g4).get _ _ id b1
  have G4 := hG.grow loc_vtx g14
  have n4 := g14.next
  refine ⟨xa, xl, xc, rfl, a, l, c, cell_of b4 rfl, ?_⟩
  intro t35 e35
  obtain rfl : t35 = ((T : Nat) : Int) := e35.trans (wnat (by omega) (by omega))
  refine (ranks_ok T (by omega) g4.ok G4 (fun b hb => by have := hF b hb; omega) hM).mono ?_
  rintro _ H5 ⟨ab, af, rfl, ha5, hab, haf, g5⟩
  have b5 := g5.get _ _ id b4
  have n5 := g5.next
  refine ⟨_, _, _, rfl, a, l, c, cell_of b5 rfl, (ranks_ok (T + 1) (by omega) g5.ok (G4.grow loc_vtx g5) (fun b hb => by have := hF b hb; omega) hM).mono ?_⟩
  rintro _ H6 ⟨bb, bf, rfl, hb6, hbb, hbf, g6⟩
  have b6 := g6.get _ _ id b5
  have n6 := g6.next
  have g46 := g5.trans g6
  refine ⟨_, _, _, rfl, cell_of b4 rfl, a, l, c, cell_of b6 rfl, ?_⟩
  intro t42 e42
  obtain rfl : t42 = ((T : Nat) : Int) := e42.trans (wnat (by omega) (by omega))
  refine (labels_ok T (by omega) g6.ok (G4.grow loc_vtx g46) (fun b hb => by have := hF b hb; omega) hM).mono ?_
  rintro _ H7 ⟨ca, cc, cf, rfl, hC7, hcf, g7⟩
  have b7 := g7.get _ _ id b6
  have n7 := g7.next
  have g47 := g46.trans g7
  refine ⟨_, _, _, rfl, a, l, c, cell_of b7 rfl, (labels_ok (T + 1) (by omega) g7.ok (G4.grow loc_vtx g47) (fun b hb => by have := hF b hb; omega) hM).mono ?_⟩
  rintro _ H8 ⟨da, dc, df, rfl, hD8, hdf, g8⟩
  have g48 := g47.trans g8
  have gall := g14.trans g48
  have X8 := hX.grow loc_vtx g48
  have a8 := (g6.trans (g7.trans g8)).get _ _ id ha5
  have b8 := (g7.trans g8).get _ _ id hb6
  have C8 := hC7.grow loc_int g8
  have hnext : LNext G cf df := by
    obtain ⟨g, q1, q2⟩ := hdf
    exact q2.congr fun j hj => LTurns.unique q1 hcf j hj
  refine ⟨_, _, _, rfl, cell_of b6 rfl, ?_⟩
  have hne : (((G.length : Nat) : Int) != ((xl : Nat) : Int)) = false := by rw [hxl]; simp
  refine cond_neg hne (cond_neg hne (cond_neg hne (cond_neg hne ?_)))
  refine ⟨fun m _ all i Hb => ∃ p : Nat, i = p ∧ p ≤ G.length ∧ m = G.length - p ∧ all = (smTo (ranks G (T + 1)) p : Nat) ∧ Grow H8 Hb, ⟨_, 0, rfl, by omega, rfl, rfl, .refl g8.ok⟩, ?_⟩
  rintro m t4 all i Hb ⟨p, rfl, hp, rfl, rfl, gb⟩
  have hallle : smTo (ranks G (T + 1)) p ≤ 1000000 := by
    have := smTo_le_part (f := ranks G (T + 1)) hp
    have := ranks_sum G (T + 1)
    omega
  refine cond_dec (fun hlt => ?_) (fun hge => ?_)
  · have hk : p < G.length := by omega
    intro H10 e10
    have g10 : Grow Hb H10 := e10 ▸ Grow.new gb.ok _
    have n10 : H10.next = Hb.next + 1 := by rw [e10]; rfl
    have s10 : H10.get Hb.next = some (.cells [] 0) := e10 ▸ get_new_self _ _
    have hrp := rin_le G T hk
    refine ⟨fun m sum sa sl sc k Hx => ∃ q : Nat, k = q ∧ q ≤ G.length ∧ m = G.length - q ∧ sum = (smTo (fun k => cO G k p * (ranks G T k / (orow G k).length)) q : Nat) ∧ Own Hx 1 sa sl sc ((lin G cf q p).map iv) ∧ (∀ x, sa = some x → Hb.next ≤ x.block) ∧ Hb.next < Hx.next ∧ Grow Hb Hx,
      ⟨_, 0, rfl, by omega, rfl, rfl, Own.empty 1 s10, fun x e => (by cases e; exact Nat.le_refl _), by omega, g10⟩, ?_⟩
    rintro m sum sa sl sc k Hx ⟨q, rfl, hq, rfl, rfl, hOw, hfar, hnx, gx⟩
    have gx8 := gb.trans gx
    have Xx := X8.grow loc_vtx gx8
    have hsl := hOw.num
    have hlinle := lin_le hM cf hq p
    refine cond_dec (fun hlt2 => ?_) (fun hge2 => ?_)
    · have hqk : q < G.length := by omega
      obtain ⟨dd, hdd⟩ : ∃ dd, dd = ranks G T q / (orow G q).length := ⟨_, rfl⟩
      have hbig : smTo (fun k => cO G k p * (ranks G T k / (orow G k).length)) q + cO G q p * (ranks G T q / (orow G q).length) ≤ smTo (fun k => cO G k p * (ranks G T k / (orow G k).length)) G.length :=
        smTo_le_part (f := fun k => cO G k p * (ranks G T k / (orow G k).length)) (p := q + 1) (n := G.length) (by omega)
      have hsumle : smTo (fun k => cO G k p * (ranks G T k / (orow G k).length)) q + cO G q p * dd ≤ 1000000 := by
        unfold rin at hrp
        rw [← hdd] at hbig
        omega
      have hddle : dd ≤ 1000000 := by
        have := ranks_le G T hqk
        have := Nat.div_le_self (ranks G T q) (orow G q).length
        omega
      have hlin1 := lin_le hM cf (show q + 1 ≤ G.length by omega) p
      rw [lin_succ, List.length_append, List.length_replicate] at hlin1
      have horow := orow_eq hqk
      refine ⟨fun m sum sa sl sc e Hy => ∃ r : Nat, e = r ∧ r ≤ (orow G q).length ∧ m = (orow G q).length - r ∧ sum = ((smTo (fun k => cO G k p * (ranks G T k / (orow G k).length)) q + ((orow G q).take r).count p * dd : Nat) : Int) ∧
          Own Hy 1 sa sl sc ((lin G cf q p ++ List.replicate (((orow G q).take r).count p) (cf q)).map iv) ∧ (∀ x, sa = some x → Hb.next ≤ x.block) ∧ Hb.next < Hy.next ∧ Grow Hb Hy,
        ⟨_, 0, rfl, by omega, rfl, by simp, by simpa using hOw, hfar, hnx, gx⟩, ?_⟩
      rintro m sum sa2 sl2 sc2 e Hy ⟨r, rfl, hr1, rfl, rfl, hOy, hfary, hny, gy⟩
      have gy8 := gb.trans gy
      have Xy := X8.grow loc_vtx gy8
      obtain ⟨hsx, cid, cval, ea, el, ec, cedges, hEd⟩ := Xy.nth hqk
      have hel : el = (orow G q).length := by rw [horow, List.length_map]; exact hEd.len
      have hol := orow_len hM q
      refine grd_intro hsx ⟨by omega, by omega, ea, el, ec, cedges, cond_dec (fun hlt3 => ?_) (fun hge3 => ?_)⟩
      · have hrk : r < (orow G q).length := by omega
        have hre : r < G[q].edges.length := by rw [horow, List.length_map] at hrk; exact hrk
        obtain ⟨hse, cto, _⟩ := hEd.nth hre
        obtain ⟨hsp, cpid, _⟩ := Xy.nth hk
        have hto : (orow G q)[r] = p ↔ (G[q].edges[r]).1 = G[p].id := by
          have : (orow G q)[r] = fnd G (G[q].edges[r]).1 := by simp only [horow, List.getElem_map]
          rw [this]
          exact fnd_iff hM hqk hre hk
        have hcnt := count_take (j := p) hrk
        refine grd_intro hsx ⟨by omega, by omega, ea, el, ec, cedges, grd_intro hse ⟨by omega, by omega, _, cto, grd_intro hsp ⟨by omega, by omega, _, cpid, cond_intro (fun he => ?_) (fun he => ?_)⟩⟩⟩
        · have he : (G[q].edges[r]).1 = G[p].id := by simpa using he
          rw [if_pos (hto.2 he)] at hcnt
          have hcle : ((orow G q).take (r + 1)).count p ≤ cO G q p := List.Sublist.count_le _ (List.take_sublist _ _)
          have hmul := Nat.mul_le_mul_right dd hcle
          rw [hcnt, Nat.add_mul] at hmul
          have haq := gy8.get _ _ id a8
          obtain ⟨hsc, ccf⟩ := fns_at (C8.grow loc_int gy8) hqk
          refine grd_intro rfl ⟨by omega, by omega, _, cell_tab haq hqk, grd_intro hsx ⟨by omega, by omega, ea, el, ec, cedges, by omega, ?_⟩⟩
          intro t122 e122
          have e122 : t122 = (dd : Int) := by
            rw [e122, haf q hqk, hel, show ((ranks G T q : Nat) : Int).tdiv (((orow G q).length : Nat) : Int) = ((ranks G T q / (orow G q).length : Nat) : Int) from rfl, ← hdd, wrap_i64 (by omega) (by omega)]
          subst e122
          intro t123 e123
          rw [wrap_i64 (by omega) (by omega)] at e123
          refine grd_intro hsc ⟨by omega, by omega, _, ccf, ?_⟩
          intro H13 e13
          have g13 : Grow Hy H13 := e13 ▸ Grow.new gy.ok _
          have n13 : H13.next = Hy.next + 1 := by rw [e13]; rfl
          have hl2 := hOy.num
          rw [List.length_append, List.length_replicate] at hl2
          have hcle2 : ((orow G q).take r).count p ≤ cO G q p := List.Sublist.count_le _ (List.take_sublist _ _)
          obtain ⟨H14, k1_, k2_, k3_, k4_⟩ := (hOy.mod g13 fun b hb => hb.elim).append (n := 1) (bytes := 8) (new := [iv (cf q)]) (x := .slice (some ⟨Hy.next, 0, none⟩) 1 2) g13.ok rfl (takev_new e13 rfl) (by omega) rfl rfl (by omega) (by omega)
          refine ⟨_, _, _, H14, k1_, ?_⟩
          intro t95 e95
          rw [wrap_i64 (by omega) (by omega)] at e95
          subst e95
          refine ⟨(orow G q).length - (r + 1), by omega, r + 1, by simp, by omega, rfl, ?_, ?_, ?_, by omega, (gy.trans g13).ext k4_ gb.ok fun b hb => .inr ?_⟩
          · rw [e123, hcnt, Nat.add_mul]; omega
          · rw [hcnt, List.replicate_succ', ← List.append_assoc, List.map_append]; exact k2_
          · intro y ey
            cases ey
            simp only; omega
          · obtain ⟨x, ex, rfl⟩ := not_off hb
            exact hfary x ex
        · have he : (G[q].edges[r]).1 ≠ G[p].id := by simpa using he
          rw [if_neg (fun h => he (hto.1 h)), Nat.add_zero] at hcnt
          intro t95 e95
          rw [wrap_i64 (by omega) (by omega)] at e95
          subst e95
          exact ⟨(orow G q).length - (r + 1), by omega, r + 1, by simp, by omega, rfl, by rw [hcnt]; rfl, by rw [hcnt]; exact hOy, hfary, hny, gy⟩
      · have hrn : r = (orow G q).length := by omega
        subst hrn
        rw [List.take_length] at hOy ⊢
        intro t85 e85
        rw [wrap_i64 (by omega) (by omega)] at e85
        subst e85
        refine ⟨G.length - (q + 1), by omega, q + 1, by simp, by omega, rfl, ?_, ?_, hfary, hny, gy⟩
        · rw [hdd]; rfl
        · rw [lin_succ]; exact hOy
    · have hqn : q = G.length := by omega
      subst hqn
      have bx := gx8.get _ _ id b8
      obtain ⟨hsc, ccf⟩ := fns_at (C8.grow loc_int gx8) hk
      refine grd_intro rfl ⟨by omega, by omega, _, cell_tab bx hk, by omega, ?_⟩
      intro t137 e137
      obtain ⟨Q1, hQ1⟩ : ∃ Q, Q = 150000 / G.length := ⟨_, rfl⟩
      have hQ1le : Q1 ≤ 150000 := hQ1 ▸ Nat.div_le_self 150000 G.length
      obtain rfl : t137 = (Q1 : Int) := e137.trans (wnat (by rw [hxl, hQ1]; rfl) (by omega))
      intro t139 e139
      have hrin : smTo (fun k => cO G k p * (ranks G T k / (orow G k).length)) G.length = rin G (ranks G T) p := rfl
      rw [hrin, wrap_i64 (by omega) (by omega)] at e139
      have e139 : t139 = ((rin G (ranks G T) p * 85 : Nat) : Int) := by rw [e139]; omega
      subst e139
      refine ⟨by omega, ?_⟩
      intro t140 e140
      have e140 : t140 = ((rin G (ranks G T) p * 85 / 100 : Nat) : Int) := by
        rw [e140, show ((rin G (ranks G T) p * 85 : Nat) : Int).tdiv 100 = ((rin G (ranks G T) p * 85 / 100 : Nat) : Int) from rfl, wrap_i64 (by omega) (by omega)]
      subst e140
      intro t141 e141
      rw [wrap_i64 (by omega) (by omega)] at e141
      refine cond_neg ?_ ?_
      · have : bf p = t141 := by
          rw [hbf p hk, e141, hQ1]; rfl
        rw [this]; simp
      refine grd_intro hsc ⟨by omega, by omega, _, ccf, ?_⟩
      obtain ⟨L, hL⟩ : ∃ L, L = lin G cf G.length p := ⟨_, rfl⟩
      rw [← hL] at hOw hsl hlinle
      have hSl : SlI (fun _ => True) Hx sa sl L := own_sl hOw fun _ _ => trivial
      refine ⟨fun m most best k Hy => Hx = Hy ∧ ∃ q : Nat, k = q ∧ q ≤ L.length ∧ m = L.length - q ∧ ((q = 0 ∧ most = 0 ∧ best = cf p) ∨ ∃ mm : Nat, most = mm ∧ BM L q best mm), ⟨_, rfl, 0, rfl, by omega, rfl, .inl ⟨rfl, rfl, rfl⟩⟩, ?_⟩
      rintro m most best k Hy ⟨rfl, q, rfl, hq1, rfl, hst⟩
      refine cond_dec (fun hlt3 => ?_) (fun hge3 => ?_)
      · have hqL : q < L.length := by omega
        obtain ⟨hsq, cq⟩ := hSl.nth hqL
        have hcl := List.count_le_length (a := L[q]) (l := L)
        have hcpos : 0 < L.count L[q] := List.count_pos_iff.2 (List.getElem_mem hqL)
        refine ⟨fun m n e Hz => Hx = Hz ∧ ∃ r : Nat, e = r ∧ r ≤ L.length ∧ m = L.length - r ∧ n = ((L.take r).count L[q] : Nat), ⟨_, rfl, 0, rfl, by omega, rfl, by simp⟩, ?_⟩
        rintro m n e Hz ⟨rfl, r, rfl, hr1, rfl, rfl⟩
        refine cond_dec (fun hlt4 => ?_) (fun hge4 => ?_)
        · have hrL : r < L.length := by omega
          obtain ⟨hsr, cr⟩ := hSl.nth hrL
          have hcle : (L.take r).count L[q] ≤ L.count L[q] := List.Sublist.count_le _ (List.take_sublist _ _)
          have htk : (L.take (r + 1)).count L[q] = (L.take r).count L[q] + if L[r] = L[q] then 1 else 0 := by
            rw [List.take_succ_eq_append_getElem hrL, List.count_append, List.count_cons, List.count_nil, Nat.zero_add]
            by_cases h : L[r] = L[q] <;> simp [h]
          refine grd_intro hsr ⟨by omega, by omega, _, cr, grd_intro hsq ⟨by omega, by omega, _, cq, cond_intro (fun he => ?_) (fun he => ?_)⟩⟩
          · have he : L[r] = L[q] := by simpa using he
            rw [if_pos he] at htk
            intro t169 e169
            rw [wrap_i64 (by omega) (by omega)] at e169
            intro t158 e158
            rw [wrap_i64 (by omega) (by omega)] at e158
            subst e158
            exact ⟨L.length - (r + 1), by omega, rfl, r + 1, by simp, by omega, rfl, by rw [e169, htk]; rfl⟩
          · have he : L[r] ≠ L[q] := by simpa using he
            rw [if_neg he, Nat.add_zero] at htk
            intro t158 e158
            rw [wrap_i64 (by omega) (by omega)] at e158
            subst e158
            exact ⟨L.length - (r + 1), by omega, rfl, r + 1, by simp, by omega, rfl, by rw [htk]; rfl⟩
        · have hrn : r = L.length := by omega
          subst hrn
          rw [List.take_length]
          have next : ∀ (most' best' : Int), (∃ mm : Nat, most' = mm ∧ BM L (q + 1) best' mm) → ∀ t : Int, t = IntKind.i64.wrap ((q : Int) + 1) → ∃ m, m < L.length - q ∧ (Hx = Hx ∧ ∃ q : Nat, t = q ∧ q ≤ L.length ∧ m = L.length - q ∧ ((q = 0 ∧ most' = 0 ∧ best' = cf p) ∨ ∃ mm : Nat, most' = mm ∧ BM L q best' mm)) := by
            intro most' best' h t et
            rw [wrap_i64 (by omega) (by omega)] at et
            subst et
            exact ⟨L.length - (q + 1), by omega, rfl, q + 1, by simp, by omega, rfl, .inr h⟩
          refine cond_dec (fun hgt => ?_) (fun hle => ?_)
          · refine grd_intro hsq ⟨by omega, by omega, _, cq, next _ _ ⟨_, rfl, BM.new hqL fun y hy => ?_⟩⟩
            rcases hst with ⟨rfl, _, _⟩ | ⟨mm, rfl, hBM⟩
            · simp at hy
            · left
              rcases hBM.best y hy with h | ⟨h, _⟩ <;> omega
          · rcases hst with ⟨_, rfl, _⟩ | ⟨mm, rfl, hBM⟩
            · omega
            refine cond_intro (fun heq => ?_) (fun hneq => ?_)
            · have heq : L.count L[q] = mm := by
                have : ((L.count L[q] : Nat) : Int) = (mm : Int) := by simpa using heq
                omega
              refine grd_intro hsq ⟨by omega, by omega, _, cq, cond_dec (fun hb => ?_) (fun hb => ?_)⟩
              · refine grd_intro hsq ⟨by omega, by omega, _, cq, next _ _ ⟨_, rfl, BM.new hqL fun y hy => ?_⟩⟩
                rcases hBM.best y hy with h | ⟨h, h2⟩
                · left; omega
                · right; exact ⟨by omega, by omega⟩
              · exact next _ _ ⟨mm, rfl, hBM.keep hqL (.inr ⟨heq, by omega⟩)⟩
            · have hneq : L.count L[q] ≠ mm := by
                have : ((L.count L[q] : Nat) : Int) ≠ (mm : Int) := by simpa using hneq
                omega
              exact next _ _ ⟨mm, rfl, hBM.keep hqL (.inl (by omega))⟩
      · have hqn : q = L.length := by omega
        subst hqn
        obtain ⟨hsd, cdf⟩ := fns_at (hD8.grow loc_int gx8) hk
        have hbest : df p = best := by
          rcases hnext p hk with ⟨h1, h2⟩ | ⟨mm', h1⟩
          · rw [← hL] at h1
            rcases hst with ⟨_, _, rfl⟩ | ⟨mm, _, hBM⟩
            · exact h2
            · have := hBM.mem; rw [h1] at this; simp at this
          · rw [← hL] at h1
            rcases hst with ⟨h0, _, _⟩ | ⟨mm, _, hBM⟩
            · have : L = [] := List.length_eq_zero_iff.1 h0
              have h3 := h1.mem
              rw [this] at h3; simp at h3
            · exact h1.unique (hBM.mode (Nat.le_refl _)) (.refl _)
        refine grd_intro hsd ⟨by omega, by omega, _, cdf, cond_neg (by rw [hbest]; simp) ?_⟩
        refine grd_intro rfl ⟨by omega, by omega, _, cell_tab bx hk, ?_⟩
        intro t202 e202
        have hrl := ranks_le G (T + 1) hk
        rw [hbf p hk, wrap_i64 (by omega) (by omega)] at e202
        intro t78 e78
        rw [wrap_i64 (by omega) (by omega)] at e78
        subst e78
        refine ⟨G.length - (p + 1), by omega, p + 1, by simp, by omega, rfl, ?_, gx8⟩
        rw [e202]; rfl
  · refine awake_ok.mono ?_
    rintro _ _ ⟨rfl, rfl⟩
    refine ⟨true, rfl, cond_pos rfl ⟨?_, gall.trans gb⟩⟩
    rw [decide_eq_true (by omega)]
end Go.Proofs.Cx
