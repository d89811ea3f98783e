/- Graphs are taken, as the document has it. Jobs that may be: the program's check and the document's. -/
import Derived.Test.YtkegomailfhnpaaGreatC4
import Derived.Test.YtkegomailfhnpaaGreatVc4
namespace Go.Proofs.Cx
open Go Go.Ev
abbrev vV (v : Vtx) (a : Option Addr) (l c : Nat) : Value := .agg ⟨[.int .i64 v.id, .int .i64 v.val, .slice a l c]⟩
/-- the reader and a row of one's own are put -/
theorem rd_put {H : AH} {b : Nat} {s : List UInt8} {q q' : RSt} (ok : Ok H) (h : H.get b = some (.cells (rdC s q) 0)) :
    ∃ H', storeCellsv H b 0 [.string ⟨⟨s⟩⟩, .int .i64 (q'.1 : Int), .int .i64 q'.2] = some H' ∧ H'.get b = some (.cells (rdC s q') 0) ∧ Mod (· = b) H H' ∧ H'.next = H.next :=
  ⟨_, store_of (o := 0) h (by simp) rfl, get_set_self _ _ _, Mod.set ok h _, rfl⟩
section
variable {H : AH} {s : List UInt8} {q : RSt}
theorem refvtx_ok (ok : Ok H) (hp : AtOk s q) (hs : s.length ≤ 4611686018427387904) :
    FW Ee F_cohortref03_TakeVertex [rdV s q] H fun r H' => ∃ ea el ec, r = .tuple ⟨[rdV s (rVtx s q).2, vV (rVtx s q).1 ea el ec]⟩ ∧ SlE (fun x => H.next ≤ x ∧ x < H'.next) H' ea el (rVtx s q).1.edges ∧ Grow H H' := by
  refine fw_cohortref03_TakeVertex ?_
  intro H1 e1 H2 e2 H3 e3 H4 e4
  obtain ⟨g2, r2, a2, n1, n2⟩ := two_new ok e1 e2
  have g3 : Grow H2 H3 := e3 ▸ Grow.new g2.ok _
  have w3 : H3.get H2.next = some (.cells [.int .i64 0, .int .i64 0, .slice none 0 0] 0) := e3 ▸ get_new_self _ _
  have n3 : H3.next = H2.next + 1 := by rw [e3]; rfl
  obtain ⟨H5, e5, b5, g5, n5⟩ := fresh_store (vs := [.int .i64 0, .int .i64 0, .slice none 0 0]) e4 rfl rfl g3.ok
  have g35 := g3.trans g5
  have r5 := g35.get _ _ id r2
  have a5 := g35.get _ _ id a2
  have w5 := g5.get _ _ id w3
  have gg := g2.trans g35
  have p2 := rSig_ok hp
  have p3 := rSig_ok p2.1
  have p6 := rCnt_ok (m := 2048) p3.1
  refine ⟨H5, e5, _, _, _, cell_of r5 rfl, cell_of r5 rfl, cell_of r5 rfl, (refsig_ok (q := q) gg.ok hp hs).mono ?_⟩
  rintro _ H6 ⟨rfl, g6⟩
  obtain ⟨H7, s7, r7, m7, n7⟩ := rd_put (q' := (rSig s q).2) g6.ok (g6.get _ _ id r5)
  have b7 := m7.get _ _ (show ¬ H3.next = H.next by omega) (g6.get _ _ id b5)
  have a7 := m7.get _ _ (show ¬ H1.next = H.next by omega) (g6.get _ _ id a5)
  have w7 := m7.get _ _ (show ¬ H2.next = H.next by omega) (g6.get _ _ id w5)
  have m8 := Mod.set m7.ok b7 (.cells (lset [.int .i64 0, .int .i64 0, .slice none 0 0] 0 [.int .i64 (rSig s q).1]) 0)
  have b8 := get_set_self H7 H3.next (.cells (lset [.int .i64 0, .int .i64 0, .slice none 0 0] 0 [.int .i64 (rSig s q).1]) 0)
  have r8 := m8.get _ _ (show ¬ H.next = H3.next by omega) r7
  have a8 := m8.get _ _ (show ¬ H1.next = H3.next by omega) a7
  have w8 := m8.get _ _ (show ¬ H2.next = H3.next by omega) w7
  have gg8 := ((gg.trans g6).ext m7 ok fun x hx => .inr (by omega)).ext m8 ok fun x hx => .inr (by omega)
  have n6 := g6.next
  refine ⟨_, _, _, _, rfl, H7, s7, _, store_of (o := 0) b7 (by simp) rfl, _, _, _, cell_of r8 rfl, cell_of r8 rfl, cell_of r8 rfl, (refsig_ok (q := (rSig s q).2) gg8.ok p2.1 hs).mono ?_⟩
  rintro _ H9 ⟨rfl, g9⟩
  obtain ⟨H10, s10, r10, m10, n10⟩ := rd_put (q' := (rSig s (rSig s q).2).2) g9.ok (g9.get _ _ id r8)
  have b10 := m10.get _ _ (show ¬ H3.next = H.next by omega) (g9.get _ _ id b8)
  have a10 := m10.get _ _ (show ¬ H1.next = H.next by omega) (g9.get _ _ id a8)
  have w10 := m10.get _ _ (show ¬ H2.next = H.next by omega) (g9.get _ _ id w8)
  have m11 := Mod.set m10.ok b10 (.cells (lset [.int .i64 (rSig s q).1, .int .i64 0, .slice none 0 0] 1 [.int .i64 (rSig s (rSig s q).2).1]) 0)
  have b11 := get_set_self H10 H3.next (.cells (lset [.int .i64 (rSig s q).1, .int .i64 0, .slice none 0 0] 1 [.int .i64 (rSig s (rSig s q).2).1]) 0)
  have r11 := m11.get _ _ (show ¬ H.next = H3.next by omega) r10
  have a11 := m11.get _ _ (show ¬ H1.next = H3.next by omega) a10
  have w11 := m11.get _ _ (show ¬ H2.next = H3.next by omega) w10
  have gg11 := ((gg8.trans g9).ext m10 ok fun x hx => .inr (by omega)).ext m11 ok fun x hx => .inr (by omega)
  have n9 := g9.next
  refine ⟨_, _, _, _, rfl, H10, s10, _, store_of (o := 1) b10 (by simp [lset]) rfl, _, _, _, cell_of r11 rfl, cell_of r11 rfl, cell_of r11 rfl, (refcnt_ok (q := (rSig s (rSig s q).2).2) 2048 (by omega) gg11.ok p3.1 hs).mono ?_⟩
  rintro _ H12 ⟨rfl, g12⟩
  obtain ⟨N, hN⟩ : ∃ N, N = (rCnt s 2048 (rSig s (rSig s q).2).2).1 := ⟨_, rfl⟩
  obtain ⟨q6, hq6⟩ : ∃ q6, q6 = (rCnt s 2048 (rSig s (rSig s q).2).2).2 := ⟨_, rfl⟩
  rw [← hN] at p6
  rw [← hq6] at p6
  have hres : rVtx s q = (⟨(rSig s q).1, (rSig s (rSig s q).2).1, (rMany (rPair s) N q6).1⟩, (rMany (rPair s) N q6).2) := by rw [hN, hq6]; rfl
  rw [hres, ← hN, ← hq6]
  obtain ⟨H13, s13, r13, m13, n13⟩ := rd_put (q' := q6) g12.ok (g12.get _ _ id r11)
  have b13 := m13.get _ _ (show ¬ H3.next = H.next by omega) (g12.get _ _ id b11)
  have a13 := m13.get _ _ (show ¬ H1.next = H.next by omega) (g12.get _ _ id a11)
  have w13 := m13.get _ _ (show ¬ H2.next = H.next by omega) (g12.get _ _ id w11)
  have gg13 := (gg11.trans g12).ext m13 ok fun x hx => .inr (by omega)
  have n12 := g12.next
  have n3' : H3.next < H13.next := by
    have := m13.ok.lt b13
    omega
  refine ⟨_, _, _, _, rfl, H13, s13, ?_⟩
  refine ⟨fun m i6 Hb => ∃ (j k : Nat) (es : List (Int × Int)) (q' : RSt) (a : Option Addr) (l c : Nat), i6 = k ∧ k + j = N ∧ j = m ∧ Hb.get H.next = some (.cells (rdC s q') 0) ∧ AtOk s q' ∧ Hb.get H3.next = some (.cells [.int .i64 (rSig s q).1, .int .i64 (rSig s (rSig s q).2).1, .slice a l c] 0) ∧ Own Hb 2 a l c (es.flatMap edgeC) ∧
      (∀ x, a = some x → H13.next ≤ x.block) ∧ Hb.get H1.next = some (.cells [.string ⟨⟨[]⟩⟩, .int .i64 0, .int .i64 0] 0) ∧ Hb.get H2.next = some (.cells [.int .i64 0, .int .i64 0, .slice none 0 0] 0) ∧ es.length + j ≤ 2048 ∧ es ++ (rMany (rPair s) j q').1 = (rMany (rPair s) N q6).1 ∧ (rMany (rPair s) j q').2 = (rMany (rPair s) N q6).2 ∧ Grow H Hb ∧ H13.next ≤ Hb.next,
    ⟨_, N, 0, [], q6, none, 0, 0, rfl, by omega, rfl, r13, p6.1, b13, Own.nil _ _, fun x e => (by cases e), a13, w13, by simpa using p6.2, rfl, rfl, gg13, Nat.le_refl _⟩, ?_⟩
  rintro m i6 Hb ⟨j, k, es, q', a, l, c, rfl, hkj, rfl, hr, hat, hv, hO, hfar, hz1, hz2, hlen, hl1, hl2, hm, hn⟩
  have hl : l = es.length := by
    have := hO.len
    rw [flatMap_len (sz := 2) (fun _ => rfl)] at this
    omega
  have done : (q'.2 ≠ 0 ∨ j = 0) → es = (rMany (rPair s) N q6).1 ∧ q' = (rMany (rPair s) N q6).2 := fun h => by
    rw [rMany_stop h] at hl1 hl2
    exact ⟨by rw [← hl1, List.append_nil], hl2⟩
  have fin : (q'.2 ≠ 0 ∨ j = 0) → ∀ H3x, Mod (fun x => x = H1.next ∨ x = H2.next) Hb H3x → ∃ ea el ec, Value.tuple ⟨[.agg ⟨[.string ⟨⟨s⟩⟩, .int .i64 (q'.1 : Int), .int .i64 q'.2]⟩, .agg ⟨[.int .i64 (rSig s q).1, .int .i64 (rSig s (rSig s q).2).1, .slice a l c]⟩]⟩ = .tuple ⟨[rdV s (rMany (rPair s) N q6).2, .agg ⟨[.int .i64 (rSig s q).1, .int .i64 (rSig s (rSig s q).2).1, .slice ea el ec]⟩]⟩ ∧
      SlE (fun x => H.next ≤ x ∧ x < H3x.next) H3x ea el (rMany (rPair s) N q6).1 ∧ Grow H H3x := by
    intro h Hx mx
    obtain ⟨d1, d2⟩ := done h
    refine ⟨a, l, c, by rw [← d2], ?_, hm.ext mx ok fun x hx => .inr (by omega)⟩
    rw [← d1]
    exact (edges_sl (F := fun x => H.next ≤ x) (hO.mod mx fun x hx y ey e => by have := hfar y ey; omega) fun x ex => by have := hfar x ex; omega).weak (fun x hx hl => ⟨hx, hl⟩) (edge_lt mx.ok)
  have ret : (q'.2 ≠ 0 ∨ j = 0) → _ := fun h => ret_rv (Q := fun r H' => ∃ ea el ec, r = .tuple ⟨[rdV s (rMany (rPair s) N q6).2, .agg ⟨[.int .i64 (rSig s q).1, .int .i64 (rSig s (rSig s q).2).1, .slice ea el ec]⟩]⟩ ∧ SlE (fun x => H.next ≤ x ∧ x < H'.next) H' ea el (rMany (rPair s) N q6).1 ∧ Grow H H') hm.ok hr hv hz1 hz2 (show H3.next ≠ H1.next by omega) (show H1.next ≠ H2.next by omega) (fin h)
  refine cond_dec (fun hpos => ?_) (fun hz0 => ret (.inr (by omega)))
  refine ⟨_, cell_of hr rfl, cond_intro (fun he => ?_) (fun he => ret (.inl (by simpa using he)))⟩
  have he : q'.2 = 0 := by simpa using he
  have pa := rSig_ok hat
  have pb := rSig_ok pa.1
  intro H15 e15
  obtain ⟨H16, e16, b16, g16, n16⟩ := fresh_store (vs := [.int .i64 0, .int .i64 0]) e15 rfl rfl hm.ok
  have r16 := g16.get _ _ id hr
  refine ⟨H16, e16, _, _, _, cell_of r16 rfl, cell_of r16 rfl, cell_of r16 rfl, (refsig_ok (q := q') g16.ok hat hs).mono ?_⟩
  rintro _ H17 ⟨rfl, g17⟩
  refine ⟨_, _, _, _, rfl, ?_⟩
  intro H18 e18
  obtain ⟨H19, e19, b19, g19, n19⟩ := fresh_store (vs := rdC s (rSig s q').2) e18 rfl rfl g17.ok
  have n17 := g17.next
  refine ⟨H19, e19, _, _, _, cell_of b19 rfl, cell_of b19 rfl, cell_of b19 rfl, (refsig_ok (q := (rSig s q').2) g19.ok pa.1 hs).mono ?_⟩
  rintro _ H20 ⟨rfl, g20⟩
  have n20 := g20.next
  obtain ⟨H21, s21, b21, m21, n21⟩ := rd_put (q' := (rSig s (rSig s q').2).2) g20.ok (g20.get _ _ id b19)
  have r21 := m21.get _ _ (show ¬ H.next = H17.next by omega) (g20.get _ _ id (g19.get _ _ id (g17.get _ _ id r16)))
  obtain ⟨H22, s22, r22, m22, n22⟩ := rd_put (q' := (rSig s (rSig s q').2).2) m21.ok r21
  have x22 : Mod (fun x => x = H17.next ∨ x = H.next) H20 H22 := (m21.le (fun x hx _ => .inl hx) g20.ok).trans (m22.le (fun x hx _ => .inr hx) m21.ok)
  have g1720 := (g17.trans g19).trans g20
  have e22 := x22.get _ _ (show ¬ (Hb.next = H17.next ∨ Hb.next = H.next) by omega) (g1720.get _ _ id b16)
  have m23 := Mod.set m22.ok e22 (.cells (lset [.int .i64 0, .int .i64 0] 0 [.int .i64 (rSig s q').1]) 0)
  have e23 := get_set_self H22 Hb.next (.cells (lset [.int .i64 0, .int .i64 0] 0 [.int .i64 (rSig s q').1]) 0)
  have m24 := Mod.set m23.ok e23 (.cells (lset [.int .i64 (rSig s q').1, .int .i64 0] 1 [.int .i64 (rSig s (rSig s q').2).1]) 0)
  have e24 := get_set_self (H22.set Hb.next (.cells (lset [.int .i64 0, .int .i64 0] 0 [.int .i64 (rSig s q').1]) 0)) Hb.next (.cells (lset [.int .i64 (rSig s q').1, .int .i64 0] 1 [.int .i64 (rSig s (rSig s q').2).1]) 0)
  obtain ⟨H23, h23⟩ : ∃ x, x = H22.set Hb.next (.cells (lset [.int .i64 0, .int .i64 0] 0 [.int .i64 (rSig s q').1]) 0) := ⟨_, rfl⟩
  rw [← h23] at m23 e23 m24 e24
  obtain ⟨H24, h24⟩ : ∃ x, x = H23.set Hb.next (.cells (lset [.int .i64 (rSig s q').1, .int .i64 0] 1 [.int .i64 (rSig s (rSig s q').2).1]) 0) := ⟨_, rfl⟩
  rw [← h24] at m24 e24
  have x24 : Mod (fun x => x = H.next ∨ Hb.next ≤ x) Hb H24 :=
    ((((g16.trans g1720).le (fun _ h _ => h.elim) hm.ok).ext x22 hm.ok fun x hx => .inl (by omega)).ext m23 hm.ok fun x hx => .inl (by omega)).ext m24 hm.ok fun x hx => .inl (by omega)
  have hlow : ∀ {x : Nat}, x ≠ H.next → x < Hb.next → ¬ (x = H.next ∨ Hb.next ≤ x) := fun h1 h2 h => by omega
  have hv24 := x24.get _ _ (hlow (show H3.next ≠ H.next by omega) (by omega)) hv
  have hn24 : Hb.next + 1 ≤ H24.next := by have := m24.ok.lt e24; omega
  have n23 : H23.next = H22.next := by rw [h23]; rfl
  have n24 : H24.next = H23.next := by rw [h24]; rfl
  refine ⟨_, _, _, _, rfl, H21, s21, _, _, _, cell_of b21 rfl, cell_of b21 rfl, cell_of b21 rfl, H22, s22, H23, by rw [h23]; exact store_of (o := 0) e22 (by simp) rfl, H24, by rw [h24]; exact store_of (o := 1) e23 (by simp) rfl, _, _, _, cell_of hv24 rfl, _, _, cell_of e24 rfl, cell_of e24 rfl, ?_⟩
  intro H25 e25
  have g25 : Grow H24 H25 := e25 ▸ Grow.new m24.ok _
  have n25 : H25.next = H24.next + 1 := by rw [e25]; rfl
  have hO25 := (hO.mod x24 fun x hx y ey e => by
    have h1 := hfar y ey
    have h2 := own_lt hO hm.ok ey
    omega).mod g25 fun _ h => h.elim
  obtain ⟨H26, k1, k2, k3, k4⟩ := hO25.append (n := 1) (bytes := 16) (new := [.int .i64 (rSig s q').1, .int .i64 (rSig s (rSig s q').2).1]) (x := .slice (some ⟨H24.next, 0, none⟩) 1 2) g25.ok rfl (takev_new e25 rfl) (by omega) rfl rfl (by omega) (by omega)
  have lowS : ∀ {x : Nat}, x < H13.next → ¬ (¬ Off a x) := fun hx h => h fun z ez e => by have := hfar z ez; omega
  have hv26 := k4.get _ _ (lowS (by omega)) (g25.get _ _ id hv24)
  have m27 := Mod.set k4.ok hv26 (.cells (lset [.int .i64 (rSig s q).1, .int .i64 (rSig s (rSig s q).2).1, .slice a l c] 2 [.slice (some ⟨H25.next, 0, none⟩) (l + 1) (2 * (l + 1) + 1)]) 0)
  refine ⟨_, _, _, H26, k1, _, store_of (o := 2) hv26 (by simp) rfl, ?_⟩
  intro t38 e38
  rw [wrap_i64 (by omega) (by omega)] at e38
  subst e38
  obtain ⟨j, rfl⟩ : ∃ j', j = j' + 1 := ⟨j - 1, by omega⟩
  rw [rMany_go he] at hl1 hl2
  have r24 : H24.get H.next = some (.cells (rdC s (rSig s (rSig s q').2).2) 0) := m24.get _ _ (show ¬ H.next = Hb.next by omega) (m23.get _ _ (show ¬ H.next = Hb.next by omega) r22)
  have up : ∀ {x : Nat} {o : AObj}, x < H13.next → x ≠ H3.next → H24.get x = some o → (H26.set H3.next (.cells (lset [.int .i64 (rSig s q).1, .int .i64 (rSig s (rSig s q).2).1, .slice a l c] 2 [.slice (some ⟨H25.next, 0, none⟩) (l + 1) (2 * (l + 1) + 1)]) 0)).get x = some o :=
    fun h1 h2 h => m27.get _ _ h2 (k4.get _ _ (lowS h1) (g25.get _ _ id h))
  refine ⟨j, by omega, j, k + 1, es ++ [(rPair s q').1], (rPair s q').2, _, _, _, by simp, by omega, rfl, up (by omega) (by omega) r24, pb.1, get_set_self _ _ _, ?_, ?_, ?_, ?_, by rw [List.length_append, List.length_singleton]; omega, ?_, hl2, ?_, ?_⟩
  · rw [List.flatMap_append, List.flatMap_singleton]
    exact k2.mod m27 fun x hx z ez e => by cases ez; simp only at e; omega
  · intro z ez
    cases ez
    simp only; omega
  · exact up (by omega) (by omega) (x24.get _ _ (hlow (show H1.next ≠ H.next by omega) (by omega)) hz1)
  · exact up (by omega) (by omega) (x24.get _ _ (hlow (show H2.next ≠ H.next by omega) (by omega)) hz2)
  · rw [List.append_assoc]; exact hl1
  · refine (((hm.ext x24 ok fun x hx => .inr (by omega)).add g25).ext k4 ok fun x hx => .inr ?_).ext m27 ok fun x hx => .inr (by omega)
    obtain ⟨z, ez, rfl⟩ := off_not hx
    have := hfar z ez
    omega
  · show H13.next ≤ H26.next
    omega

theorem refgraph_ok (ok : Ok H) (hp : AtOk s q) (hs : s.length ≤ 4611686018427387904) :
    FW Ee F_cohortref03_Take [rdV s q] H fun r H' => ∃ a l c, r = .tuple ⟨[rdV s (rGraph s q).2, .slice a l c]⟩ ∧ SlV (fun x => H.next ≤ x ∧ x < H'.next) H' a l (rGraph s q).1 ∧ Grow H H' := by
  refine fw_cohortref03_Take ?_
  intro H1 e1 H2 e2 H3 e3
  obtain ⟨g2, r2, a2, n1, n2⟩ := two_new ok e1 e2
  have g3 : Grow H2 H3 := e3 ▸ Grow.new g2.ok _
  have w3 : H3.get H2.next = some (.cells [] 0) := e3 ▸ get_new_self _ _
  have n3 : H3.next = H2.next + 1 := by rw [e3]; rfl
  have r3 := g3.get _ _ id r2
  have a3 := g3.get _ _ id a2
  have gg := g2.trans g3
  have p3 := rCnt_ok (m := 256) hp
  refine ⟨_, _, _, cell_of r3 rfl, cell_of r3 rfl, cell_of r3 rfl, (refcnt_ok (q := q) 256 (by omega) gg.ok hp hs).mono ?_⟩
  rintro _ H4 ⟨rfl, g4⟩
  have hGI := (rGraph_ok hp).2
  obtain ⟨N, hN⟩ : ∃ N, N = (rCnt s 256 q).1 := ⟨_, rfl⟩
  obtain ⟨q3, hq3⟩ : ∃ q3, q3 = (rCnt s 256 q).2 := ⟨_, rfl⟩
  have hres : rGraph s q = ((rMany (rVtx s) N q3).1, if (rMany (rVtx s) N q3).2.2 = 0 then ((rMany (rVtx s) N q3).2.1, chk (rMany (rVtx s) N q3).1) else (rMany (rVtx s) N q3).2) := by rw [hN, hq3]; rfl
  rw [hres] at hGI ⊢
  rw [← hN] at p3
  rw [← hq3] at p3
  rw [← hN, ← hq3]
  obtain ⟨H5, s5, r5, m5, n5⟩ := rd_put (q' := q3) g4.ok (g4.get _ _ id r3)
  have a5 := m5.get _ _ (show ¬ H1.next = H.next by omega) (g4.get _ _ id a3)
  have w5 := m5.get _ _ (show ¬ H2.next = H.next by omega) (g4.get _ _ id w3)
  have gg5 := (gg.trans g4).ext m5 ok fun x hx => .inr (by omega)
  have n4 := g4.next
  refine ⟨_, _, _, _, rfl, H5, s5, ?_⟩
  refine ⟨fun m a l c i6 Hb => ∃ (j k : Nat) (ps : List (Vtx × Option Addr × Nat × Nat)) (q' : RSt), i6 = k ∧ k + j = N ∧ j = m ∧ Hb.get H.next = some (.cells (rdC s q') 0) ∧ AtOk s q' ∧ Own Hb 3 a l c (ps.flatMap vtxC) ∧
      (∀ x, a = some x → H2.next ≤ x.block) ∧ (∀ p ∈ ps, SlE (fun x => H2.next ≤ x ∧ x < Hb.next ∧ Off a x) Hb p.2.1 p.2.2.1 p.1.edges) ∧ Hb.get H1.next = some (.cells [.string ⟨⟨[]⟩⟩, .int .i64 0, .int .i64 0] 0) ∧ ps.length + j ≤ 256 ∧ ps.map (·.1) ++ (rMany (rVtx s) j q').1 = (rMany (rVtx s) N q3).1 ∧ (rMany (rVtx s) j q').2 = (rMany (rVtx s) N q3).2 ∧ Grow H Hb ∧ H2.next ≤ Hb.next,
    ⟨_, N, 0, [], q3, rfl, by omega, rfl, r5, p3.1, Own.empty 3 w5, fun x e => (by cases e; exact Nat.le_refl _), fun p hp => (by simp at hp), a5, by simpa using p3.2, rfl, rfl, gg5, by omega⟩, ?_⟩
  rintro m a l c i6 Hb ⟨j, k, ps, q', rfl, hkj, rfl, hr, hat, hO, hfar, hes, hz, hlen, hl1, hl2, hm, hn⟩
  have done : (q'.2 ≠ 0 ∨ j = 0) → ps.map (·.1) = (rMany (rVtx s) N q3).1 ∧ q' = (rMany (rVtx s) N q3).2 := fun h => by
    rw [rMany_stop h] at hl1 hl2
    exact ⟨by rw [← hl1, List.append_nil], hl2⟩
  have slv : SlV (fun x => H2.next ≤ x ∧ x < Hb.next) Hb a l (ps.map (·.1)) :=
    vtxs_sl hO (fun x ex => ⟨hfar x ex, own_lt hO hm.ok ex⟩) fun p hp => (hes p hp).weak (fun x hx _ => ⟨hx.1, hx.2.1⟩) (edge_lt hm.ok)
  have last : ∀ {Hx : AH}, (q'.2 ≠ 0 ∨ j = 0) → SlV (fun x => H2.next ≤ x ∧ x < Hb.next) Hx a l (ps.map (·.1)) → Ok Hx → Hb.next ≤ Hx.next → SlV (fun x => H.next ≤ x ∧ x < Hx.next) Hx a l (rMany (rVtx s) N q3).1 := by
    intro Hx h this okx hnx
    rw [← (done h).1]
    refine ⟨this.len, fun hp => ⟨(this.base hp).1, by have := (this.base hp).2.1; omega, by have := (this.base hp).2.2; omega⟩, fun i hi => ?_⟩
    obtain ⟨c1, c2, ea, el, ec, c3, c4⟩ := this.cells i hi
    exact ⟨c1, c2, ea, el, ec, c3, c4.weak (fun x hx _ => ⟨by omega, by omega⟩) (edge_lt okx)⟩
  have fin : (q'.2 ≠ 0 ∨ j = 0) → ∃ (t36 : Int), Hb.cell H.next 2 = some (.int .i64 t36) ∧
      cond (t36 == 0) (
        FW Ee F_cohortref03_Check [.slice a l c] Hb fun v_2 H15 =>
          ∃ (r39 : Int), v_2 = .int .i64 r39 ∧ ∃ (H16 : AH), storeCellsv H15 H.next 2 [.int .i64 r39] = some H16 ∧
            ∃ (t41_S : List UInt8) (t41_At : Int) (t41_Err : Int), H16.cell H.next (0 + 0) = some (.string ⟨⟨t41_S⟩⟩) ∧ H16.cell H.next (0 + 1) = some (.int .i64 t41_At) ∧ H16.cell H.next (0 + 2) = some (.int .i64 t41_Err) ∧
            ∃ (H17 : AH), storeCellsv H16 H1.next 0 [.string ⟨⟨t41_S⟩⟩, .int .i64 t41_At, .int .i64 t41_Err] = some H17 ∧
            ∃ (r2_S : List UInt8) (r2_At : Int) (r2_Err : Int), H17.cell H1.next (0 + 0) = some (.string ⟨⟨r2_S⟩⟩) ∧ H17.cell H1.next (0 + 1) = some (.int .i64 r2_At) ∧ H17.cell H1.next (0 + 2) = some (.int .i64 r2_Err) ∧
            ∃ a_1 l_1 c_1, Value.tuple ⟨[.agg ⟨[.string ⟨⟨r2_S⟩⟩, .int .i64 r2_At, .int .i64 r2_Err]⟩, .slice a l c]⟩ = .tuple ⟨[rdV s (if (rMany (rVtx s) N q3).2.2 = 0 then ((rMany (rVtx s) N q3).2.1, chk (rMany (rVtx s) N q3).1) else (rMany (rVtx s) N q3).2), .slice a_1 l_1 c_1]⟩ ∧ SlV (fun x => H.next ≤ x ∧ x < H17.next) H17 a_1 l_1 (rMany (rVtx s) N q3).1 ∧ Grow H H17) (
        ∃ (t41_S : List UInt8) (t41_At : Int) (t41_Err : Int), Hb.cell H.next (0 + 0) = some (.string ⟨⟨t41_S⟩⟩) ∧ Hb.cell H.next (0 + 1) = some (.int .i64 t41_At) ∧ Hb.cell H.next (0 + 2) = some (.int .i64 t41_Err) ∧
            ∃ (H17 : AH), storeCellsv Hb H1.next 0 [.string ⟨⟨t41_S⟩⟩, .int .i64 t41_At, .int .i64 t41_Err] = some H17 ∧
            ∃ (r2_S : List UInt8) (r2_At : Int) (r2_Err : Int), H17.cell H1.next (0 + 0) = some (.string ⟨⟨r2_S⟩⟩) ∧ H17.cell H1.next (0 + 1) = some (.int .i64 r2_At) ∧ H17.cell H1.next (0 + 2) = some (.int .i64 r2_Err) ∧
            ∃ a_1 l_1 c_1, Value.tuple ⟨[.agg ⟨[.string ⟨⟨r2_S⟩⟩, .int .i64 r2_At, .int .i64 r2_Err]⟩, .slice a l c]⟩ = .tuple ⟨[rdV s (if (rMany (rVtx s) N q3).2.2 = 0 then ((rMany (rVtx s) N q3).2.1, chk (rMany (rVtx s) N q3).1) else (rMany (rVtx s) N q3).2), .slice a_1 l_1 c_1]⟩ ∧ SlV (fun x => H.next ≤ x ∧ x < H17.next) H17 a_1 l_1 (rMany (rVtx s) N q3).1 ∧ Grow H H17) := by
    intro hend
    obtain ⟨d1, d2⟩ := done hend
    refine ⟨_, cell_of hr rfl, cond_intro (fun he => ?_) (fun he => ?_)⟩
    · have he : q'.2 = 0 := by simpa using he
      have hfit : Fit (ps.map (·.1)) := by rw [d1]; exact hGI.fit
      refine (rcheck_ok slv hfit).mono ?_
      rintro _ _ ⟨rfl, rfl⟩
      have hr' : Rd Hb H.next s q'.1 q'.2 := hr
      obtain ⟨H16, k1, k2, k3⟩ := hr'.err hm.ok (chk (ps.map (·.1)))
      refine ⟨_, rfl, H16, k1, ret_rd (Q := fun r H17 => ∃ a_1 l_1 c_1, r = .tuple ⟨[rdV s (if (rMany (rVtx s) N q3).2.2 = 0 then ((rMany (rVtx s) N q3).2.1, chk (rMany (rVtx s) N q3).1) else (rMany (rVtx s) N q3).2), .slice a_1 l_1 c_1]⟩ ∧ SlV (fun x => H.next ≤ x ∧ x < H17.next) H17 a_1 l_1 (rMany (rVtx s) N q3).1 ∧ Grow H H17) k3.ok k2 (k3.get _ _ (by omega) hz) fun Hx mx => ⟨a, l, c, ?_, ?_, (hm.ext k3 ok fun x hx => .inr (by omega)).ext mx ok fun x hx => .inr (by omega)⟩⟩
      · rw [d1, ← d2, if_pos he]
      · exact last hend ((slv.mod loc_vtx k3 fun x hx e => by have := hx.1; omega).mod loc_vtx mx fun x hx e => by have := hx.1; omega) mx.ok (by have := k3.next; have := mx.next; omega)
    · have he : q'.2 ≠ 0 := by simpa using he
      refine ret_rd (Q := fun r H17 => ∃ a_1 l_1 c_1, r = .tuple ⟨[rdV s (if (rMany (rVtx s) N q3).2.2 = 0 then ((rMany (rVtx s) N q3).2.1, chk (rMany (rVtx s) N q3).1) else (rMany (rVtx s) N q3).2), .slice a_1 l_1 c_1]⟩ ∧ SlV (fun x => H.next ≤ x ∧ x < H17.next) H17 a_1 l_1 (rMany (rVtx s) N q3).1 ∧ Grow H H17) hm.ok hr hz fun Hx mx => ⟨a, l, c, ?_, ?_, hm.ext mx ok fun x hx => .inr (by omega)⟩
      · rw [← d2, if_neg he]
      · exact last hend (slv.mod loc_vtx mx fun x hx e => by have := hx.1; omega) mx.ok mx.next
  refine cond_dec (fun hpos => ?_) (fun hz0 => fin (.inr (by omega)))
  refine ⟨_, cell_of hr rfl, cond_intro (fun he => ?_) (fun he => fin (.inl (by simpa using he)))⟩
  have he : q'.2 = 0 := by simpa using he
  refine ⟨_, _, _, cell_of hr rfl, cell_of hr rfl, cell_of hr rfl, (refvtx_ok (q := q') hm.ok hat hs).mono ?_⟩
  rintro _ H7 ⟨ea, el, ec, rfl, hE, g7⟩
  have pv := rVtx_ok hat
  have n7 := g7.next
  refine ⟨_, _, _, _, _, _, _, _, rfl, ?_⟩
  intro H8 e8 H9 e9
  obtain ⟨g9, b9, v9, n8, n9⟩ := two_new g7.ok e8 e9
  have m10 := Mod.set g9.ok b9 (.cells (lset [.string ⟨⟨[]⟩⟩, .int .i64 0, .int .i64 0] 0 (rdC s (rVtx s q').2)) 0)
  have b10 := get_set_self H9 H7.next (.cells (lset [.string ⟨⟨[]⟩⟩, .int .i64 0, .int .i64 0] 0 (rdC s (rVtx s q').2)) 0)
  have v10 := m10.get _ _ (show ¬ H8.next = H7.next by omega) v9
  refine ⟨_, store_of (o := 0) b9 (by simp) rfl, ?_⟩
  obtain ⟨H10, h10⟩ : ∃ x, x = H9.set H7.next (.cells (lset [.string ⟨⟨[]⟩⟩, .int .i64 0, .int .i64 0] 0 (rdC s (rVtx s q').2)) 0) := ⟨_, rfl⟩
  rw [← h10] at m10 b10 v10 ⊢
  have m11 := Mod.set m10.ok v10 (.cells (lset [.int .i64 0, .int .i64 0, .slice none 0 0] 0 (vC (rVtx s q').1 ea el ec)) 0)
  have v11 := get_set_self H10 H8.next (.cells (lset [.int .i64 0, .int .i64 0, .slice none 0 0] 0 (vC (rVtx s q').1 ea el ec)) 0)
  have b11 := m11.get _ _ (show ¬ H7.next = H8.next by omega) b10
  refine ⟨_, store_of (o := 0) v10 (by simp) rfl, ?_⟩
  obtain ⟨H11, h11⟩ : ∃ x, x = H10.set H8.next (.cells (lset [.int .i64 0, .int .i64 0, .slice none 0 0] 0 (vC (rVtx s q').1 ea el ec)) 0) := ⟨_, rfl⟩
  rw [← h11] at m11 b11 v11 ⊢
  have n10 : H10.next = H9.next := by rw [h10]; rfl
  have n11 : H11.next = H10.next := by rw [h11]; rfl
  have g711 : Grow H7 H11 := (g9.ext m10 g7.ok fun x hx => .inr (by omega)).ext m11 g7.ok fun x hx => .inr (by omega)
  have gb11 := g7.trans g711
  obtain ⟨H12, s12, r12, m12, n12⟩ := rd_put (q' := (rVtx s q').2) m11.ok (gb11.get _ _ id hr)
  have v12 := m12.get _ _ (show ¬ H8.next = H.next by have := hm.ok.lt hr; omega) v11
  refine ⟨_, _, _, cell_of b11 rfl, cell_of b11 rfl, cell_of b11 rfl, H12, s12, _, _, _, _, _, cell_of v12 rfl, cell_of v12 rfl, cell_of v12 rfl, ?_⟩
  intro H13 e13
  have hob : ∀ x, a = some x → x.block < Hb.next := fun x ex => own_lt hO hm.ok ex
  have x12 : Mod (· = H.next) Hb H12 := (gb11.le (fun _ h _ => h.elim) hm.ok).trans m12
  obtain ⟨H14, k1, k2, k3, k4, k5⟩ := vtxs_push (N := H2.next) (v := (rVtx s q').1) m12.ok (hO.mod x12 fun x hx y ey e => by have := hfar y ey; omega) (by omega) (fun p hp => ((hes p hp).mod loc_edge x12 fun x hx e => by have := hx.1; omega).weak (fun x hx _ => ⟨hx.1, by omega, hx.2.2⟩) (edge_lt m12.ok))
    (((hE.grow loc_edge g711).mod loc_edge m12 fun x hx e => by have := hx.1; omega).weak (fun x hx hl => ⟨by omega, hl, Off.of_gt fun y ey => by have := hob y ey; omega⟩) (edge_lt m12.ok)) e13 (by omega)
  have n13 : H13.next = H12.next + 1 := by rw [e13]; rfl
  have g13 : Grow H12 H13 := e13 ▸ Grow.new m12.ok _
  refine ⟨_, _, _, H14, k1, ?_⟩
  intro t24 e24
  rw [wrap_i64 (by omega) (by omega)] at e24
  subst e24
  obtain ⟨j, rfl⟩ : ∃ j', j = j' + 1 := ⟨j - 1, by omega⟩
  rw [rMany_go he] at hl1 hl2
  have lowS : ∀ {x : Nat}, x < H2.next → ¬ (¬ Off a x) := fun hx h => h fun z ez e => by have := hfar z ez; omega
  refine ⟨j, by omega, j, k + 1, ps ++ [((rVtx s q').1, ea, el, ec)], (rVtx s q').2, by simp, by omega, rfl, ?_, pv.1, k2, ?_, k5, ?_, by rw [List.length_append, List.length_singleton]; omega, ?_, hl2, ?_, ?_⟩
  · exact k4.get _ _ (lowS (by omega)) (g13.get _ _ id r12)
  · intro z ez
    cases ez
    simp only; omega
  · exact k4.get _ _ (lowS (by omega)) (g13.get _ _ id (x12.get _ _ (show ¬ H1.next = H.next by omega) hz))
  · rw [List.map_append, List.append_assoc]; exact hl1
  · refine ((hm.ext x12 ok fun x hx => .inr (by omega)).add g13).ext k4 ok fun x hx => .inr ?_
    obtain ⟨z, ez, rfl⟩ := off_not hx
    have := hfar z ez
    omega
  · omega
end
end Go.Proofs.Cx

namespace Go.Ev
open Go
def strV (x : List UInt8) : Value := .string ⟨⟨x⟩⟩
def pTri : List UInt8 := [116, 114, 105, 97, 110, 103, 108, 101, 115]
def pMat : List UInt8 := [109, 97, 116, 99, 104, 105, 110, 103]
def pCol : List UInt8 := [99, 111, 108, 111, 114, 115]
def pDeg : List UInt8 := [100, 101, 103, 114, 101, 101]
def pCc : List UInt8 := [99, 99]
theorem progs_len : progs.length = 10 := rfl
theorem progs_less : ∀ i k : Fin 10, Op.bytesLess (progs[i.val]'(by rw [progs_len]; exact i.isLt)) (progs[k.val]'(by rw [progs_len]; exact k.isLt)) = decide (i.val < k.val) := by decide +kernel
theorem mem_progs {p : List UInt8} : p ∈ progs ↔ p = pBfs ∨ p = pCc ∨ p = pCol ∨ p = pDeg ∨ p = pCore ∨ p = pLab ∨ p = pMat ∨ p = pRank ∨ p = pSssp ∨ p = pTri := by
  unfold progs
  simp only [List.mem_cons, List.not_mem_nil, or_false]
  rfl
section
variable {G : List Vtx} {ps : List Int} {p : List UInt8}
open Classical in
theorem pchk_bfs : pchk pBfs G ps = if Src G ps then 0 else 71 := by unfold pchk; rw [if_pos rfl]
open Classical in
theorem pchk_sssp : pchk pSssp G ps = if Src G ps ∧ NoNeg G then 0 else 71 := by unfold pchk; rw [if_neg (by decide), if_pos rfl]
open Classical in
theorem pchk_turns (h : p = pRank ∨ p = pLab) : pchk p G ps = if Turns1 100 ps then 0 else 71 := by
  unfold pchk
  rw [if_neg (by rcases h with rfl | rfl <;> decide), if_neg (by rcases h with rfl | rfl <;> decide), if_pos h]
open Classical in
theorem pchk_core : pchk pCore G ps = if Turns1 256 ps then 0 else 71 := by unfold pchk; rw [if_neg (by decide), if_neg (by decide), if_neg (by decide), if_pos rfl]
open Classical in
theorem pchk_none (h1 : p ≠ pBfs) (h2 : p ≠ pSssp) (h3 : p ≠ pRank) (h4 : p ≠ pLab) (h5 : p ≠ pCore) : pchk p G ps = if p ∈ progs then (if ps = [] then 0 else 71) else 70 := by
  unfold pchk
  rw [if_neg h1, if_neg h2, if_neg (by simp [h3, h4]), if_neg h5]
end
theorem May.edge {G : List Vtx} (h : May G) {v : Vtx} (hv : v ∈ G) : v.edges.length ≤ 2048 := by
  have h1 : v.edges.length ≤ nE G := by
    obtain ⟨k, hk, rfl⟩ := List.mem_iff_getElem.1 hv
    have h2 := nE_take hk
    have h3 := nE_take_le G (k + 1)
    omega
  have h4 := h.many
  omega
theorem str_eq {x y : List UInt8} : (x == y) = true ↔ x = y := beq_iff_eq
end Go.Ev
namespace Go.Proofs.Cx
open Go Go.Ev

/-- all edges, one behind the other; a round may end them -/
theorem all3_ok {F S : Nat → Prop} {tb y : Nat} {a : Option Addr} {l c : Nat} {H : AH} {G : List Vtx} {R : List (Int × Int × Int) → AH → Prop} {Stop : AH → Prop} (ok : Ok H) (hG : SlV F H a l G) (hl : l ≤ 4611686018427387904) (hE : ∀ v ∈ G, v.edges.length * 16 ≤ 140737488355328)
    (ht : H.cell tb 0 = some (.slice a l c)) (hS : ∀ b, S b → b < H.next ∧ ¬ F b)
    (h0 : R [] H) (hst : ∀ done H1 H2, R done H1 → Grow H1 H2 → R done H2)
    (hR : ∀ done x rest H1, flatE G = done ++ x :: rest → R done H1 → Ok H1 → Mod S H H1 → RW Ee y [.int .i64 x.1, .agg ⟨[.int .i64 x.2.1, .int .i64 x.2.2]⟩] H1 fun v H2 => (v = .bool true ∧ R (done ++ [x]) H2 ∧ Mod S H1 H2) ∨ (v = .bool false ∧ Stop H2 ∧ Mod S H1 H2)) :
    FW Ee F_graph_All_1 [.func (.yield y) ⟨[]⟩ ⟨[]⟩, .pointer (some ⟨tb, 0, none⟩)] H fun _ H' => (R (flatE G) H' ∨ Stop H') ∧ Mod S H H' := by
  have hlen := hG.len
  refine fw_graph_All_1 ?_
  refine ⟨a, l, c, ht, ?_⟩
  refine ⟨fun n i H1 => ∃ p : Nat, i = p ∧ p ≤ l ∧ n = l - p ∧ R (flatE (G.take p)) H1 ∧ Mod S H H1, ⟨_, 0, rfl, by omega, rfl, h0, .refl ok⟩, ?_⟩
  rintro n i H1 ⟨p, rfl, hp, rfl, r1, m1⟩
  refine cond_dec (fun hlt => ?_) (fun hge => ?_)
  · have hk : p < G.length := by omega
    obtain ⟨hs, c1, c2, ea, el, ec, c3, c4⟩ := (hG.mod loc_vtx m1 (fun b hb h => (hS b h).2 hb)).nth hk
    have hel := c4.len
    have hfe := hE _ (List.getElem_mem hk)
    refine grd_intro hs ⟨by omega, by omega, _, _, ea, el, ec, c1, c2, c3, ?_⟩
    intro H1' e1'
    obtain ⟨H2, e2, b2, g2, n2⟩ := fresh_store (vs := [.int .i64 G[p].id, .int .i64 G[p].val, .slice ea el ec]) e1' rfl rfl m1.ok
    refine ⟨H2, e2, ea, el, ec, cell_of b2 rfl, ?_⟩
    refine ⟨fun n k H3 => ∃ j : Nat, k = j ∧ j ≤ el ∧ n = el - j ∧ R (flatE (G.take p) ++ (G[p].edges.take j).map fun e => (G[p].id, e)) H3 ∧ Mod S H H3 ∧ Mod S H1 H3 ∧ H3.get H1.next = some (.cells [.int .i64 G[p].id, .int .i64 G[p].val, .slice ea el ec] 0),
      ⟨_, 0, rfl, by omega, rfl, by simpa using hst _ _ _ r1 g2, m1.add g2, (Mod.refl m1.ok).add g2, b2⟩, ?_⟩
    rintro n k H3 ⟨j, rfl, hj, rfl, r3, m3, m13, b3⟩
    refine cond_dec (fun hlt2 => ?_) (fun hge2 => ?_)
    · have hk2 : j < G[p].edges.length := by omega
      obtain ⟨hs2, d1, d2⟩ := (c4.mod loc_edge m13 (fun b hb h => (hS b h).2 hb)).nth hk2
      refine grd_intro hs2 ⟨by omega, by omega, _, _, d1, d2, ?_⟩
      intro H3' e3'
      obtain ⟨H4, e4, b4, g4, n4⟩ := fresh_store (vs := [.int .i64 G[p].edges[j].1, .int .i64 G[p].edges[j].2]) e3' rfl rfl m3.ok
      refine ⟨H4, e4, _, cell_of (g4.get _ _ id b3) rfl, _, _, cell_of b4 rfl, cell_of b4 rfl, ?_⟩
      refine (hR _ (G[p].id, G[p].edges[j]) _ H4 (flatE_split hk hk2) (hst _ _ _ r3 g4) g4.ok (m3.add g4)).mono ?_
      rintro _ H5 (⟨rfl, r5, m5⟩ | ⟨rfl, s5, m5⟩)
      · refine ⟨_, rfl, ?_⟩
        refine cond_neg rfl ?_
        intro t27 e27
        rw [wrap_i64 (by omega) (by omega)] at e27
        subst e27
        refine ⟨el - (j + 1), by omega, j + 1, by simp, by omega, rfl, ?_, ?_, ?_, ?_⟩
        · rw [List.take_succ_eq_append_getElem hk2, List.map_append, ← List.append_assoc]; exact r5
        · exact (m3.add g4).trans m5
        · exact (m13.add g4).trans m5
        · exact m5.get _ _ (fun h => by have := (hS _ h).1; have := m1.next; omega) (g4.get _ _ id b3)
      · exact ⟨_, rfl, cond_pos rfl ⟨.inr s5, (m3.add g4).trans m5⟩⟩
    · intro t28 e28
      rw [wrap_i64 (by omega) (by omega)] at e28
      subst e28
      refine ⟨l - (p + 1), by omega, p + 1, by simp, by omega, rfl, ?_, m3⟩
      rw [flatE_take hk]
      have e3 : G[p].edges.take j = G[p].edges := List.take_of_length_le (by omega)
      rw [e3] at r3
      exact r3
  · refine ⟨.inl ?_, m1⟩
    rw [List.take_of_length_le (by omega)] at r1
    exact r1

/-! programs' names -/
theorem snan_ok {x : List UInt8} {H : AH} : FW Ee F_cmp_isNaN_string [.string ⟨⟨x⟩⟩] H fun r H' => r = .bool false ∧ H = H' := by
  refine fw_cmp_isNaN_string ?_
  exact ⟨by simp, rfl⟩
theorem snan2_ok {x : List UInt8} {H : AH} : FW Ee F_slices_isNaN_string [.string ⟨⟨x⟩⟩] H fun r H' => r = .bool false ∧ H = H' := by
  refine fw_slices_isNaN_string ?_
  exact ⟨by simp, rfl⟩
theorem sless_ok {x y : List UInt8} {H : AH} : FW Ee F_cmp_Less_string [.string ⟨⟨x⟩⟩, .string ⟨⟨y⟩⟩] H fun r H' => r = .bool (Op.bytesLess x y) ∧ H = H' := by
  refine fw_cmp_Less_string ?_
  refine snan_ok.mono ?_
  rintro _ _ ⟨rfl, rfl⟩
  exact ⟨_, rfl, cond_neg rfl ⟨rfl, rfl⟩⟩
theorem progs_cell {H : AH} {b : Nat} (h : H.get b = some (.cells (progs.map strV) 0)) {k : Nat} (hk : k < progs.length) : H.cell b (0 + k * 1) = some (.string ⟨⟨progs[k]⟩⟩) := by
  rw [Nat.zero_add, Nat.mul_one]
  refine cell_of h ?_
  rw [List.getElem?_map, List.getElem?_eq_getElem hk]; rfl
theorem bsearch_str {H : AH} {b : Nat} {p : List UInt8} (h : H.get b = some (.cells (progs.map strV) 0)) :
    FW Ee F_slices_BinarySearch_L_string_string [.slice (some ⟨b, 0, none⟩) 10 20, .string ⟨⟨p⟩⟩] H fun r H' => ∃ i : Int, r = .tuple ⟨[.int .i64 i, .bool (decide (p ∈ progs))]⟩ ∧ H = H' := by
  have hl := progs_len
  refine fw_slices_BinarySearch_L_string_string ?_
  refine ⟨fun m i j Hx => H = Hx ∧ ∃ x y : Nat, i = x ∧ j = y ∧ x ≤ y ∧ y ≤ 10 ∧ m = y - x ∧ ∀ k (hk : k < progs.length), progs[k] = p → x ≤ k ∧ k ≤ y, ⟨_, rfl, 0, 10, rfl, rfl, by omega, by omega, rfl, fun k hk _ => by omega⟩, ?_⟩
  rintro m i j Hx ⟨rfl, x, y, rfl, rfl, hxy, hy, rfl, hin⟩
  refine cond_dec (fun hlt => ?_) (fun hge => ?_)
  · intro t18 e18
    rw [wrap_i64 (by omega) (by omega)] at e18
    intro t19 e19
    rw [wrap_u64 (by omega) (by omega)] at e19
    have e19 : t19 = ((x + y : Nat) : Int) := by omega
    subst e19
    refine ⟨by omega, ?_⟩
    intro t20 e20
    rw [shr1] at e20
    intro t21 e21
    rw [wrap_i64 (by omega) (by omega)] at e21
    obtain ⟨z, hz⟩ : ∃ z, z = (x + y) / 2 := ⟨_, rfl⟩
    have e21 : t21 = (z : Int) := by omega
    subst e21
    have hzl : z < progs.length := by omega
    refine grd_intro rfl ⟨by omega, by omega, progs[z], ?_, sless_ok.mono ?_⟩
    · rw [show ((z : Int)).toNat = z from by omega]; exact progs_cell h hzl
    rintro _ _ ⟨rfl, rfl⟩
    have less : ∀ k (hk : k < progs.length), progs[k] = p → Op.bytesLess progs[z] p = decide (z < k) := by
      rintro k hk rfl
      exact progs_less ⟨z, by omega⟩ ⟨k, by omega⟩
    refine ⟨_, rfl, cond_intro (fun hb => ?_) (fun hb => ?_)⟩
    · intro t29 e29
      rw [wrap_i64 (by omega) (by omega)] at e29
      subst e29
      refine ⟨y - (z + 1), by omega, rfl, z + 1, y, by simp, rfl, by omega, hy, rfl, fun k hk hp => ?_⟩
      have h1 := hin k hk hp
      have h2 := less k hk hp
      rw [hb] at h2
      have : z < k := of_decide_eq_true h2.symm
      omega
    · refine ⟨z - x, by omega, rfl, x, z, rfl, rfl, by omega, by omega, rfl, fun k hk hp => ?_⟩
      have h1 := hin k hk hp
      have h2 := less k hk hp
      rw [hb] at h2
      have : ¬ z < k := of_decide_eq_false h2.symm
      omega
  · have hyx : y = x := by omega
    subst hyx
    refine cond_dec (fun hlt => ?_) (fun hge2 => ⟨y, ?_, rfl⟩)
    · have hxl : y < progs.length := by omega
      have hc : H.cell (adr (some ⟨b, 0, none⟩)).block ((adr (some ⟨b, 0, none⟩)).off + ((y : Int)).toNat * 1) = some (.string ⟨⟨progs[y]⟩⟩) := by
        rw [show ((y : Int)).toNat = y from by omega]; exact progs_cell h hxl
      refine grd_intro rfl ⟨by omega, by omega, _, hc, cond_intro (fun he => ⟨y, ?_, rfl⟩) (fun he => ?_)⟩
      · have he : progs[y] = p := str_eq.1 he
        rw [decide_eq_true (by rw [← he]; exact List.getElem_mem hxl)]
      · have he : progs[y] ≠ p := fun h => by rw [h] at he; simp at he
        refine grd_intro rfl ⟨by omega, by omega, _, hc, snan2_ok.mono ?_⟩
        rintro _ _ ⟨rfl, rfl⟩
        refine ⟨_, rfl, cond_neg rfl ⟨y, ?_, rfl⟩⟩
        rw [decide_eq_false]
        intro hm
        obtain ⟨k, hk, hkp⟩ := List.mem_iff_getElem.1 hm
        have := hin k hk hkp
        have : k = y := by omega
        subst this
        exact he hkp
    · rw [decide_eq_false]
      intro hm
      obtain ⟨k, hk, hkp⟩ := List.mem_iff_getElem.1 hm
      have := hin k hk hkp
      omega
theorem programs_ok {H : AH} (ok : Ok H) : FW Ee F_kern_Programs [] H fun r H' => r = .slice (some ⟨H.next, 0, none⟩) 10 20 ∧ H'.get H.next = some (.cells (progs.map strV) 0) ∧ Grow H H' := by
  refine fw_kern_Programs ?_
  intro H1 e1
  exact ⟨rfl, e1 ▸ get_new_self _ _, e1 ▸ Grow.new ok _⟩
theorem names_r_ok {H : AH} (ok : Ok H) : FW Ee F_cohortref07_Names [] H fun r H' => r = .slice (some ⟨H.next, 0, none⟩) 10 20 ∧ H'.get H.next = some (.cells (progs.map strV) 0) ∧ Grow H H' := by
  refine fw_cohortref07_Names ?_
  intro H1 e1
  exact ⟨rfl, e1 ▸ get_new_self _ _, e1 ▸ Grow.new ok _⟩
theorem known_ok {H : AH} {p : List UInt8} (ok : Ok H) : FW Ee F_more_Known [.string ⟨⟨p⟩⟩] H fun r H' => r = .bool (decide (p ∈ progs)) ∧ Grow H H' := by
  refine fw_more_Known ?_
  refine (programs_ok ok).mono ?_
  rintro _ H1 ⟨rfl, h1, g1⟩
  refine ⟨_, _, _, rfl, (bsearch_str h1).mono ?_⟩
  rintro _ _ ⟨i, rfl, rfl⟩
  exact ⟨_, _, rfl, rfl, g1⟩
theorem rknown_ok {H : AH} {p : List UInt8} (ok : Ok H) : FW Ee F_cohortref07_Known [.string ⟨⟨p⟩⟩] H fun r H' => r = .bool (decide (p ∈ progs)) ∧ Grow H H' := by
  have hl := progs_len
  refine fw_cohortref07_Known ?_
  refine (names_r_ok ok).mono ?_
  rintro _ H1 ⟨rfl, h1, g1⟩
  refine ⟨_, _, _, rfl, ?_⟩
  refine ⟨fun m _ i Hx => H1 = Hx ∧ ∃ x : Nat, i = x ∧ x ≤ 10 ∧ m = 10 - x ∧ ∀ k (hk : k < progs.length), k < x → progs[k] ≠ p, ⟨_, rfl, 0, rfl, by omega, rfl, fun k _ h => by omega⟩, ?_⟩
  rintro m t i Hx ⟨rfl, x, rfl, hx, rfl, hno⟩
  refine cond_dec (fun hlt => ?_) (fun hge => ?_)
  · have hxl : x < progs.length := by omega
    refine grd_intro rfl ⟨by omega, by omega, progs[x], ?_, cond_intro (fun he => ⟨?_, g1⟩) (fun he => ?_)⟩
    · rw [show ((x : Int)).toNat = x from by omega]; exact progs_cell h1 hxl
    · have he : progs[x] = p := str_eq.1 he
      rw [decide_eq_true (by rw [← he]; exact List.getElem_mem hxl)]
    · have he : progs[x] ≠ p := fun h => by rw [h] at he; simp at he
      intro t11 e11
      rw [wrap_i64 (by omega) (by omega)] at e11
      subst e11
      refine ⟨10 - (x + 1), by omega, rfl, x + 1, by simp, by omega, rfl, fun k hk hkx => ?_⟩
      rcases Nat.lt_or_ge k x with h | h
      · exact hno k hk h
      · have : k = x := by omega
        subst this; exact he
  · refine ⟨?_, g1⟩
    rw [decide_eq_false]
    intro hm
    obtain ⟨k, hk, hkp⟩ := List.mem_iff_getElem.1 hm
    exact hno k hk (by omega) hkp

/-! parameters -/
theorem one_param {ps : List Int} (h : ps.length = 1) : ps = [ps[0]] := by
  match ps, h with
  | [x], _ => rfl
section
variable {Fp : Nat → Prop} {pa : Option Addr} {pl pc : Nat} {ps : List Int} {H : AH}
open Classical in
theorem turns_ok (hP : SlI Fp H pa pl ps) : FW Ee F_kern_Turns [.slice pa pl pc] H fun r H' => r = .int .i64 (if Turns1 100 ps then 0 else 71) ∧ H = H' := by
  have hlen := hP.len
  refine fw_kern_Turns ?_
  refine cond_intro (fun h => ⟨?_, rfl⟩) (fun h => ?_)
  · rw [if_neg]
    rintro ⟨x, rfl, _⟩
    rw [hlen] at h; simp at h
  have h : pl = 1 := by
    have : ((pl : Nat) : Int) = 1 := by simpa using h
    omega
  have h1 : ps.length = 1 := by omega
  have hps := one_param h1
  obtain ⟨hs, c0⟩ := hP.nth (k := 0) (by omega)
  refine grd_intro hs ⟨by omega, by omega, _, c0, cond_dec (fun h => ⟨?_, rfl⟩) (fun h => ?_)⟩
  · rw [if_neg]
    rintro ⟨x, e, h2, _⟩
    have : ps[0] = x := by simp only [e, List.getElem_cons_zero]
    omega
  refine grd_intro hs ⟨by omega, by omega, _, c0, cond_dec (fun h => ⟨?_, rfl⟩) (fun h => ⟨?_, rfl⟩)⟩
  · rw [if_neg]
    rintro ⟨x, e, _, h2⟩
    have : ps[0] = x := by simp only [e, List.getElem_cons_zero]
    omega
  · rw [if_pos ⟨_, hps, by omega, by omega⟩]
open Classical in
theorem none_ok (hP : SlI Fp H pa pl ps) : FW Ee F_kern_None [.slice pa pl pc] H fun r H' => r = .int .i64 (if ps = [] then 0 else 71) ∧ H = H' := by
  have hlen := hP.len
  refine fw_kern_None ?_
  refine cond_intro (fun h => ⟨?_, rfl⟩) (fun h => ⟨?_, rfl⟩)
  · rw [if_neg]
    rintro rfl
    rw [hlen] at h; simp at h
  · rw [if_pos]
    have : ((pl : Nat) : Int) = 0 := by simpa using h
    exact List.length_eq_zero_iff.1 (by omega)
open Classical in
theorem source_ok {F : Nat → Prop} {a : Option Addr} {l c : Nat} {G : List Vtx} (ok : Ok H) (hG : SlV F H a l G) (hl : l ≤ 4611686018427387904) (hr : Rising G) (hP : SlI Fp H pa pl ps) :
    FW Ee F_kern_Source [.agg ⟨[.slice a l c]⟩, .slice pa pl pc] H fun r H' => r = .int .i64 (if Src G ps then 0 else 71) ∧ Grow H H' := by
  have hlen := hP.len
  refine fw_kern_Source ?_
  intro H1 e1
  have g1 : Grow H H1 := e1 ▸ Grow.new ok _
  have b1 : H1.get H.next = some (.cells [.slice a l c] 0) := e1 ▸ get_new_self _ _
  refine cond_intro (fun h => ⟨?_, g1⟩) (fun h => ?_)
  · rw [if_neg]
    rintro ⟨x, rfl, _⟩
    rw [hlen] at h; simp at h
  have h : pl = 1 := by
    have : ((pl : Nat) : Int) = 1 := by simpa using h
    omega
  have h1 : ps.length = 1 := by omega
  have hps := one_param h1
  obtain ⟨hs, c0⟩ := (hP.grow loc_int g1).nth (k := 0) (by omega)
  refine ⟨_, _, _, cell_of b1 rfl, grd_intro hs ⟨by omega, by omega, _, c0, (gfind_ok g1.ok (hG.grow loc_vtx g1) hl hr).mono ?_⟩⟩
  rintro _ H2 ⟨rfl, g2⟩
  refine ⟨_, _, rfl, cond_intro (fun h => ⟨?_, g1.trans g2⟩) (fun h => ⟨?_, g1.trans g2⟩)⟩
  · rw [if_neg]
    rintro ⟨x, e, h2⟩
    have : ps[0] = x := by simp only [e, List.getElem_cons_zero]
    rw [this, h2] at h
    cases h
  · rw [if_pos ⟨_, hps, by simpa using h⟩]
end
end Go.Proofs.Cx
