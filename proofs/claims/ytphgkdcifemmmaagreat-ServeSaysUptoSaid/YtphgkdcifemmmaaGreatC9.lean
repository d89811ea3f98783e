/- What is said, as bytes: jobs, tasks and outcomes that may be none; messages between masters, taken. What is said, as bytes: serve.Encode. What is said, as bytes: serve.Decode, of any bytes. -/
import Derived.Test.YtphgkdcifemmmaaGreatC8
namespace Go.Ev
open Go
structure VtxA (v : Vtx) : Prop where
  id : I64 v.id
  val : I64 v.val
  len : v.edges.length ≤ 1048576
  edges : ∀ e ∈ v.edges, PairI e
structure GraphA (G : List Vtx) : Prop where
  len : G.length ≤ 1048576
  each : ∀ v ∈ G, VtxA v
structure JobA (j : JobW) : Prop where
  prog : j.prog.length ≤ 1048576
  graph : GraphA j.graph
  params : j.params.length ≤ 1048576
  each : ∀ x ∈ j.params, I64 x
  steps : I64 j.steps
  sent : I64 j.sent
  parts : I64 j.parts
theorem vtxA_len {v : Vtx} (h : VtxA v) : (vtxB v).length ≤ 20971600 := by
  have h1 := sgB_len h.id
  have h2 := sgB_len h.val
  have h3 := enc_len64 (show v.edges.length < 18446744073709551616 by have := h.len; omega)
  have h4 := pairs_len h.edges
  have h5 := h.len
  unfold vtxB; simp only [List.length_append]; omega
theorem graphA_len {G : List Vtx} (h : GraphA G) : (graphB G).length ≤ 21990400000000 := by
  have h1 := enc_len64 (show G.length < 18446744073709551616 by have := h.len; omega)
  have h2 := flat_len (B := vtxB) (m := 20971600) (xs := G) fun v hv => vtxA_len (h.each v hv)
  have h3 := h.len
  unfold graphB; simp only [List.length_append]; omega
theorem natsA_len {ns : List Int} (h : ∀ e ∈ ns, I64 e) (hl : ns.length ≤ 1048576) : (natsB ns).length ≤ 10485770 := by
  have h1 := flat_len (B := fun y : Int => enc y.toNat) (m := 10) (xs := ns) fun e he => encI_len (h e he)
  have h2 := enc_len64 (n := ns.length) (by omega)
  unfold natsB; simp only [List.length_append]; omega
theorem valsP_len {vs : List (Int × Int)} (h : ∀ x ∈ vs, I64 x.1 ∧ I64 x.2) : (vs.flatMap valB).length ≤ vs.length * 20 := flatB_len h
theorem outA_len {k er st : Int} {vs : List (Int × Int)} (hk : I64 k) (her : I64 er) (hst : I64 st) (h : ∀ x ∈ vs, I64 x.1 ∧ I64 x.2) (hl : vs.length ≤ 4000000) : (outA k er st vs).length ≤ 80000100 := by
  have h1 := encI_len hk
  have h2 := encI_len her
  have h3 := encI_len hst
  have h4 := enc_len64 (n := vs.length) (by omega)
  have h5 := valsP_len h
  unfold outA; simp only [List.length_append]; omega
def ViewQ (H : AH) (b : Nat) (s : List UInt8) (q : RSt) (r : Value) (H' : AH) : Prop := ∃ f t a l c es q', r = .agg ⟨vwC f t a l c⟩ ∧ (∀ i, Cn (f i)) ∧ t.length ≤ s.length ∧ SlN (fun x => H.next ≤ x ∧ x < H'.next) H' a l es ∧ es.length ≤ 1000 ∧ (∀ e ∈ es, Cn e.1 ∧ e.2.length ≤ s.length) ∧ Rd H' b s q'.1 q'.2 ∧ Tk s q q' (vwB f t es) ∧ Mod (· = b) H H'
end Go.Ev
namespace Go.Proofs.Cx
open Go Go.Ev
section
variable {H : AH} {n0 b : Nat} {bs s : List UInt8} {q : RSt}
theorem putvtx_any {F : Nat → Prop} {ea : Option Addr} {el ec : Nat} {v : Vtx} (ok : Ok H) (hw : Wr H n0 b bs) (hE : SlE F H ea el v.edges) (hF : ∀ x, F x → x < H.next ∧ ¬ WrS H b x) (hI : VtxA v) (hs : bs.length ≤ 140737400000000) :
    FW Ee F_graph_PutVertex [.pointer (some ⟨b, 0, none⟩), .agg ⟨[.int .i64 v.id, .int .i64 v.val, .slice ea el ec]⟩] H fun r H' => r = .tuple ⟨[]⟩ ∧ Wr H' n0 b (bs ++ vtxB v) ∧ WrX H b H' := by
  have hlen := hE.len
  have hle := hI.len
  subst hlen
  refine fw_graph_PutVertex ?_
  intro H1 e1
  have g1 : Grow H H1 := e1 ▸ Grow.new ok _
  have b1 : H1.get H.next = some (.cells [.int .i64 v.id, .int .i64 v.val, .slice ea v.edges.length ec] 0) := e1 ▸ get_new_self _ _
  have n1 : H1.next = H.next + 1 := by rw [e1]; rfl
  have x0 := WrX.grow ok hw g1
  have w1 := hw.grow g1
  have o1 : ¬ WrS H1 b H.next := hw.new ok g1 (Nat.le_refl _)
  have F1 := x0.keep hF
  have E1 := hE.grow loc_edge g1
  have l1 := enc_len64 (fold_lt hI.id)
  have l2 := enc_len64 (fold_lt hI.val)
  have l3 := enc_len64 (show v.edges.length < 18446744073709551616 by omega)
  refine ⟨_, cell_of b1 rfl, (yw_signed g1.ok w1 hI.id (by omega)).mono ?_⟩
  rintro _ H2 ⟨rfl, w2, x2⟩
  refine ⟨rfl, _, cell_of (x2.mod.get _ _ o1 b1) rfl, (yw_signed x2.mod.ok w2 hI.val (by rw [List.length_append]; unfold sgB; omega)).mono ?_⟩
  rintro _ H3 ⟨rfl, w3, x3⟩
  have x13 := x2.trans g1.ok x3
  refine ⟨rfl, _, _, _, cell_of (x13.mod.get _ _ o1 b1) rfl, (yw_count x3.mod.ok w3 (by omega) (by simp only [List.length_append]; unfold sgB; omega)).mono ?_⟩
  rintro _ H4 ⟨rfl, w4, x4⟩
  have x14 := x13.trans g1.ok x4
  refine ⟨rfl, _, _, _, cell_of (x14.mod.get _ _ o1 b1) rfl, ?_⟩
  refine ⟨fun m t Hb => ∃ p : Nat, t = p ∧ p ≤ v.edges.length ∧ m = v.edges.length - p ∧ Wr Hb n0 b (bs ++ sgB v.id ++ sgB v.val ++ enc v.edges.length ++ (v.edges.take p).flatMap pairB) ∧ WrX H1 b Hb,
    ⟨_, 0, rfl, by omega, rfl, by simpa using w4, x14⟩, ?_⟩
  rintro m t H5 ⟨p, rfl, hp, rfl, w5, x5⟩
  refine cond_dec (fun hlt => ?_) (fun hge => ?_)
  · have hpk : p < v.edges.length := by omega
    have E5 := E1.mod loc_edge x5.mod fun x hx => (F1 x hx).2
    obtain ⟨hs1, c1, c2⟩ := E5.nth hpk
    obtain ⟨i1, i2⟩ := hI.edges _ (List.getElem_mem hpk)
    refine grd_intro hs1 ⟨by omega, by omega, _, _, c1, c2, ?_⟩
    intro H6 e6
    obtain ⟨H7, e7, b7, g7, n7⟩ := fresh_store (vs := [.int .i64 v.edges[p].1, .int .i64 v.edges[p].2]) e6 rfl rfl x5.mod.ok
    have hfl := pairsB_take hI.edges p
    have hbl : (bs ++ sgB v.id ++ sgB v.val ++ enc v.edges.length ++ (v.edges.take p).flatMap pairB).length ≤ 140737488350000 := by
      simp only [List.length_append]; unfold sgB; omega
    have o7 : ¬ WrS H7 b H5.next := w5.new x5.mod.ok g7 (Nat.le_refl _)
    have x7 := WrX.grow x5.mod.ok w5 g7
    refine ⟨H7, e7, _, cell_of b7 rfl, (yw_signed g7.ok (w5.grow g7) i1 (by omega)).mono ?_⟩
    rintro _ H8 ⟨rfl, w8, x8⟩
    have l8 := enc_len64 (fold_lt i1)
    refine ⟨rfl, _, cell_of (x8.mod.get _ _ o7 b7) rfl, (yw_signed x8.mod.ok w8 i2 (by rw [List.length_append]; unfold sgB at *; omega)).mono ?_⟩
    rintro _ H9 ⟨rfl, w9, x9⟩
    refine ⟨rfl, ?_⟩
    intro t34 e34
    rw [wrap_i64 (by omega) (by omega)] at e34
    subst e34
    refine ⟨v.edges.length - (p + 1), by omega, p + 1, by simp, by omega, rfl, ?_, ((x5.trans g1.ok x7).trans g1.ok x8).trans g1.ok x9⟩
    rw [take_flat hpk, ← List.append_assoc]
    simpa [pairB] using w9
  · have hpn : p = v.edges.length := by omega
    subst hpn
    rw [List.take_length] at w5
    refine ⟨rfl, ?_, x0.trans ok x5⟩
    unfold vtxB
    simpa only [List.append_assoc] using w5
theorem putgraph_any {F : Nat → Prop} {a : Option Addr} {l c : Nat} {G : List Vtx} (ok : Ok H) (hw : Wr H n0 b bs) (hG : SlV F H a l G) (hF : ∀ x, F x → x < H.next ∧ ¬ WrS H b x) (hI : GraphA G) (hs : bs.length ≤ 110000000000000) :
    FW Ee F_graph_Put [.pointer (some ⟨b, 0, none⟩), .agg ⟨[.slice a l c]⟩] H fun r H' => r = .tuple ⟨[]⟩ ∧ Wr H' n0 b (bs ++ graphB G) ∧ WrX H b H' := by
  have hlen := hG.len
  have hle := hI.len
  subst hlen
  refine fw_graph_Put ?_
  intro H1 e1
  have g1 : Grow H H1 := e1 ▸ Grow.new ok _
  have b1 : H1.get H.next = some (.cells [.slice a G.length c] 0) := e1 ▸ get_new_self _ _
  have n1 : H1.next = H.next + 1 := by rw [e1]; rfl
  have x0 := WrX.grow ok hw g1
  have w1 := hw.grow g1
  have o1 : ¬ WrS H1 b H.next := hw.new ok g1 (Nat.le_refl _)
  have F1 := x0.keep hF
  have G1 := hG.grow loc_vtx g1
  have l3 := enc_len64 (show G.length < 18446744073709551616 by omega)
  refine ⟨_, _, _, cell_of b1 rfl, (yw_count g1.ok w1 (by omega) (by omega)).mono ?_⟩
  rintro _ H2 ⟨rfl, w2, x2⟩
  refine ⟨rfl, _, _, _, cell_of (x2.mod.get _ _ o1 b1) rfl, ?_⟩
  refine ⟨fun m t Hb => ∃ p : Nat, t = p ∧ p ≤ G.length ∧ m = G.length - p ∧ Wr Hb n0 b (bs ++ enc G.length ++ (G.take p).flatMap vtxB) ∧ WrX H1 b Hb,
    ⟨_, 0, rfl, by omega, rfl, by simpa using w2, x2⟩, ?_⟩
  rintro m t H3 ⟨p, rfl, hp, rfl, w3, x3⟩
  refine cond_dec (fun hlt => ?_) (fun hge => ?_)
  · have hpk : p < G.length := by omega
    have G3 := G1.mod loc_vtx x3.mod fun x hx => (F1 x hx).2
    have F3 := x3.keep F1
    obtain ⟨hs1, c1, c2, ea, el, ec, c3, c4⟩ := G3.nth hpk
    refine grd_intro hs1 ⟨by omega, by omega, _, _, ea, el, ec, c1, c2, c3, ?_⟩
    intro H4 e4
    obtain ⟨H5, e5, b5, g5, n5⟩ := fresh_store (vs := [.int .i64 G[p].id, .int .i64 G[p].val, .slice ea el ec]) e4 rfl rfl x3.mod.ok
    have hfl := flat_len (B := vtxB) (m := 20971600) (xs := G.take p) fun v hv => vtxA_len (hI.each v (List.mem_of_mem_take hv))
    rw [List.length_take] at hfl
    have x5 := WrX.grow x3.mod.ok w3 g5
    refine ⟨H5, e5, _, _, _, _, _, cell_of b5 rfl, cell_of b5 rfl, cell_of b5 rfl, (putvtx_any (v := G[p]) g5.ok (w3.grow g5) (c4.grow loc_edge g5) (x5.keep F3) (hI.each _ (List.getElem_mem hpk)) (by simp only [List.length_append]; omega)).mono ?_⟩
    rintro _ H6 ⟨rfl, w6, x6⟩
    refine ⟨rfl, ?_⟩
    intro t21 e21
    rw [wrap_i64 (by omega) (by omega)] at e21
    subst e21
    refine ⟨G.length - (p + 1), by omega, p + 1, by simp, by omega, rfl, ?_, (x3.trans g1.ok x5).trans g1.ok x6⟩
    rw [take_flat hpk, ← List.append_assoc]; exact w6
  · have hpn : p = G.length := by omega
    subst hpn
    rw [List.take_length] at w3
    refine ⟨rfl, ?_, x0.trans ok x3⟩
    unfold graphB
    simpa only [List.append_assoc] using w3
theorem putjob_any {F Fp : Nat → Prop} {a pa : Option Addr} {l c pl pc : Nat} {j : JobW} {n0 : Nat} (ok : Ok H) (hw : Wr H n0 b bs) (hG : SlV F H a l j.graph) (hF : ∀ x, F x → x < H.next ∧ ¬ WrS H b x) (hP : SlI Fp H pa pl j.params) (hFp : ∀ x, Fp x → x < H.next ∧ ¬ WrS H b x) (hI : JobA j) (hs : bs.length ≤ 100000000000000) :
    FW Ee F_run_PutJob [.pointer (some ⟨b, 0, none⟩), jV j a l c pa pl pc] H fun r H' => r = .tuple ⟨[]⟩ ∧ Wr H' n0 b (bs ++ jobB j) ∧ WrX H b H' := by
  have hlen := hP.len
  have hle := hI.params
  subst hlen
  have hpl := hI.prog
  have l1 := enc_len64 (show j.prog.length < 18446744073709551616 by omega)
  have l2 := graphA_len hI.graph
  have l3 := enc_len64 (show j.params.length < 18446744073709551616 by omega)
  have l4 := encI_len hI.steps
  have l5 := encI_len hI.sent
  refine fw_run_PutJob ?_
  intro H1 e1
  obtain ⟨g1, b1, n1⟩ := new_job ok e1
  have x0 := WrX.grow ok hw g1
  have w1 := hw.grow g1
  have o1 : ¬ WrS H1 b H.next := hw.new ok g1 (Nat.le_refl _)
  have F1 := x0.keep hF
  have Fp1 := x0.keep hFp
  have G1 := hG.grow loc_vtx g1
  have P1 := hP.grow loc_int g1
  refine ⟨_, cell_of b1 rfl, (yw_text g1.ok w1 (by omega)).mono ?_⟩
  rintro _ H2 ⟨rfl, w2, x2⟩
  have c2 := x2.mod.get _ _ o1 b1
  refine ⟨rfl, _, _, _, cell_of c2 rfl, (putgraph_any x2.mod.ok w2 (G1.mod loc_vtx x2.mod fun x hx => (F1 x hx).2) (x2.keep F1) hI.graph (by unfold txtB; simp only [List.length_append]; omega)).mono ?_⟩
  rintro _ H3 ⟨rfl, w3, x3⟩
  have x13 := x2.trans g1.ok x3
  have c3 := x13.mod.get _ _ o1 b1
  refine ⟨rfl, _, _, _, cell_of c3 rfl, (yw_count x3.mod.ok w3 (by omega) (by unfold txtB; simp only [List.length_append]; omega)).mono ?_⟩
  rintro _ H4 ⟨rfl, w4, x4⟩
  have x14 := x13.trans g1.ok x4
  have c4 := x14.mod.get _ _ o1 b1
  refine ⟨rfl, _, _, _, cell_of c4 rfl, ?_⟩
  refine ⟨fun m t Hb => ∃ p : Nat, t = p ∧ p ≤ j.params.length ∧ m = j.params.length - p ∧ Wr Hb n0 b (bs ++ txtB j.prog ++ graphB j.graph ++ enc j.params.length ++ (j.params.take p).flatMap sgB) ∧ WrX H1 b Hb,
    ⟨_, 0, rfl, by omega, rfl, by simpa using w4, x14⟩, ?_⟩
  rintro m t H5 ⟨p, rfl, hp, rfl, w5, x5⟩
  have hfl := sigs_len (ps := j.params.take p) fun x hx => hI.each x (List.mem_of_mem_take hx)
  rw [List.length_take] at hfl
  have hbl : (bs ++ txtB j.prog ++ graphB j.graph ++ enc j.params.length ++ (j.params.take p).flatMap sgB).length ≤ 140737480000000 := by
    unfold txtB; simp only [List.length_append]; omega
  refine cond_dec (fun hlt => ?_) (fun hge => ?_)
  · have hpk : p < j.params.length := by omega
    obtain ⟨hs1, c1⟩ := (P1.mod loc_int x5.mod fun x hx => (Fp1 x hx).2).nth hpk
    refine grd_intro hs1 ⟨by omega, by omega, _, c1, (yw_signed x5.mod.ok w5 (hI.each _ (List.getElem_mem hpk)) (by omega)).mono ?_⟩
    rintro _ H6 ⟨rfl, w6, x6⟩
    refine ⟨rfl, ?_⟩
    intro t29 e29
    rw [wrap_i64 (by omega) (by omega)] at e29
    subst e29
    refine ⟨j.params.length - (p + 1), by omega, p + 1, by simp, by omega, rfl, ?_, x5.trans g1.ok x6⟩
    rw [take_flat hpk, ← List.append_assoc]; exact w6
  · have hpn : p = j.params.length := by omega
    subst hpn
    rw [List.take_length] at w5 hbl
    have c5 := x5.mod.get _ _ o1 b1
    refine ⟨_, cell_of c5 rfl, (yw_cnt hI.steps x5.mod.ok w5 (by omega)).mono ?_⟩
    rintro _ H7 ⟨rfl, w7, x7⟩
    have x17 := x5.trans g1.ok x7
    have c7 := x17.mod.get _ _ o1 b1
    refine ⟨rfl, _, cell_of c7 rfl, (yw_cnt hI.sent x7.mod.ok w7 (by rw [List.length_append]; omega)).mono ?_⟩
    rintro _ H8 ⟨rfl, w8, x8⟩
    have x18 := x17.trans g1.ok x8
    have c8 := x18.mod.get _ _ o1 b1
    refine ⟨rfl, _, cell_of c8 rfl, (yw_cnt hI.parts x8.mod.ok w8 (by simp only [List.length_append] at hbl ⊢; omega)).mono ?_⟩
    rintro _ H9 ⟨rfl, w9, x9⟩
    refine ⟨rfl, rfl, ?_, x0.trans ok (x18.trans g1.ok x9)⟩
    unfold jobB
    simpa only [List.append_assoc] using w9
theorem puttask_any {F Fg Fp : Nat → Prop} {n0 : Nat} {x : TaskW} {s2 : Nat → Sl3} {a : Option Addr} {l c : Nat} {pa : Option Addr} {pl pc : Nat} (hf : ∀ i, I64 (x.f i)) (hv : ∀ i, I64 (x.v i)) (hL : ∀ i, i < 2 → (x.L i).length ≤ 1048576 ∧ ∀ e ∈ x.L i, I64 e)
    (ok : Ok H) (hw : Wr H n0 b bs) (hS : ∀ i, i < 2 → SlI F H (s2 i).1 (s2 i).2.1 (x.L i)) (hF : ∀ y, F y → y < H.next ∧ ¬ WrS H b y) (hG : SlV Fg H a l x.j.graph) (hFg : ∀ y, Fg y → y < H.next ∧ ¬ WrS H b y) (hP : SlI Fp H pa pl x.j.params) (hFp : ∀ y, Fp y → y < H.next ∧ ¬ WrS H b y)
    (hI : JobA x.j) (hs : bs.length ≤ 90000000000000) :
    FW Ee F_master_PutTask [.pointer (some ⟨b, 0, none⟩), .agg ⟨tskC x.f s2 x.j a l c pa pl pc x.h x.v x.k⟩] H fun r H' => r = .tuple ⟨[]⟩ ∧ Wr H' n0 b (bs ++ taskB x) ∧ WrX H b H' := by
  have hfn : ∀ i, (x.f i).toNat < 18446744073709551616 := fun i => by have := hf i; unfold I64 at this; omega
  have htot := cntL_len hfn 7 0
  have hagl := aggL_len (h := x.h) hv 5 0
  have hl0 := natsA_len (hL 0 (by omega)).2 (hL 0 (by omega)).1
  have hl1 := natsA_len (hL 1 (by omega)).2 (hL 1 (by omega)).1
  refine fw_master_PutTask ?_
  intro H1 e1
  obtain ⟨g1, b1, n1⟩ := new_job ok e1
  refine ⟨_, cell_of b1 rfl, _, cell_of b1 rfl, _, cell_of b1 rfl, _, cell_of b1 rfl, _, cell_of b1 rfl, _, cell_of b1 rfl, _, cell_of b1 rfl, ?_⟩
  intro H2 e2
  obtain ⟨g2, c2, n2⟩ := new_job g1.ok e2
  have g02 := g1.trans g2
  have x0 := WrX.grow ok hw g02
  have w2 := hw.grow g02
  have o1 : ¬ WrS H2 b H.next := hw.new ok g02 (Nat.le_refl _)
  have o2 : ¬ WrS H2 b H1.next := hw.new ok g02 (by omega)
  have b2 := g2.get _ _ id b1
  refine ⟨fun m t Hb => ∃ (i : Nat) (cs : List UInt8), t = i ∧ i ≤ 7 ∧ m = 7 - i ∧ Wr Hb n0 b (bs ++ cs) ∧ cs ++ cntL (fun i => (x.f i).toNat) (7 - i) i = cntL (fun i => (x.f i).toNat) 7 0 ∧ WrX H2 b Hb, ⟨_, 0, [], rfl, by omega, rfl, by simpa using w2, rfl, WrX.grow g02.ok w2 (.refl g02.ok)⟩, ?_⟩
  rintro m t H3 ⟨i, cs, rfl, hi, rfl, w3, hcs, x3⟩
  have hle := congrArg List.length hcs
  rw [List.length_append] at hle
  refine cond_dec (fun hlt => ?_) (fun hge => ?_)
  · have hi7 : i < 7 := by omega
    have c3 := x3.mod.get _ _ o2 c2
    have hstep : cntL (fun i => (x.f i).toNat) (7 - i) i = enc (x.f i).toNat ++ cntL (fun i => (x.f i).toNat) (7 - (i + 1)) (i + 1) := by
      rw [show 7 - i = 7 - (i + 1) + 1 from by omega]; rfl
    refine ⟨by omega, by omega, x.f i, cell_of c3 (cnt7 hi7), ?_⟩
    refine (yw_cnt (hf i) x3.mod.ok w3 (by rw [List.length_append]; omega)).mono ?_
    rintro _ H4 ⟨rfl, w4, x4⟩
    refine ⟨rfl, ?_⟩
    intro t33 e33
    rw [wrap_i64 (by omega) (by omega)] at e33
    subst e33
    refine ⟨7 - (i + 1), by omega, i + 1, cs ++ enc (x.f i).toNat, by simp, by omega, rfl, ?_, ?_, x3.trans g02.ok x4⟩
    · rw [← List.append_assoc]; exact w4
    · rw [List.append_assoc, ← hstep]; exact hcs
  · have hi7 : i = 7 := by omega
    subst hi7
    have hc : cs = cntL (fun i => (x.f i).toNat) 7 0 := by rw [← hcs]; simp [cntL]
    subst hc
    have b3 := x3.mod.get _ _ o1 b2
    have x03 := x0.trans ok x3
    refine ⟨_, _, _, cell_of b3 rfl, _, _, _, cell_of b3 rfl, ?_⟩
    intro H5 e5
    obtain ⟨g5, c5, n5⟩ := new_job x3.mod.ok e5
    have w5 := w3.grow g5
    have x5 := x03.trans ok (WrX.grow x3.mod.ok w3 g5)
    have F5 := x5.keep hF
    have o1' : ¬ WrS H5 b H.next := fun k => (x3.off o1 (by omega)) (w3.old g5 k)
    have o5 : ¬ WrS H5 b H3.next := w3.new x3.mod.ok g5 (Nat.le_refl _)
    have b5 := g5.get _ _ id b3
    have S5 : ∀ i, i < 2 → SlI F H5 (s2 i).1 (s2 i).2.1 (x.L i) := fun i hi => (hS i hi).mod loc_int x5.mod fun y hy => (hF y hy).2
    refine ⟨fun m t Hb => ∃ (i : Nat), t = i ∧ i ≤ 2 ∧ m = 2 - i ∧ Wr Hb n0 b (bs ++ cntL (fun i => (x.f i).toNat) 7 0 ++ natsU x.L i) ∧ WrX H5 b Hb, ⟨_, 0, rfl, by omega, rfl, by simpa [natsU] using w5, WrX.grow g5.ok w5 (.refl g5.ok)⟩, ?_⟩
    rintro m t40 H6 ⟨i, rfl, hi, rfl, w6, x6⟩
    refine cond_dec (fun hlt => ?_) (fun hge => ?_)
    · have hi2 : i < 2 := by omega
      have c6 := x6.mod.get _ _ o5 c5
      have hu : (natsU x.L i).length ≤ 10485770 := by
        rcases two hi2 with rfl | rfl
        · simp [natsU]
        · rw [natsU_succ]; simp [natsU]; omega
      have S6 := (S5 i hi2).mod loc_int x6.mod fun y hy => (F5 y hy).2
      obtain ⟨hl16, hnat⟩ := hL i hi2
      have hlen := S6.len
      refine ⟨by omega, by omega, (s2 i).1, (s2 i).2.1, (s2 i).2.2, ?_, ?_⟩
      · refine cell_of c6 ?_
        rcases two hi2 with rfl | rfl <;> rfl
      refine (yw_count x6.mod.ok w6 (n := (s2 i).2.1) (by omega) (by simp only [List.length_append]; omega)).mono ?_
      rintro _ H7 ⟨rfl, w7, x7⟩
      have k1 := enc_len64 (n := (s2 i).2.1) (by omega)
      refine ⟨rfl, ?_⟩
      refine ⟨fun m t Hb => ∃ (q : Nat), t = q ∧ q ≤ (x.L i).length ∧ m = (x.L i).length - q ∧ Wr Hb n0 b (bs ++ cntL (fun i => (x.f i).toNat) 7 0 ++ natsU x.L i ++ enc (s2 i).2.1 ++ ((x.L i).take q).flatMap fun y => enc y.toNat) ∧ WrX H5 b Hb, ⟨_, 0, rfl, by omega, rfl, by simpa using w7, x6.trans g5.ok x7⟩, ?_⟩
      rintro m t50 H8 ⟨q, rfl, hq, rfl, w8, x8⟩
      refine cond_dec (fun hlt2 => ?_) (fun hge2 => ?_)
      · have hq2 : q < (x.L i).length := by omega
        have S8 := (S5 i hi2).mod loc_int x8.mod fun y hy => (F5 y hy).2
        obtain ⟨k2, k3⟩ := S8.nth hq2
        have hn := hnat _ (List.getElem_mem hq2)
        have htl := flat_len (B := fun y : Int => enc y.toNat) (m := 10) (xs := (x.L i).take q) fun e he => encI_len (hnat e (List.mem_of_mem_take he))
        rw [List.length_take] at htl
        refine grd_intro k2 ⟨by omega, by omega, (x.L i)[q], by rw [Int.toNat_natCast]; exact k3, ?_⟩
        refine (yw_cnt hn x8.mod.ok w8 (by simp only [List.length_append]; omega)).mono ?_
        rintro _ H9 ⟨rfl, w9, x9⟩
        refine ⟨rfl, ?_⟩
        intro t57 e57
        rw [wrap_i64 (by omega) (by omega)] at e57
        subst e57
        refine ⟨(x.L i).length - (q + 1), by omega, q + 1, by simp, by omega, rfl, ?_, x8.trans g5.ok x9⟩
        rw [List.take_succ_eq_append_getElem hq2, List.flatMap_append, ← List.append_assoc]
        simpa using w9
      · have hq2 : q = (x.L i).length := by omega
        subst hq2
        intro t58 e58
        rw [wrap_i64 (by omega) (by omega)] at e58
        subst e58
        refine ⟨2 - (i + 1), by omega, i + 1, by simp, by omega, rfl, ?_, x8⟩
        rw [natsU_succ, natsB, ← hlen]
        rw [List.take_length] at w8
        simpa only [List.append_assoc] using w8
    · have hi2 : i = 2 := by omega
      subst hi2
      have hu : natsU x.L 2 = natsB (x.L 0) ++ natsB (x.L 1) := by
        rw [natsU_succ, natsU_succ]; simp [natsU]
      rw [hu] at w6
      have b6 := x6.mod.get _ _ o1' b5
      refine ⟨_, cell_of b6 rfl, (yw_bool x6.mod.ok w6 (by simp only [List.length_append]; omega)).mono ?_⟩
      rintro _ H10 ⟨rfl, w10, x10⟩
      have k1 := enc_len64 (n := cond x.k 1 0) (by cases x.k <;> simp)
      have x510 := x6.trans g5.ok x10
      have b10 := x510.mod.get _ _ o1' b5
      refine ⟨rfl, _, _, _, _, _, _, _, _, _, _, cell_of b10 rfl, cell_of b10 rfl, cell_of b10 rfl, cell_of b10 rfl, cell_of b10 rfl, cell_of b10 rfl, cell_of b10 rfl, cell_of b10 rfl, cell_of b10 rfl, cell_of b10 rfl, (putagg_ok (h := x.h) hv x10.mod.ok w10 (by simp only [List.length_append]; omega)).mono ?_⟩
      rintro _ H11 ⟨rfl, w11, x11⟩
      have x511 := x510.trans g5.ok x11
      have x011 := x5.trans ok x511
      have b11 := x511.mod.get _ _ o1' b5
      refine ⟨rfl, _, _, _, _, _, _, _, _, _, _, cell_of b11 rfl, cell_of b11 rfl, cell_of b11 rfl, cell_of b11 rfl, cell_of b11 rfl, cell_of b11 rfl, (putjob_any (j := x.j) x11.mod.ok w11 (hG.mod loc_vtx x011.mod fun y hy => (hFg y hy).2) (x011.keep hFg) (hP.mod loc_int x011.mod fun y hy => (hFp y hy).2) (x011.keep hFp) hI (by unfold aggB; simp only [List.length_append]; omega)).mono ?_⟩
      rintro _ H12 ⟨rfl, w12, x12⟩
      refine ⟨rfl, rfl, ?_, x011.trans ok x12⟩
      unfold taskB
      simpa only [List.append_assoc] using w12
theorem encA_ok {F : Nat → Prop} {a : Option Addr} {l c : Nat} {k er st : Int} {vs : List (Int × Int)} (ok : Ok H) (hk : I64 k) (her : I64 er) (hst : I64 st) (hV : SlP F H a l vs) (hF : ∀ x, F x → x < H.next) (hI : ∀ x ∈ vs, I64 x.1 ∧ I64 x.2) (hl : vs.length ≤ 4000000) :
    FW Ee F_run_Encode [.agg ⟨[.int .i64 k, .int .i64 er, .int .i64 st, .slice a l c]⟩] H fun r H' => r = .string ⟨⟨outA k er st vs⟩⟩ ∧ Grow H H' := by
  have hlen := hV.len
  subst hlen
  have l1 := encI_len hk
  have l2 := encI_len her
  have l3 := encI_len hst
  have l4 := enc_len64 (n := vs.length) (by omega)
  refine fw_run_Encode ?_
  intro H1 e1
  obtain ⟨g1, b1, n1⟩ := new_job ok e1
  refine (newwriter_ok g1.ok).mono ?_
  rintro _ H2 ⟨rfl, w2, g2⟩
  have b2 := g2.get _ _ not_false b1
  have g12 := g1.trans g2
  have o2 : ¬ WrS H2 H1.next H.next := fun h => by have := w2.low h; omega
  refine ⟨_, rfl, _, cell_of b2 rfl, (yw_cnt hk g2.ok w2 (by simp)).mono ?_⟩
  rintro _ H3 ⟨rfl, w3, x3⟩
  refine ⟨rfl, _, cell_of (x3.mod.get _ _ o2 b2) rfl, (yw_cnt her x3.mod.ok w3 (by simp; omega)).mono ?_⟩
  rintro _ H4 ⟨rfl, w4, x4⟩
  have x24 := x3.trans g2.ok x4
  refine ⟨rfl, _, cell_of (x24.mod.get _ _ o2 b2) rfl, (yw_cnt hst x4.mod.ok w4 (by simp; omega)).mono ?_⟩
  rintro _ H5 ⟨rfl, w5, x5⟩
  have x25 := x24.trans g2.ok x5
  refine ⟨rfl, _, _, _, cell_of (x25.mod.get _ _ o2 b2) rfl, (yw_count x5.mod.ok w5 (by omega) (by simp; omega)).mono ?_⟩
  rintro _ H6 ⟨rfl, w6, x6⟩
  have x26 := x25.trans g2.ok x6
  obtain ⟨B6, hB6⟩ : ∃ B6, B6 = enc k.toNat ++ enc er.toNat ++ enc st.toNat ++ enc vs.length := ⟨_, rfl⟩
  have w6 : Wr H6 H1.next H1.next B6 := by rw [hB6]; simpa using w6
  have lB : B6.length ≤ 40 := by rw [hB6]; simp only [List.length_append]; omega
  have V2 := (hV.grow loc_pair g12)
  have off : ∀ x, F x → ¬ WrS H2 H1.next x := fun x hx h => by have := w2.low h; have := hF x hx; omega
  refine ⟨rfl, _, _, _, cell_of (x26.mod.get _ _ o2 b2) rfl, fun m t Hb => ∃ i : Nat, t = i ∧ i ≤ vs.length ∧ m = vs.length - i ∧ Wr Hb H1.next H1.next (B6 ++ (vs.take i).flatMap valB) ∧ WrX H2 H1.next Hb, ⟨_, 0, rfl, by omega, rfl, by simpa using w6, x26⟩, ?_⟩
  rintro m t H7 ⟨i, rfl, hi, rfl, w7, x7⟩
  have l7 := valsP_len (vs := vs.take i) fun x hx => hI x (List.mem_of_mem_take hx)
  rw [List.length_take] at l7
  refine cond_dec (fun hlt => ?_) (fun hge => ?_)
  · have hi' : i < vs.length := by omega
    obtain ⟨i1, i2⟩ := hI _ (List.getElem_mem hi')
    have k1 := sgB_len i1
    obtain ⟨q1, c1, c2⟩ := (V2.mod loc_pair x7.mod off).nth hi'
    refine grd_intro q1 ⟨by omega, by omega, _, _, by rw [show ((i : Nat) : Int).toNat = i from by omega]; exact c1, by rw [show ((i : Nat) : Int).toNat = i from by omega]; exact c2, ?_⟩
    intro H8 e8
    obtain ⟨H9, e9, b9, g9, n9⟩ := fresh_store (vs := [.int .i64 vs[i].1, .int .i64 vs[i].2]) e8 rfl rfl x7.mod.ok
    have w9 := w7.grow g9
    have x9 := x7.trans g2.ok (WrX.grow x7.mod.ok w7 g9)
    have o9 : ¬ WrS H9 H1.next H7.next := w7.new x7.mod.ok g9 (Nat.le_refl _)
    refine ⟨H9, e9, _, cell_of b9 rfl, (yw_signed g9.ok w9 i1 (by simp only [List.length_append]; omega)).mono ?_⟩
    rintro _ H10 ⟨rfl, w10, x10⟩
    refine ⟨rfl, _, cell_of (x10.mod.get _ _ o9 b9) rfl, (yw_signed x10.mod.ok w10 i2 (by simp only [List.length_append]; omega)).mono ?_⟩
    rintro _ H11 ⟨rfl, w11, x11⟩
    refine ⟨rfl, ?_⟩
    intro t39 e39
    rw [wrap_i64 (by omega) (by omega)] at e39
    subst e39
    refine ⟨vs.length - (i + 1), by omega, i + 1, by simp, by omega, rfl, ?_, (x9.trans g2.ok x10).trans g2.ok x11⟩
    rw [tflat _ hi']
    simpa only [valB, List.append_assoc] using w11
  · have : i = vs.length := by omega
    subst this
    rw [List.take_length] at w7
    refine (wall_ok w7).mono ?_
    rintro _ _ ⟨rfl, rfl⟩
    refine ⟨_, rfl, ?_, Mod.then g12 x7.mod ok fun x hx => by have := w2.low hx; omega⟩
    unfold outA; rw [hB6]
theorem puttold_ok {F : Nat → Prop} {a : Option Addr} {l c : Nat} {kd se e k er st : Int} {f : Nat → Int} {vs : List (Int × Int)} (ok : Ok H) (hw : Wr H n0 b bs) (h1 : I64 kd) (h2 : I64 se) (he : I64 e) (hf : ∀ i, I64 (f i)) (hk : I64 k) (her : I64 er) (hst : I64 st) (hV : SlP F H a l vs) (hF : ∀ x, F x → x < H.next ∧ ¬ WrS H b x) (hI : ∀ x ∈ vs, I64 x.1 ∧ I64 x.2) (hl : vs.length ≤ 4000000) (hs : bs.length ≤ 90000000000000) :
    FW Ee F_serve_putTold [.pointer (some ⟨b, 0, none⟩), .agg ⟨tldC kd se f e k er st a l c⟩] H fun r H' => r = .tuple ⟨[]⟩ ∧ Wr H' n0 b (bs ++ toldB kd se (fun i => if i = 1 then e else f i) k er st vs) ∧ WrX H b H' := by
  have l1 := encI_len h1
  have l2 := sgB_len h2
  have lo := outA_len hk her hst hI hl
  refine fw_serve_putTold ?_
  intro H1 e1
  obtain ⟨g1, b1, n1⟩ := new_job ok e1
  have x1 := WrX.grow ok hw g1
  have w1 := hw.grow g1
  have o1 : ¬ WrS H1 b H.next := hw.new ok g1 (Nat.le_refl _)
  have F1 := x1.keep hF
  refine ⟨_, cell_of b1 rfl, (yw_cnt h1 g1.ok w1 (by omega)).mono ?_⟩
  rintro _ H2 ⟨rfl, w2, x2⟩
  refine ⟨rfl, _, cell_of (x2.mod.get _ _ o1 b1) rfl, (yw_signed x2.mod.ok w2 h2 (by rw [List.length_append]; omega)).mono ?_⟩
  rintro _ H3 ⟨rfl, w3, x3⟩
  have x13 := x2.trans g1.ok x3
  have b3 := x13.mod.get _ _ o1 b1
  refine ⟨rfl, _, cell_of b3 rfl, _, cell_of b3 rfl, _, cell_of b3 rfl, _, cell_of b3 rfl, _, cell_of b3 rfl, _, cell_of b3 rfl, _, cell_of b3 rfl, ?_⟩
  intro H4 e4
  obtain ⟨g4, c4, n4⟩ := new_job x3.mod.ok e4
  have x4 := x13.trans g1.ok (WrX.grow x3.mod.ok w3 g4)
  have w4 := w3.grow g4
  obtain ⟨xs, hxs⟩ : ∃ xs : List Int, xs = [f 0, e, f 2, f 3, f 4, f 5, f 6] := ⟨_, rfl⟩
  have hxI : ∀ x ∈ xs, I64 x := by
    intro x hx
    rw [hxs] at hx
    simp only [List.mem_cons, List.not_mem_nil, or_false] at hx
    rcases hx with rfl | rfl | rfl | rfl | rfl | rfl | rfl <;> first | exact he | exact hf _
  have hx7 : xs.length = 7 := by rw [hxs]; rfl
  have S4 : SlI (fun y => y = H3.next) H4 (some ⟨H3.next, 0, none⟩) 7 xs := by
    refine ⟨hx7.symm, fun _ => ⟨rfl, rfl⟩, fun i hi => ?_⟩
    subst hxs
    rcases (show i = 0 ∨ i = 1 ∨ i = 2 ∨ i = 3 ∨ i = 4 ∨ i = 5 ∨ i = 6 by simp at hi; omega) with rfl | rfl | rfl | rfl | rfl | rfl | rfl <;> exact cell_of c4 rfl
  have lc := cntsB_len hxI
  refine (putcounts_ok (xs := xs) g4.ok w4 S4 (by rintro x rfl; exact ⟨by omega, w3.new x3.mod.ok g4 (Nat.le_refl _)⟩) hxI (by omega) (by simp only [List.length_append]; omega)).mono ?_
  rintro _ H5 ⟨rfl, w5, x5⟩
  have x15 := x4.trans g1.ok x5
  have b5 := x15.mod.get _ _ o1 b1
  have F5 := x15.keep F1
  refine ⟨rfl, _, _, _, _, _, _, cell_of b5 rfl, cell_of b5 rfl, cell_of b5 rfl, cell_of b5 rfl, (encA_ok (vs := vs) x5.mod.ok hk her hst (((hV.grow loc_pair g1)).mod loc_pair x15.mod fun x hx => (F1 x hx).2) (fun x hx => (F5 x hx).1) hI hl).mono ?_⟩
  rintro _ H6 ⟨rfl, g6⟩
  have w6 := w5.grow g6
  refine ⟨_, rfl, (yw_text g6.ok w6 (by simp only [List.length_append]; omega)).mono ?_⟩
  rintro _ H7 ⟨rfl, w7, x7⟩
  refine ⟨rfl, rfl, ?_, x1.trans ok ((x15.trans g1.ok (WrX.grow x5.mod.ok w5 g6)).trans g1.ok x7)⟩
  have ec : cntsB xs = cntF (fun i => if i = 1 then e else f i) 7 := by rw [hxs]; simp [cntsB, cntF, List.range_succ]
  rw [ec] at w7
  unfold toldB
  simpa only [List.append_assoc] using w7
set_option maxHeartbeats 1000000 in
theorem xview_ok (ok : Ok H) (hr : Rd H b s q.1 q.2) (hp : AtOk s q) (hs : s.length ≤ 4611686018427387904) :
    FW Ee F_view_Take [.pointer (some ⟨b, 0, none⟩)] H fun r H' => ∃ f t a l c es q', r = .agg ⟨vwC f t a l c⟩ ∧ (∀ i, Cn (f i)) ∧ t.length ≤ s.length ∧ SlN (fun x => H.next ≤ x ∧ x < H'.next) H' a l es ∧ es.length ≤ 1000 ∧ (∀ e ∈ es, Cn e.1 ∧ e.2.length ≤ s.length) ∧ Rd H' b s q'.1 q'.2 ∧ Tk s q q' (vwB f t es) ∧ Mod (· = b) H H' := by
  have hbl := ok.lt hr
  refine fw_view_Take ?_
  intro H1 e1 H2 e2 H3 e3
  obtain ⟨g1, z1, n1⟩ := new_job ok e1
  obtain ⟨g2, r2, n2⟩ := new_job g1.ok e2
  obtain ⟨g3, p3, n3⟩ := new_job g2.ok e3
  have g03 := (g1.trans g2).trans g3
  have z3 := (g2.trans g3).get _ _ not_false z1
  have r3 := g3.get _ _ not_false r2
  refine ⟨fun m t Hb => ∃ (i : Nat) (f : Nat → Int) (q' : RSt), t = i ∧ i ≤ 9 ∧ m = 9 - i ∧ (∀ k, Cn (f k)) ∧ Hb.get H1.next = some (.cells (vwC f [] none 0 0) 0) ∧ Rd Hb b s q'.1 q'.2 ∧ Tk s q q' ((List.range i).flatMap fun k => enc (f k).toNat) ∧ Mod (fun x => x = b ∨ x = H1.next) H3 Hb, ⟨_, 0, fun _ => 0, q, rfl, by omega, rfl, fun _ => by show Cn 0; unfold Cn; omega, r3, g03.get _ _ not_false hr, .refl hp, .refl g03.ok⟩, ?_⟩
  rintro m t H4 ⟨i, f, q', rfl, hi, rfl, hf, v4, r4, t4, m4⟩
  refine cond_dec (fun hlt => ?_) (fun hge => ?_)
  · have hi9 : i < 9 := by omega
    refine ⟨by omega, by omega, _, cell_of (m4.get _ _ (by omega) p3) (vw_ptr hi9), (xcnt_ok 2147483647 (by omega) m4.ok r4 t4.1 hs).mono ?_⟩
    rintro _ H5 ⟨rfl, r5, m5⟩
    have hcn := (rCnt_ok (m := 2147483647) t4.1).2
    obtain ⟨H6, s6, b6, m6, n6⟩ := part_ok (o := i) (vs := [.int .i64 (((rCnt s 2147483647 q').1 : Nat) : Int)]) (m5.get _ _ (by omega) v4) (vw_set hi9) (by simp [vwC]; omega) rfl m5.ok
    refine ⟨_, rfl, grd_intro rfl (grd_intro rfl ⟨H6, s6, ?_⟩)⟩
    intro t26 e26
    rw [wrap_i64 (by omega) (by omega)] at e26
    subst e26
    refine ⟨9 - (i + 1), by omega, i + 1, upd f i (((rCnt s 2147483647 q').1 : Nat) : Int), (rCnt s 2147483647 q').2, by simp, by omega, rfl, ?_, b6, m6.get _ _ (by omega) r5, ?_, ?_⟩
    · intro k
      unfold upd
      split
      · unfold Cn; omega
      · exact hf k
    · rw [rangeB]
      have e : (List.range i).flatMap (fun k => enc (upd f i (((rCnt s 2147483647 q').1 : Nat) : Int) k).toNat) = (List.range i).flatMap fun k => enc (f k).toNat := rangeB_congr fun k hk => by unfold upd; rw [if_neg (by omega)]
      have e2 : (upd f i (((rCnt s 2147483647 q').1 : Nat) : Int) i).toNat = (rCnt s 2147483647 q').1 := by unfold upd; rw [if_pos rfl]; simp
      rw [e, e2]
      exact t4.trans (tk_cntq t4.1)
    · exact (m4.trans (m5.le (fun _ h _ => .inl h) m4.ok)).trans (m6.le (fun _ h _ => .inr h) m5.ok)
  obtain rfl : i = 9 := by omega
  refine (xtxt_ok m4.ok r4 t4.1 hs).mono ?_
  rintro _ H7 ⟨rfl, r7, m7⟩
  have t7 := tk_txtq t4.1
  have hl7 := (rTxt_ok t4.1).2
  obtain ⟨t, ht⟩ : ∃ t, t = (rTxt s q').1 := ⟨_, rfl⟩
  rw [← ht] at t7 hl7 ⊢
  obtain ⟨H8, s8, b8, m8, n8⟩ := part_ok (o := 9) (vs := [.string ⟨⟨t⟩⟩]) (cs' := vwC f t none 0 0) (m7.get _ _ (by omega) v4) rfl (by simp [vwC]) rfl m7.ok
  refine ⟨_, rfl, H8, s8, (xcnt_ok 1000 (by omega) m8.ok (m8.get _ _ (by omega) r7) t7.1 hs).mono ?_⟩
  rintro _ H9 ⟨rfl, r9, m9⟩
  have t9 := tk_cntq (m := 1000) t7.1
  have hc := (rCnt_ok (m := 1000) t7.1).2
  obtain ⟨n, hn⟩ : ∃ n, n = (rCnt s 1000 (rTxt s q').2).1 := ⟨_, rfl⟩
  rw [← hn] at hc t9 ⊢
  have M9 : Mod (fun x => x = b ∨ x = H1.next) H3 H9 := ((m4.trans (m7.le (fun _ h _ => .inl h) m4.ok)).trans (m8.le (fun _ h _ => .inr h) m7.ok)).trans (m9.le (fun _ h _ => .inl h) m8.ok)
  have n9 := M9.next
  have T9 := t4.trans (t7.trans t9)
  obtain ⟨B9, hB9⟩ : ∃ B9, B9 = (List.range 9).flatMap (fun k => enc (f k).toNat) ++ (txtB t ++ enc n) := ⟨_, rfl⟩
  rw [← hB9] at T9
  -- the end
  have fin : ∀ {Hx : AH} {qx : RSt} {es : List (Int × List UInt8)} {a : Option Addr} {l c : Nat}, Mod (fun x => x = b ∨ x = H1.next) H3 Hx → Hx.get H1.next = some (.cells (vwC f t a l c) 0) → Rd Hx b s qx.1 qx.2 → (qx.2 ≠ 0 ∨ es.length = n) → es.length ≤ n → (∀ e ∈ es, Cn e.1 ∧ e.2.length ≤ s.length) → Tk s q qx (B9 ++ es.flatMap entB) → Own Hx 2 a l c (es.flatMap entC) → (∀ x, a = some x → H9.next ≤ x.block) →
      ∃ r : Int, (Value.int .i64 qx.2) = .int .i64 r ∧ cond (r != 0) (∃ H17, storeCellsv Hx H.next 0 (vwC (fun _ => 0) [] none 0 0) = some H17 ∧ H17.get H.next = some (.cells (vwC (fun _ => 0) [] none 0 0) 0) ∧ ViewQ H b s q (.agg ⟨vwC (fun _ => 0) [] none 0 0⟩) H17)
        (∃ H18, storeCellsv Hx H.next 0 (vwC f t a l c) = some H18 ∧ H18.get H.next = some (.cells (vwC f t a l c) 0) ∧ ViewQ H b s q (.agg ⟨vwC f t a l c⟩) H18) := by
    intro Hx qx es a l c mx vx rx hor hle hE tx hO hfar
    have nx := mx.next
    have zx := mx.get _ _ (by omega) z3
    have MX : Mod (· = b) H Hx := (g03.le (fun _ hf _ => hf.elim) ok).ext mx ok fun x hx => by rcases hx with rfl | rfl; exact .inl rfl; exact .inr (by omega)
    refine ⟨_, rfl, cond_intro (fun he => ?_) (fun he => ?_)⟩
    · obtain ⟨H17, s17, b17, m17, n17⟩ := fill_ok (vs := vwC (fun _ => 0) [] none 0 0) zx rfl rfl mx.ok
      exact ⟨H17, s17, b17, _, [], _, _, _, [], qx, rfl, fun _ => by show Cn 0; unfold Cn; omega, by simp, sln_nil, by simp, fun _ h => (by cases h), m17.get _ _ (by omega) rx, tx.vac (by simpa using he), MX.ext m17 ok fun x hx => .inr (by omega)⟩
    · obtain ⟨H18, s18, b18, m18, n18⟩ := fill_ok (vs := vwC f t a l c) zx rfl rfl mx.ok
      have he : qx.2 = 0 := by simpa using he
      have hen : es.length = n := by rcases hor with h | h; exact absurd he h; exact h
      refine ⟨H18, s18, b18, f, t, a, l, c, es, qx, rfl, hf, hl7, ?_, by omega, hE, m18.get _ _ (by omega) rx, ?_, MX.ext m18 ok fun x hx => .inr (by omega)⟩
      · have v18 : SlN (fun x => H9.next ≤ x ∧ x < H18.next) Hx a l es := own_ents hO fun x ex => ⟨hfar x ex, by have := own_lt hO mx.ok ex; omega⟩
        exact (v18.mod loc_ent m18 fun x hx => by have := hx.1; omega).weak (fun x hx _ => ⟨by have := hx.1; omega, hx.2⟩) fun bb o x hh => cell_lt m18.ok hh.1
      · rw [hB9] at tx
        unfold vwB
        rw [hen]
        simpa only [List.append_assoc] using tx
  refine ⟨_, rfl, fun m k6 Hb => ∃ (es : List (Int × List UInt8)) (a : Option Addr) (l c : Nat) (q2 : RSt), k6 = ((n - es.length : Nat) : Int) ∧ es.length ≤ n ∧ m = n - es.length ∧ (∀ e ∈ es, Cn e.1 ∧ e.2.length ≤ s.length) ∧ Hb.get H1.next = some (.cells (vwC f t a l c) 0) ∧ Rd Hb b s q2.1 q2.2 ∧ Tk s q q2 (B9 ++ es.flatMap entB) ∧ Own Hb 2 a l c (es.flatMap entC) ∧ (∀ x, a = some x → H9.next ≤ x.block) ∧ Mod (fun x => x = b ∨ x = H1.next) H3 Hb ∧ H9.next ≤ Hb.next,
    ⟨_, [], none, 0, 0, (rCnt s 1000 (rTxt s q').2).2, by simp, by simp, rfl, fun _ h => (by cases h), m9.get _ _ (by omega) b8, r9, by simpa using T9, Own.nil _ _, fun x e => (by cases e), M9, Nat.le_refl _⟩, ?_⟩
  rintro m k6 H10 ⟨es, a, l, c, q2, rfl, hj, rfl, hE, v10, r10, t10, hO, hfar, m10, n10⟩
  refine cond_dec (fun hpos => ?_) (fun hz => ?_)
  · have hjl : es.length < n := by omega
    refine (rerr_ok r10).mono ?_
    rintro _ _ ⟨rfl, rfl⟩
    refine ⟨_, rfl, cond_intro (fun he => ?_) (fun he => ?_)⟩
    · refine ⟨_, _, _, cell_of v10 rfl, (takeentry_ok m10.ok r10 t10.1 hs).mono ?_⟩
      rintro _ H12 ⟨e, q3, rfl, he1, he2, r12, t12, m12⟩
      have n12 := m12.next
      have hO12 := hO.mod m12 fun x hx y ey e => by have := hfar y ey; omega
      refine ⟨_, _, rfl, ?_⟩
      intro H13 e13
      obtain ⟨g13, _, n13⟩ := new_job m12.ok e13
      obtain ⟨a', l', c', H14, k1, k2, k3, k4⟩ := pushE (x := e) m12.ok hO12 e13 (by omega)
      have lowS : ∀ {x : Nat}, x < H9.next → ¬ (¬ Off a x) := fun hx h => h fun z ez e => by have := hfar z ez; omega
      have v12 := m12.get _ _ (by omega) v10
      have v14 := k4.get _ _ (lowS (by omega)) v12
      obtain ⟨H15, s15, b15, m15, n15⟩ := part_ok (o := 10) (vs := [.slice a' l' c']) (cs' := vwC f t a' l' c') v14 rfl (by simp [vwC]) rfl k4.ok
      refine ⟨_, _, _, H14, k1, H15, s15, cell_of (g13.get _ _ not_false v12) rfl, ?_⟩
      intro t40 e40
      rw [wrap_i64 (by omega) (by omega)] at e40
      have k4n := k4.next
      refine ⟨n - (es.length + 1), by omega, es ++ [e], a', l', c', q3, by simp; omega, by simp; omega, by simp, ?_, b15, m15.get _ _ (by omega) (k4.get _ _ (lowS (by omega)) r12), ?_, ?_, fun z ez => by have := k3 z ez; omega, ?_, by omega⟩
      · intro x hx
        rcases List.mem_append.1 hx with h | h
        · exact hE x h
        · rw [List.mem_singleton.1 h]; exact ⟨he1, he2⟩
      · rw [List.flatMap_append, ← List.append_assoc]
        simpa using t10.trans t12
      · exact k2.mod m15 fun x hx y ey e => by have := k3 y ey; omega
      · have a1 : Mod (fun x => x = b ∨ x = H1.next) H3 H12 := m10.trans (m12.le (fun _ h _ => .inl h) m10.ok)
        refine (a1.ext k4 g03.ok fun x hx => .inr ?_).ext m15 g03.ok fun x hx => .inl (.inr hx)
        obtain ⟨z, ez, rfl⟩ := off_not hx
        have := hfar z ez
        omega
    · have he : q2.2 ≠ 0 := by simpa using he
      refine (rerr_ok r10).mono ?_
      rintro _ _ ⟨rfl, rfl⟩
      obtain ⟨r, e, h⟩ := fin m10 v10 r10 (.inl he) hj hE t10 hO hfar
      refine ⟨r, e, ?_⟩
      cases hr0 : (r != 0) with
      | true =>
        rw [hr0] at h
        obtain ⟨H17, s17, b17, k17⟩ := h
        exact ⟨H17, s17, _, _, _, _, _, _, _, _, _, _, _, _, _, cell_of b17 rfl, cell_of b17 rfl, cell_of b17 rfl, cell_of b17 rfl, cell_of b17 rfl, cell_of b17 rfl, cell_of b17 rfl, cell_of b17 rfl, cell_of b17 rfl, cell_of b17 rfl, cell_of b17 rfl, k17⟩
      | false =>
        rw [hr0] at h
        obtain ⟨H17, s17, b17, k17⟩ := h
        exact ⟨_, _, _, _, _, _, _, _, _, _, _, _, _, cell_of v10 rfl, cell_of v10 rfl, cell_of v10 rfl, cell_of v10 rfl, cell_of v10 rfl, cell_of v10 rfl, cell_of v10 rfl, cell_of v10 rfl, cell_of v10 rfl, cell_of v10 rfl, cell_of v10 rfl, H17, s17, _, _, _, _, _, _, _, _, _, _, _, _, _, cell_of b17 rfl, cell_of b17 rfl, cell_of b17 rfl, cell_of b17 rfl, cell_of b17 rfl, cell_of b17 rfl, cell_of b17 rfl, cell_of b17 rfl, cell_of b17 rfl, cell_of b17 rfl, cell_of b17 rfl, k17⟩
  · refine (rerr_ok r10).mono ?_
    rintro _ _ ⟨rfl, rfl⟩
    obtain ⟨r, e, h⟩ := fin m10 v10 r10 (.inr (by omega)) hj hE t10 hO hfar
    refine ⟨r, e, ?_⟩
    cases hr0 : (r != 0) with
    | true =>
      rw [hr0] at h
      obtain ⟨H17, s17, b17, k17⟩ := h
      exact ⟨H17, s17, _, _, _, _, _, _, _, _, _, _, _, _, _, cell_of b17 rfl, cell_of b17 rfl, cell_of b17 rfl, cell_of b17 rfl, cell_of b17 rfl, cell_of b17 rfl, cell_of b17 rfl, cell_of b17 rfl, cell_of b17 rfl, cell_of b17 rfl, cell_of b17 rfl, k17⟩
    | false =>
      rw [hr0] at h
      obtain ⟨H17, s17, b17, k17⟩ := h
      exact ⟨_, _, _, _, _, _, _, _, _, _, _, _, _, cell_of v10 rfl, cell_of v10 rfl, cell_of v10 rfl, cell_of v10 rfl, cell_of v10 rfl, cell_of v10 rfl, cell_of v10 rfl, cell_of v10 rfl, cell_of v10 rfl, cell_of v10 rfl, cell_of v10 rfl, H17, s17, _, _, _, _, _, _, _, _, _, _, _, _, _, cell_of b17 rfl, cell_of b17 rfl, cell_of b17 rfl, cell_of b17 rfl, cell_of b17 rfl, cell_of b17 rfl, cell_of b17 rfl, cell_of b17 rfl, cell_of b17 rfl, cell_of b17 rfl, cell_of b17 rfl, k17⟩
end
end Go.Proofs.Cx
namespace Go.Ev
open Go
structure SayW where
  kd : Int
  vf : Nat → Int
  vt : List UInt8
  ve : List (Int × List UInt8)
  va : Option Addr
  vl : Nat
  vc : Nat
  wk : Int
  li : Int
  has : Bool
  rf : Nat → Int
  rh : Nat → Bool
  rv : Nat → Int
  rs : List (Int × Int)
  ra : Option Addr
  rl : Nat
  rc : Nat
  tk : TaskW
  ts : Nat → Sl3
  ga : Option Addr
  gl : Nat
  gc : Nat
  pa : Option Addr
  pl : Nat
  pc : Nat
  ld : Int
  ak : Int
  ase : Int
  af : Nat → Int
  at' : List UInt8
  tkd : Int
  tse : Int
  tf : Nat → Int
  te : Int
  ok : Int
  oer : Int
  ost : Int
  os : List (Int × Int)
  oa : Option Addr
  ol : Nat
  oc : Nat
  bf : Nat → Int
  ms : List Four
  ma : Option Addr
  ml : Nat
  mc : Nat
  us : List Four
  ua : Option Addr
  ul : Nat
  uc : Nat
def sayC (x : SayW) : List Value :=
  [.int .i64 x.kd] ++ (vwC x.vf x.vt x.va x.vl x.vc ++ ([.int .i64 x.wk, .int .i64 x.li, .bool x.has] ++ (repC x.rf x.rh x.rv x.ra x.rl x.rc ++ (tskC x.tk.f x.ts x.tk.j x.ga x.gl x.gc x.pa x.pl x.pc x.tk.h x.tk.v x.tk.k ++ ([.int .i64 x.ld] ++ (askC x.ak x.ase x.af x.at' ++ (tldC x.tkd x.tse x.tf x.te x.ok x.oer x.ost x.oa x.ol x.oc ++
    [.int .i64 (x.bf 0), .int .i64 (x.bf 1), .int .i64 (x.bf 2), .int .i64 (x.bf 3), .slice x.ma x.ml x.mc, .slice x.ua x.ul x.uc])))))))
structure SayS (F : Nat → Prop) (H : AH) (x : SayW) : Prop where
  v : SlN F H x.va x.vl x.ve
  r : SlE F H x.ra x.rl x.rs
  t : ∀ i, i < 2 → SlI F H (x.ts i).1 (x.ts i).2.1 (x.tk.L i)
  g : SlV F H x.ga x.gl x.tk.j.graph
  p : SlI F H x.pa x.pl x.tk.j.params
  o : SlP F H x.oa x.ol x.os
  m : SlF F H x.ma x.ml x.ms
  u : SlF F H x.ua x.ul x.us
structure SayI (x : SayW) : Prop where
  kd : I64 x.kd
  vf : ∀ i, I64 (x.vf i)
  ve : ∀ e ∈ x.ve, I64 e.1
  vl : x.ve.length ≤ 4000000
  vb : (vwB x.vf x.vt x.ve).length ≤ 140737480000000
  wk : I64 x.wk
  li : I64 x.li
  rf : ∀ i, I64 (x.rf i)
  rv : ∀ i, I64 (x.rv i)
  rs : ∀ e ∈ x.rs, PairI e
  rl : x.rs.length ≤ 4000000
  tf : ∀ i, I64 (x.tk.f i)
  tv : ∀ i, I64 (x.tk.v i)
  tL : ∀ i, i < 2 → (x.tk.L i).length ≤ 1048576 ∧ ∀ e ∈ x.tk.L i, I64 e
  tj : JobA x.tk.j
  ld : I64 x.ld
  ak : I64 x.ak
  ase : I64 x.ase
  af : ∀ i, I64 (x.af i)
  at' : x.at'.length ≤ 140737280000000
  tkd : I64 x.tkd
  tse : I64 x.tse
  tof : ∀ i, I64 (x.tf i)
  te : I64 x.te
  ok : I64 x.ok
  oer : I64 x.oer
  ost : I64 x.ost
  os : ∀ e ∈ x.os, I64 e.1 ∧ I64 e.2
  ol : x.os.length ≤ 4000000
  bf : ∀ i, I64 (x.bf i)
  ms : ∀ e ∈ x.ms, FourI e
  ml : x.ms.length ≤ 4000000
  us : ∀ e ∈ x.us, FourI e
  ul : x.us.length ≤ 4000000
def tolF (x : SayW) : Nat → Int := fun i => if i = 1 then x.te else x.tf i
def sayT (x : SayW) : List UInt8 :=
  if x.kd = 1 then vwB x.vf x.vt x.ve
  else if x.kd = 2 then cntsB [x.wk, x.li] ++ (enc (cond x.has 1 0) ++ cond x.has (repB x.rf x.rh x.rv x.rs) [])
  else if x.kd = 3 then enc (cond x.has 1 0) ++ cond x.has (taskB x.tk) []
  else if x.kd = 4 then sgB x.ld
  else if x.kd = 5 then askB x.ak x.ase (x.af 0) x.at' (x.af 1)
  else if x.kd = 6 then toldB x.tkd x.tse (tolF x) x.ok x.oer x.ost x.os
  else if x.kd = 7 ∨ x.kd = 8 then cntsB [x.bf 0, x.bf 1, x.bf 2, x.bf 3] ++ (msgsB x.ms ++ mutsB x.us)
  else []
def sayB (x : SayW) : List UInt8 := enc x.kd.toNat ++ sayT x
theorem SayS.mod {F S : Nat → Prop} {H H' : AH} {x : SayW} (h : SayS F H x) (k : Mod S H H') (hs : ∀ y, F y → ¬ S y) : SayS F H' x :=
  ⟨h.v.mod loc_ent k hs, h.r.mod loc_edge k hs, fun i hi => (h.t i hi).mod loc_int k hs, h.g.mod loc_vtx k hs, h.p.mod loc_int k hs, h.o.mod loc_pair k hs, h.m.mod loc_four k hs, h.u.mod loc_four k hs⟩
end Go.Ev
namespace Go.Proofs.Cx
open Go Go.Ev
section
variable {H : AH}
set_option maxHeartbeats 4000000 in
set_option maxRecDepth 100000 in
theorem encsay_ok {F : Nat → Prop} {x : SayW} (ok : Ok H) (hI : SayI x) (hS : SayS F H x) (hF : ∀ y, F y → y < H.next) :
    FW Ee F_serve_Encode [.agg ⟨sayC x⟩] H fun r H' => r = .string ⟨⟨sayB x⟩⟩ ∧ Grow H H' := by
  have lk := encI_len hI.kd
  refine fw_serve_Encode ?_
  intro H1 e1
  have e1 : H1 = H.new (.cells (sayC x) 0) := e1
  obtain ⟨g1, b1, n1⟩ := new_job ok e1
  refine (newwriter_ok g1.ok).mono ?_
  rintro _ H2 ⟨rfl, w2, g2⟩
  have b2 := g2.get _ _ not_false b1
  have g12 := g1.trans g2
  have n2 := g12.next
  have o2 : ¬ WrS H2 H1.next H.next := fun h => by have := w2.low h; omega
  have F2 : ∀ y, F y → y < H2.next ∧ ¬ WrS H2 H1.next y := fun y hy => ⟨by have := hF y hy; omega, fun h => by have := w2.low h; have := hF y hy; omega⟩
  have S2 := hS.mod g12 fun _ _ => id
  refine ⟨_, rfl, _, cell_of b2 rfl, (yw_cnt hI.kd g2.ok w2 (by simp)).mono ?_⟩
  rintro _ H3 ⟨rfl, w3, x3⟩
  rw [List.nil_append] at w3
  have b3 := x3.mod.get _ _ o2 b2
  have F3 := x3.keep F2
  have S3 := S2.mod x3.mod fun y hy => (F2 y hy).2
  refine ⟨rfl, _, cell_of b3 rfl, fun Hx => Wr Hx H1.next H1.next (sayB x) ∧ WrX H2 H1.next Hx, ?_, ?_⟩
  · refine cond_intro (fun h1 => ?_) (fun h1 => cond_intro (fun h2 => ?_) (fun h2 => cond_intro (fun h3 => ?_) (fun h3 => cond_intro (fun h4 => ?_) (fun h4 => cond_intro (fun h5 => ?_) (fun h5 => cond_intro (fun h6 => ?_) (fun h6 => cond_intro (fun h7 => ?_) (fun h7 => cond_intro (fun h8 => ?_) (fun h8 => ?_))))))))
    · -- between masters
      have e : sayT x = vwB x.vf x.vt x.ve := by unfold sayT; rw [if_pos (by simpa using h1)]
      refine ⟨_, _, _, _, _, _, _, _, _, _, _, _, _, cell_of b3 rfl, cell_of b3 rfl, cell_of b3 rfl, cell_of b3 rfl, cell_of b3 rfl, cell_of b3 rfl, cell_of b3 rfl, cell_of b3 rfl, cell_of b3 rfl, cell_of b3 rfl, cell_of b3 rfl, (putview_ok hI.vf x3.mod.ok w3 S3.v F3 hI.ve hI.vl (by have := hI.vb; omega)).mono ?_⟩
      rintro _ H4 ⟨rfl, w4, x4⟩
      exact ⟨rfl, by unfold sayB; rw [e]; exact w4, x3.trans g2.ok x4⟩
    · -- a worker
      have l1 : x.kd ≠ 1 := by simpa using h1
      have e : sayT x = cntsB [x.wk, x.li] ++ (enc (cond x.has 1 0) ++ cond x.has (repB x.rf x.rh x.rv x.rs) []) := by unfold sayT; rw [if_neg l1, if_pos (by simpa using h2)]
      have hxI : ∀ y ∈ [x.wk, x.li], I64 y := by simp [hI.wk, hI.li]
      have lc := cntsB_len hxI
      simp only [List.length_cons, List.length_nil] at lc
      refine ⟨_, cell_of b3 rfl, _, cell_of b3 rfl, ?_⟩
      intro H5 e5
      obtain ⟨g5, c5, n5⟩ := new_job x3.mod.ok e5
      have w5 := w3.grow g5
      have x5 := x3.trans g2.ok (WrX.grow x3.mod.ok w3 g5)
      have S5 : SlI (fun y => y = H3.next) H5 (some ⟨H3.next, 0, none⟩) 2 [x.wk, x.li] := by
        refine ⟨rfl, fun _ => ⟨rfl, rfl⟩, fun i hi => ?_⟩
        rcases (show i = 0 ∨ i = 1 by simp at hi; omega) with rfl | rfl <;> exact cell_of c5 rfl
      refine (putcounts_ok (xs := [x.wk, x.li]) g5.ok w5 S5 (by rintro y rfl; exact ⟨by omega, w3.new x3.mod.ok g5 (Nat.le_refl _)⟩) hxI (by simp) (by omega)).mono ?_
      rintro _ H6 ⟨rfl, w6, x6⟩
      have x26 := x5.trans g2.ok x6
      have b6 := x26.mod.get _ _ o2 b2
      refine ⟨rfl, _, cell_of b6 rfl, (yw_bool x6.mod.ok w6 (by rw [List.length_append]; omega)).mono ?_⟩
      rintro _ H7 ⟨rfl, w7, x7⟩
      have x27 := x26.trans g2.ok x7
      have b7 := x27.mod.get _ _ o2 b2
      have lb := enc_len64 (n := cond x.has 1 0) (by cases x.has <;> simp)
      refine ⟨rfl, _, cell_of b7 rfl, ?_⟩
      cases hh : x.has with
      | false =>
        rw [hh] at w7 e
        refine cond_neg rfl ⟨?_, x27⟩
        unfold sayB; rw [e]
        simpa [List.append_assoc] using w7
      | true =>
        rw [hh] at w7 e
        have F7 := x27.keep F2
        have S7 := S2.mod x27.mod fun y hy => (F2 y hy).2
        rw [hh] at lb
        refine cond_pos rfl ⟨_, _, _, _, _, _, _, _, _, _, _, _, _, _, _, _, _, _, _, _, _, _, cell_of b7 rfl, cell_of b7 rfl, cell_of b7 rfl, cell_of b7 rfl, cell_of b7 rfl, cell_of b7 rfl, cell_of b7 rfl, cell_of b7 rfl, cell_of b7 rfl, cell_of b7 rfl, cell_of b7 rfl, cell_of b7 rfl, cell_of b7 rfl, cell_of b7 rfl, cell_of b7 rfl, cell_of b7 rfl, cell_of b7 rfl, cell_of b7 rfl, cell_of b7 rfl, cell_of b7 rfl, (putrep_any hI.rf hI.rv x7.mod.ok w7 S7.r F7 hI.rs hI.rl (by simp only [List.length_append]; omega)).mono ?_⟩
        rintro _ H8 ⟨rfl, w8, x8⟩
        refine ⟨rfl, ?_, x27.trans g2.ok x8⟩
        unfold sayB; rw [e]
        simpa [List.append_assoc] using w8
    · -- a task
      have l1 : x.kd ≠ 1 := by simpa using h1
      have l2 : x.kd ≠ 2 := by simpa using h2
      have e : sayT x = enc (cond x.has 1 0) ++ cond x.has (taskB x.tk) [] := by unfold sayT; rw [if_neg l1, if_neg l2, if_pos (by simpa using h3)]
      refine ⟨_, cell_of b3 rfl, (yw_bool x3.mod.ok w3 (by omega)).mono ?_⟩
      rintro _ H7 ⟨rfl, w7, x7⟩
      have x27 := x3.trans g2.ok x7
      have b7 := x27.mod.get _ _ o2 b2
      have lb := enc_len64 (n := cond x.has 1 0) (by cases x.has <;> simp)
      refine ⟨rfl, _, cell_of b7 rfl, ?_⟩
      cases hh : x.has with
      | false =>
        rw [hh] at w7 e
        refine cond_neg rfl ⟨?_, x27⟩
        unfold sayB; rw [e]
        simpa [List.append_assoc] using w7
      | true =>
        rw [hh] at w7 e
        have F7 := x27.keep F2
        have S7 := S2.mod x27.mod fun y hy => (F2 y hy).2
        rw [hh] at lb
        refine cond_pos rfl ⟨_, _, _, _, _, _, _, _, _, _, _, _, _, _, _, _, _, _, _, _, _, _, _, _, _, _, _, _, _, _, _, _, _, _, cell_of b7 rfl, cell_of b7 rfl, cell_of b7 rfl, cell_of b7 rfl, cell_of b7 rfl, cell_of b7 rfl, cell_of b7 rfl, cell_of b7 rfl, cell_of b7 rfl, cell_of b7 rfl, cell_of b7 rfl, cell_of b7 rfl, cell_of b7 rfl, cell_of b7 rfl, cell_of b7 rfl, cell_of b7 rfl, cell_of b7 rfl, cell_of b7 rfl, cell_of b7 rfl, cell_of b7 rfl, cell_of b7 rfl, cell_of b7 rfl, cell_of b7 rfl, cell_of b7 rfl, cell_of b7 rfl, cell_of b7 rfl, (puttask_any hI.tf hI.tv hI.tL x7.mod.ok w7 S7.t F7 S7.g F7 S7.p F7 hI.tj (by simp only [List.length_append]; omega)).mono ?_⟩
        rintro _ H8 ⟨rfl, w8, x8⟩
        refine ⟨rfl, ?_, x27.trans g2.ok x8⟩
        unfold sayB; rw [e]
        simpa [List.append_assoc] using w8
    · -- who leads
      have e : sayT x = sgB x.ld := by
        unfold sayT; rw [if_neg (by simpa using h1), if_neg (by simpa using h2), if_neg (by simpa using h3), if_pos (by simpa using h4)]
      refine ⟨_, cell_of b3 rfl, (yw_signed x3.mod.ok w3 hI.ld (by omega)).mono ?_⟩
      rintro _ H4 ⟨rfl, w4, x4⟩
      exact ⟨rfl, by unfold sayB; rw [e]; exact w4, x3.trans g2.ok x4⟩
    · have e : sayT x = askB x.ak x.ase (x.af 0) x.at' (x.af 1) := by
        unfold sayT; rw [if_neg (by simpa using h1), if_neg (by simpa using h2), if_neg (by simpa using h3), if_neg (by simpa using h4), if_pos (by simpa using h5)]
      refine ⟨_, _, _, _, _, cell_of b3 rfl, cell_of b3 rfl, cell_of b3 rfl, cell_of b3 rfl, cell_of b3 rfl, (putask_ok x3.mod.ok w3 hI.ak hI.ase (hI.af 0) (hI.af 1) (by have := hI.at'; omega)).mono ?_⟩
      rintro _ H4 ⟨rfl, w4, x4⟩
      exact ⟨rfl, by unfold sayB; rw [e]; exact w4, x3.trans g2.ok x4⟩
    · have e : sayT x = toldB x.tkd x.tse (tolF x) x.ok x.oer x.ost x.os := by
        unfold sayT; rw [if_neg (by simpa using h1), if_neg (by simpa using h2), if_neg (by simpa using h3), if_neg (by simpa using h4), if_neg (by simpa using h5), if_pos (by simpa using h6)]
      refine ⟨_, _, _, _, _, _, _, _, _, _, _, _, _, _, _, cell_of b3 rfl, cell_of b3 rfl, cell_of b3 rfl, cell_of b3 rfl, cell_of b3 rfl, cell_of b3 rfl, cell_of b3 rfl, cell_of b3 rfl, cell_of b3 rfl, cell_of b3 rfl, cell_of b3 rfl, cell_of b3 rfl, cell_of b3 rfl, (puttold_ok x3.mod.ok w3 hI.tkd hI.tse hI.te hI.tof hI.ok hI.oer hI.ost S3.o F3 hI.os hI.ol (by omega)).mono ?_⟩
      rintro _ H4 ⟨rfl, w4, x4⟩
      exact ⟨rfl, by unfold sayB; rw [e]; exact w4, x3.trans g2.ok x4⟩
    · have e : sayT x = cntsB [x.bf 0, x.bf 1, x.bf 2, x.bf 3] ++ (msgsB x.ms ++ mutsB x.us) := by
        unfold sayT; rw [if_neg (by simpa using h1), if_neg (by simpa using h2), if_neg (by simpa using h3), if_neg (by simpa using h4), if_neg (by simpa using h5), if_neg (by simpa using h6), if_pos (.inl (by simpa using h7))]
      have hxI : ∀ y ∈ [x.bf 0, x.bf 1, x.bf 2, x.bf 3], I64 y := by simp [hI.bf]
      have lc := cntsB_len hxI
      simp only [List.length_cons, List.length_nil] at lc
      refine ⟨_, cell_of b3 rfl, _, cell_of b3 rfl, _, cell_of b3 rfl, _, cell_of b3 rfl, ?_⟩
      intro H5 e5
      obtain ⟨g5, c5, n5⟩ := new_job x3.mod.ok e5
      have w5 := w3.grow g5
      have x5 := x3.trans g2.ok (WrX.grow x3.mod.ok w3 g5)
      have S5 : SlI (fun y => y = H3.next) H5 (some ⟨H3.next, 0, none⟩) 4 [x.bf 0, x.bf 1, x.bf 2, x.bf 3] := by
        refine ⟨rfl, fun _ => ⟨rfl, rfl⟩, fun i hi => ?_⟩
        rcases (show i = 0 ∨ i = 1 ∨ i = 2 ∨ i = 3 by simp at hi; omega) with rfl | rfl | rfl | rfl <;> exact cell_of c5 rfl
      refine (putcounts_ok (xs := [x.bf 0, x.bf 1, x.bf 2, x.bf 3]) g5.ok w5 S5 (by rintro y rfl; exact ⟨by omega, w3.new x3.mod.ok g5 (Nat.le_refl _)⟩) hxI (by simp) (by omega)).mono ?_
      rintro _ H6 ⟨rfl, w6, x6⟩
      have x26 := x5.trans g2.ok x6
      have b6 := x26.mod.get _ _ o2 b2
      have F6 := x26.keep F2
      have S6 := S2.mod x26.mod fun y hy => (F2 y hy).2
      have lm := flat_len (B := msgB) (m := 40) (xs := x.ms) fun y hy => msgB_len (hI.ms y hy)
      have lm2 := hI.ml
      have lm3 := enc_len64 (n := x.ms.length) (by omega)
      refine ⟨rfl, _, _, _, cell_of b6 rfl, (putmsgs_ok x6.mod.ok w6 S6.m F6 hI.ms hI.ml (by rw [List.length_append]; omega)).mono ?_⟩
      rintro _ H7 ⟨rfl, w7, x7⟩
      have x27 := x26.trans g2.ok x7
      have b7 := x27.mod.get _ _ o2 b2
      have F7 := x27.keep F2
      have S7 := S2.mod x27.mod fun y hy => (F2 y hy).2
      refine ⟨rfl, _, _, _, cell_of b7 rfl, (putmuts_ok x7.mod.ok w7 S7.u F7 hI.us hI.ul (by unfold msgsB; simp only [List.length_append]; omega)).mono ?_⟩
      rintro _ H8 ⟨rfl, w8, x8⟩
      refine ⟨rfl, ?_, x27.trans g2.ok x8⟩
      unfold sayB; rw [e]
      simpa [List.append_assoc] using w8
    · have e : sayT x = cntsB [x.bf 0, x.bf 1, x.bf 2, x.bf 3] ++ (msgsB x.ms ++ mutsB x.us) := by
        unfold sayT; rw [if_neg (by simpa using h1), if_neg (by simpa using h2), if_neg (by simpa using h3), if_neg (by simpa using h4), if_neg (by simpa using h5), if_neg (by simpa using h6), if_pos (.inr (by simpa using h8))]
      have hxI : ∀ y ∈ [x.bf 0, x.bf 1, x.bf 2, x.bf 3], I64 y := by simp [hI.bf]
      have lc := cntsB_len hxI
      simp only [List.length_cons, List.length_nil] at lc
      refine ⟨_, cell_of b3 rfl, _, cell_of b3 rfl, _, cell_of b3 rfl, _, cell_of b3 rfl, ?_⟩
      intro H5 e5
      obtain ⟨g5, c5, n5⟩ := new_job x3.mod.ok e5
      have w5 := w3.grow g5
      have x5 := x3.trans g2.ok (WrX.grow x3.mod.ok w3 g5)
      have S5 : SlI (fun y => y = H3.next) H5 (some ⟨H3.next, 0, none⟩) 4 [x.bf 0, x.bf 1, x.bf 2, x.bf 3] := by
        refine ⟨rfl, fun _ => ⟨rfl, rfl⟩, fun i hi => ?_⟩
        rcases (show i = 0 ∨ i = 1 ∨ i = 2 ∨ i = 3 by simp at hi; omega) with rfl | rfl | rfl | rfl <;> exact cell_of c5 rfl
      refine (putcounts_ok (xs := [x.bf 0, x.bf 1, x.bf 2, x.bf 3]) g5.ok w5 S5 (by rintro y rfl; exact ⟨by omega, w3.new x3.mod.ok g5 (Nat.le_refl _)⟩) hxI (by simp) (by omega)).mono ?_
      rintro _ H6 ⟨rfl, w6, x6⟩
      have x26 := x5.trans g2.ok x6
      have b6 := x26.mod.get _ _ o2 b2
      have F6 := x26.keep F2
      have S6 := S2.mod x26.mod fun y hy => (F2 y hy).2
      have lm := flat_len (B := msgB) (m := 40) (xs := x.ms) fun y hy => msgB_len (hI.ms y hy)
      have lm2 := hI.ml
      have lm3 := enc_len64 (n := x.ms.length) (by omega)
      refine ⟨rfl, _, _, _, cell_of b6 rfl, (putmsgs_ok x6.mod.ok w6 S6.m F6 hI.ms hI.ml (by rw [List.length_append]; omega)).mono ?_⟩
      rintro _ H7 ⟨rfl, w7, x7⟩
      have x27 := x26.trans g2.ok x7
      have b7 := x27.mod.get _ _ o2 b2
      have F7 := x27.keep F2
      have S7 := S2.mod x27.mod fun y hy => (F2 y hy).2
      refine ⟨rfl, _, _, _, cell_of b7 rfl, (putmuts_ok x7.mod.ok w7 S7.u F7 hI.us hI.ul (by unfold msgsB; simp only [List.length_append]; omega)).mono ?_⟩
      rintro _ H8 ⟨rfl, w8, x8⟩
      refine ⟨rfl, ?_, x27.trans g2.ok x8⟩
      unfold sayB; rw [e]
      simpa [List.append_assoc] using w8
    · have e : sayT x = [] := by
        unfold sayT; rw [if_neg (by simpa using h1), if_neg (by simpa using h2), if_neg (by simpa using h3), if_neg (by simpa using h4), if_neg (by simpa using h5), if_neg (by simpa using h6), if_neg (by rintro (h | h); exact absurd h (by simpa using h7); exact absurd h (by simpa using h8))]
      exact ⟨by unfold sayB; rw [e, List.append_nil]; exact w3, x3⟩
  · rintro H22 ⟨w22, x22⟩
    refine (wall_ok w22).mono ?_
    rintro _ _ ⟨rfl, rfl⟩
    exact ⟨_, rfl, rfl, Mod.then g12 x22.mod ok fun y hy => by have := w2.low hy; omega⟩
end
end Go.Proofs.Cx
namespace Go.Ev
open Go
def zS : SayW where
  kd := 0
  vf := fun _ => 0
  vt := []
  ve := []
  va := none
  vl := 0
  vc := 0
  wk := 0
  li := 0
  has := false
  rf := fun _ => 0
  rh := fun _ => false
  rv := fun _ => 0
  rs := []
  ra := none
  rl := 0
  rc := 0
  tk := ⟨fun _ => 0, fun _ => [], fun _ => false, fun _ => 0, zjw, false⟩
  ts := fun _ => (none, 0, 0)
  ga := none
  gl := 0
  gc := 0
  pa := none
  pl := 0
  pc := 0
  ld := 0
  ak := 0
  ase := 0
  af := fun _ => 0
  at' := []
  tkd := 0
  tse := 0
  tf := fun _ => 0
  te := 0
  ok := 0
  oer := 0
  ost := 0
  os := []
  oa := none
  ol := 0
  oc := 0
  bf := fun _ => 0
  ms := []
  ma := none
  ml := 0
  mc := 0
  us := []
  ua := none
  ul := 0
  uc := 0
theorem i64_0 : I64 0 := by unfold I64; omega
theorem zjA : JobA zjw := ⟨by simp [zjw], ⟨by simp [zjw], fun _ h => (by cases h)⟩, by simp [zjw], fun _ h => (by cases h), i64_0, i64_0, i64_0⟩
theorem sayI_z {k : Int} (hk : I64 k) : SayI { zS with kd := k } where
  kd := hk
  vf := fun _ => i64_0
  ve := fun _ h => (by cases h)
  vl := by simp [zS]
  vb := by
    have d := rangeB_len (g := fun _ => enc 0) (m := 10) (fun _ => enc_len64 (by omega)) 9
    have e0 := enc_len64 (n := 0) (by omega)
    have h1 : (vwB (fun _ => 0) [] []).length ≤ 1000 := by
      show ((List.range 9).flatMap (fun _ => enc 0) ++ (enc 0 ++ [] ++ (enc 0 ++ []))).length ≤ 1000
      simp only [List.length_append, List.length_nil]; omega
    exact Nat.le_trans h1 (by omega)
  wk := i64_0
  li := i64_0
  rf := fun _ => i64_0
  rv := fun _ => i64_0
  rs := fun _ h => (by cases h)
  rl := by simp [zS]
  tf := fun _ => i64_0
  tv := fun _ => i64_0
  tL := fun _ _ => ⟨by simp [zS], fun _ h => (by cases h)⟩
  tj := zjA
  ld := i64_0
  ak := i64_0
  ase := i64_0
  af := fun _ => i64_0
  at' := by simp [zS]
  tkd := i64_0
  tse := i64_0
  tof := fun _ => i64_0
  te := i64_0
  ok := i64_0
  oer := i64_0
  ost := i64_0
  os := fun _ h => (by cases h)
  ol := by simp [zS]
  bf := fun _ => i64_0
  ms := fun _ h => (by cases h)
  ml := by simp [zS]
  us := fun _ h => (by cases h)
  ul := by simp [zS]
theorem sl_nil {α : Type} {F : Nat → Prop} {H : AH} {sz : Nat} {P : AH → Nat → Nat → α → Prop} : Sl F H sz P none 0 [] := ⟨rfl, fun h => absurd h (Nat.lt_irrefl 0), fun i hi => absurd hi (Nat.not_lt_zero i)⟩
theorem sayS_z {F : Nat → Prop} {H : AH} {k : Int} : SayS F H { zS with kd := k } := ⟨sl_nil, sl_nil, fun _ _ => sl_nil, sl_nil, sl_nil, sl_nil, sl_nil, sl_nil⟩
theorem GraphI.any {G : List Vtx} (h : GraphI G) : GraphA G := ⟨by have := h.len; omega, fun v hv => ⟨(h.each v hv).id, (h.each v hv).val, by have := (h.each v hv).len; omega, (h.each v hv).edges⟩⟩
theorem JobI.any {j : JobW} (h : JobI j) (hc : jchk j = 0) : JobA j := by
  have hp := progs_short (jchk_zero hc).1
  refine ⟨by omega, h.graph.any, by have := h.params; omega, h.each, ?_, ?_, ?_⟩
  · have := h.steps; unfold I64; omega
  · have := h.sent; unfold I64; omega
  · have := h.parts; unfold I64; omega
theorem NatI.i64 {x : Int} (h : NatI x) : I64 x := by unfold NatI at h; unfold I64; omega
def DecJ (H5 : AH) (rb ob : Nat) (s : List UInt8) (Hx : AH) : Prop :=
  ∃ (z : SayW) (q' : RSt), SayS (fun y => H5.next ≤ y ∧ y < Hx.next) Hx z ∧ Hx.get ob = some (.cells (sayC z) 0) ∧ Rd Hx rb s q'.1 q'.2 ∧ Tk s (0, 0) q' (sayB z) ∧ (q'.2 = 0 → SayI z ∧ 1 ≤ z.kd ∧ z.kd ≤ 8) ∧ Mod (fun y => y = rb ∨ y = ob) H5 Hx
theorem Tk.le {s : List UInt8} {q q' : RSt} {bs : List UInt8} (h : Tk s q q' bs) (h0 : q'.2 = 0) : bs.length ≤ s.length := by
  have h1 := h.1
  unfold AtOk at h1
  obtain ⟨_, h2, _⟩ := h.2 h0
  omega
end Go.Ev
namespace Go.Proofs.Cx
open Go Go.Ev
section
variable {H : AH} {s : List UInt8}
set_option maxHeartbeats 8000000 in
set_option maxRecDepth 100000 in
theorem decsay_ok (ok : Ok H) (hs : s.length ≤ 140737270000000) :
    FW Ee F_serve_Decode [.string ⟨⟨s⟩⟩] H fun r H' => ∃ z e, r = .tuple ⟨[.agg ⟨sayC z⟩, .int .i64 e]⟩ ∧ Grow H H' ∧ SayS (fun y => H.next ≤ y ∧ y < H'.next) H' z ∧ ((e ≠ 0 ∧ z = zS) ∨ (e = 0 ∧ SayI z ∧ s = sayB z ∧ 1 ≤ z.kd ∧ z.kd ≤ 8)) := by
  refine fw_serve_Decode ?_
  intro H1 e1
  have e1 : H1 = H.new (.cells (sayC zS) 0) := e1
  obtain ⟨g1, b1, n1⟩ := new_job ok e1
  refine (newreader_ok g1.ok).mono ?_
  rintro _ H2 ⟨rfl, r2, g2⟩
  have n2 := g2.next
  have q2 : AtOk s (0, 0) := Nat.zero_le _
  have hs' : s.length ≤ 4611686018427387904 := by omega
  refine ⟨_, rfl, (xcnt_ok (q := (0, 0)) 8 (by omega) g2.ok r2 q2 hs').mono ?_⟩
  rintro _ H3 ⟨rfl, r3, m3⟩
  have t3 := tk_cntq (m := 8) q2
  have h3 := (rCnt_ok (m := 8) q2).2
  obtain ⟨n, hn⟩ : ∃ n, n = (rCnt s 8 (0, 0)).1 := ⟨_, rfl⟩
  obtain ⟨q3, hq3⟩ : ∃ q3, q3 = (rCnt s 8 (0, 0)).2 := ⟨_, rfl⟩
  rw [← hn, ← hq3] at t3
  rw [← hn] at h3 ⊢
  rw [← hq3] at r3
  have n3 := m3.next
  have hlt : H1.next < H2.next := g2.ok.lt r2
  have b3 := m3.get _ _ (show ¬ H.next = H1.next by omega) (g2.get _ _ not_false b1)
  refine ⟨_, rfl, ?_⟩
  intro H4 e4
  obtain ⟨H5, e5, b5, g5, n5⟩ := fresh_store (vs := sayC { zS with kd := (n : Int) }) e4 rfl rfl m3.ok
  have b5 : H5.get H3.next = some (.cells (sayC { zS with kd := (n : Int) }) 0) := b5
  have r5 := g5.get _ _ not_false r3
  have z5 := g5.get _ _ not_false b3
  have A5 : Grow H H5 := Mod.then (g1.trans g2) m3 ok (fun x hx => by omega) |>.trans g5
  have ne : H1.next ≠ H3.next := by omega
  have low : H.next ≤ H5.next := by omega
  -- a list that is new stays so
  have newer : ∀ {α : Type} {sz : Nat} {P : AH → Nat → Nat → α → Prop} {F : Nat → Prop} {Ha Hb : AH} {a : Option Addr} {l : Nat} {xs : List α} {S : Nat → Prop}, Ev.Loc F P → Sl F Ha sz P a l xs → (∀ x, F x → H5.next ≤ x ∧ x < Ha.next) → (∀ bb o x, P Hb bb o x → bb < Hb.next) → Mod S Ha Hb → (∀ x, S x → x = H1.next ∨ x = H3.next) → Sl (fun y => H5.next ≤ y ∧ y < Hb.next) Hb sz P a l xs := by
    intro α sz P F Ha Hb a l xs S hL hS hF hlt' hm hSS
    exact (hS.mod hL hm fun x hx hxs => by have := hSS x hxs; have := hF x hx; omega).weak (fun x hx _ => ⟨(hF x hx).1, by have := (hF x hx).2; have := hm.next; omega⟩) hlt'
  refine ⟨H5, e5, _, cell_of b5 rfl, DecJ H5 H1.next H3.next s, ?_, ?_⟩
  · refine cond_intro (fun h1 => ?_) (fun h1 => cond_intro (fun h2 => ?_) (fun h2 => cond_intro (fun h3 => ?_) (fun h3 => cond_intro (fun h4 => ?_) (fun h4 => cond_intro (fun h5 => ?_) (fun h5 => cond_intro (fun h6 => ?_) (fun h6 => cond_intro (fun h7 => ?_) (fun h7 => cond_intro (fun h8 => ?_) (fun h8 => ?_))))))))
    · -- between masters
      obtain rfl : n = 1 := by have : (n : Int) = 1 := by simpa using h1
                               omega
      refine (xview_ok (q := q3) g5.ok r5 t3.1 hs').mono ?_
      rintro _ H6 ⟨f, t, a, l, c, es, q', rfl, hf, hl, hE, hel, hee, r6, t6, m6⟩
      obtain ⟨z, hz⟩ : ∃ z : SayW, z = { zS with kd := 1, vf := f, vt := t, ve := es, va := a, vl := l, vc := c } := ⟨_, rfl⟩
      obtain ⟨H7, s7, b7, m7, n7⟩ := part_ok (o := 1) (vs := vwC f t a l c) (cs' := sayC z) (m6.get _ _ (Ne.symm ne) b5) (by rw [hz]; rfl) (by show 1 + 11 ≤ 86; omega) rfl m6.ok
      have e : sayB z = enc 1 ++ vwB f t es := by rw [hz]; simp [sayB, sayT]
      refine ⟨_, _, _, _, _, _, _, _, _, _, _, _, _, rfl, H7, s7, z, q', ?_, b7, m7.get _ _ ne r6, by rw [e]; exact t3.trans t6, fun h0 => ?_, (m6.le (fun _ h _ => .inl h) g5.ok).trans (m7.le (fun _ h _ => .inr h) m6.ok)⟩
      · rw [hz]
        exact ⟨newer loc_ent hE (fun x hx => hx) (fun bb o x hh => cell_lt m7.ok hh.1) m7 fun x hx => .inr hx, sl_nil, fun _ _ => sl_nil, sl_nil, sl_nil, sl_nil, sl_nil, sl_nil⟩
      · have hle := t6.le h0
        rw [hz]
        exact ⟨{ sayI_z (k := 1) (by unfold I64; omega) with vf := fun i => (hf i).i64, ve := fun e he => (hee e he).1.i64, vl := by show es.length ≤ 4000000; omega, vb := by show (vwB f t es).length ≤ 140737480000000; omega }, by show (1 : Int) ≤ 1; omega, by show (1 : Int) ≤ 8; omega⟩
    · -- a worker
      obtain rfl : n = 2 := by have : (n : Int) = 2 := by simpa using h2
                               omega
      intro H8 e8
      obtain ⟨g8, p8, n8⟩ := new_job g5.ok e8
      refine (takecounts_ok (q := q3) (T := (· = H3.next)) (S := fun xs Hx => Hx.get H3.next = some (.cells (sayC { zS with kd := 2, wk := xs.getD 0 0, li := xs.getD 1 0 }) 0)) (ps := [(H3.next, 12), (H3.next, 13)]) g8.ok (g8.get _ _ not_false r5) t3.1 hs' (g8.get _ _ not_false b5) p8 (by simp) (by omega) (show ¬ H5.next = H3.next by omega) (show ¬ H1.next = H3.next by omega) ?_ ?_).mono ?_
      · intro xs Hx hS okx hx x
        simp only [List.length_cons, List.length_nil] at hx
        rw [show (xs ++ [x]).getD 0 0 = upd (fun i => xs.getD i 0) xs.length x 0 from getD_app, show (xs ++ [x]).getD 1 0 = upd (fun i => xs.getD i 0) xs.length x 1 from getD_app]
        rcases (show xs.length = 0 ∨ xs.length = 1 by omega) with h | h
        · obtain ⟨Hy, sy, py, my, _⟩ := part_ok (o := 12) (vs := [.int .i64 x]) (cs' := sayC { zS with kd := 2, wk := upd (fun i => xs.getD i 0) 0 x 0, li := upd (fun i => xs.getD i 0) 0 x 1 }) hS rfl (by show 12 + 1 ≤ 86; omega) rfl okx
          refine ⟨Hy, ?_, by rw [h]; exact py, my⟩
          simp only [h]; exact sy
        · obtain ⟨Hy, sy, py, my, _⟩ := part_ok (o := 13) (vs := [.int .i64 x]) (cs' := sayC { zS with kd := 2, wk := upd (fun i => xs.getD i 0) 1 x 0, li := upd (fun i => xs.getD i 0) 1 x 1 }) hS rfl (by show 13 + 1 ≤ 86; omega) rfl okx
          refine ⟨Hy, ?_, by rw [h]; exact py, my⟩
          simp only [h]; exact sy
      · intro xs Hx Hy hS hm
        exact hm.get _ _ (Ne.symm ne) hS
      rintro _ H9 ⟨rfl, xs, q9, hx, hc, b9, r9, t9, m9⟩
      have hx2 : xs.length = 2 := hx
      have hcI : ∀ i, Cn (xs.getD i 0) := by
        intro i
        rcases Nat.lt_or_ge i xs.length with h | h
        · have : xs.getD i 0 = xs[i] := by simp [h]
          rw [this]; exact hc _ (List.getElem_mem h)
        · have : xs.getD i 0 = 0 := by simp [List.getElem?_eq_none h]
          rw [this]; unfold Cn; omega
      have exs : xs = [xs.getD 0 0, xs.getD 1 0] := by
        match xs, hx2 with
        | [u, v], _ => rfl
      refine ⟨rfl, (xbool_ok m9.ok r9 t9.1 hs').mono ?_⟩
      rintro _ H10 ⟨hb, q10, rfl, r10, t10, m10⟩
      obtain ⟨H11, s11, b11, m11, n11⟩ := part_ok (o := 14) (vs := [.bool hb]) (cs' := sayC { zS with kd := 2, wk := xs.getD 0 0, li := xs.getD 1 0, has := hb }) (m10.get _ _ (Ne.symm ne) b9) rfl (by show 14 + 1 ≤ 86; omega) rfl m10.ok
      have m9' : Mod (fun y => y = H1.next ∨ y = H3.next) H8 H9 := m9
      have M11 : Mod (fun y => y = H1.next ∨ y = H3.next) H5 H11 := (((g8.le (fun _ hf _ => hf.elim) g5.ok).trans m9').trans (m10.le (fun _ h _ => .inl h) m9.ok)).trans (m11.le (fun _ h _ => .inr h) m10.ok)
      have n511 := M11.next
      have r11 := m11.get _ _ ne r10
      refine ⟨_, rfl, H11, s11, _, cell_of b11 rfl, cond_intro (fun hh => ?_) (fun hh => ?_)⟩
      · subst hh
        refine (xrep_ok (q := q10) m11.ok r11 t10.1 hs').mono ?_
        rintro _ H12 ⟨f, h, v, a, l, c, vs, q', rfl, hf, hv, _, hV, hvl, hvI, r12, t12, m12⟩
        obtain ⟨z, hz⟩ : ∃ z : SayW, z = { zS with kd := 2, wk := xs.getD 0 0, li := xs.getD 1 0, has := true, rf := f, rh := h, rv := v, rs := vs, ra := a, rl := l, rc := c } := ⟨_, rfl⟩
        obtain ⟨H13, s13, b13, m13, n13⟩ := part_ok (o := 15) (vs := repC f h v a l c) (cs' := sayC z) (m12.get _ _ (Ne.symm ne) b11) (by rw [hz]; rfl) (by show 15 + 20 ≤ 86; omega) rfl m12.ok
        have e : sayB z = enc 2 ++ (cntsB xs ++ (enc 1 ++ repB f h v vs)) := by rw [hz, exs]; simp [sayB, sayT]
        refine ⟨_, _, _, _, _, _, _, _, _, _, _, _, _, _, _, _, _, _, _, _, _, _, rfl, H13, s13, z, q', ?_, b13, m13.get _ _ ne r12, by rw [e]; exact t3.trans (t9.trans (t10.trans t12)), fun h0 => ?_, (M11.trans (m12.le (fun _ h _ => .inl h) m11.ok)).trans (m13.le (fun _ h _ => .inr h) m12.ok)⟩
        · rw [hz]
          exact ⟨sl_nil, newer loc_edge hV (fun x hx => ⟨by have := hx.1; omega, hx.2⟩) (fun bb o x hh => cell_lt m13.ok hh.1) m13 fun x hx => .inr hx, fun _ _ => sl_nil, sl_nil, sl_nil, sl_nil, sl_nil, sl_nil⟩
        · rw [hz]
          exact ⟨{ sayI_z (k := 2) (by unfold I64; omega) with wk := (hcI 0).i64, li := (hcI 1).i64, rf := fun i => Cn.i64 (hf i), rv := hv, rs := hvI, rl := by show vs.length ≤ 4000000; omega }, by show (1 : Int) ≤ 2; omega, by show (2 : Int) ≤ 8; omega⟩
      · subst hh
        obtain ⟨z, hz⟩ : ∃ z : SayW, z = { zS with kd := 2, wk := xs.getD 0 0, li := xs.getD 1 0, has := false } := ⟨_, rfl⟩
        have e : sayB z = enc 2 ++ (cntsB xs ++ enc 0) := by rw [hz, exs]; simp [sayB, sayT]
        refine ⟨z, q10, by rw [hz]; exact ⟨sl_nil, sl_nil, fun _ _ => sl_nil, sl_nil, sl_nil, sl_nil, sl_nil, sl_nil⟩, by rw [hz]; exact b11, r11, by rw [e]; exact t3.trans (t9.trans t10), fun h0 => ?_, M11⟩
        rw [hz]
        exact ⟨{ sayI_z (k := 2) (by unfold I64; omega) with wk := (hcI 0).i64, li := (hcI 1).i64 }, by show (1 : Int) ≤ 2; omega, by show (2 : Int) ≤ 8; omega⟩
    · -- a task
      obtain rfl : n = 3 := by have : (n : Int) = 3 := by simpa using h3
                               omega
      refine (xbool_ok (q := q3) g5.ok r5 t3.1 hs').mono ?_
      rintro _ H10 ⟨hb, q10, rfl, r10, t10, m10⟩
      obtain ⟨H11, s11, b11, m11, n11⟩ := part_ok (o := 14) (vs := [.bool hb]) (cs' := sayC { zS with kd := 3, has := hb }) (m10.get _ _ (Ne.symm ne) b5) rfl (by show 14 + 1 ≤ 86; omega) rfl m10.ok
      have M11 : Mod (fun y => y = H1.next ∨ y = H3.next) H5 H11 := (m10.le (fun _ h _ => .inl h) g5.ok).trans (m11.le (fun _ h _ => .inr h) m10.ok)
      have n511 := M11.next
      have r11 := m11.get _ _ ne r10
      refine ⟨_, rfl, H11, s11, _, cell_of b11 rfl, cond_intro (fun hh => ?_) (fun hh => ?_)⟩
      · subst hh
        refine (xtask_ok (q := q10) m11.ok r11 t10.1 hs').mono ?_
        rintro _ H12 ⟨x, s2, a, l, c, pa, pl, pc, q', rfl, hf, hv, hL, hS2, hG, hP, hJ, _, hjc, r12, t12, m12⟩
        obtain ⟨z, hz⟩ : ∃ z : SayW, z = { zS with kd := 3, has := true, tk := x, ts := s2, ga := a, gl := l, gc := c, pa := pa, pl := pl, pc := pc } := ⟨_, rfl⟩
        obtain ⟨H13, s13, b13, m13, n13⟩ := part_ok (o := 35) (vs := tskC x.f s2 x.j a l c pa pl pc x.h x.v x.k) (cs' := sayC z) (m12.get _ _ (Ne.symm ne) b11) (by rw [hz]; rfl) (by show 35 + 26 ≤ 86; omega) rfl m12.ok
        have e : sayB z = enc 3 ++ (enc 1 ++ taskB x) := by rw [hz]; simp [sayB, sayT]
        refine ⟨_, _, _, _, _, _, _, _, _, _, _, _, _, _, _, _, _, _, _, _, _, _, _, _, _, _, _, _, _, _, _, _, _, _, rfl, H13, s13, z, q', ?_, b13, m13.get _ _ ne r12, by rw [e]; exact t3.trans (t10.trans t12), fun h0 => ?_, (M11.trans (m12.le (fun _ h _ => .inl h) m11.ok)).trans (m13.le (fun _ h _ => .inr h) m12.ok)⟩
        · rw [hz]
          refine ⟨sl_nil, sl_nil, fun i hi => newer loc_int (hS2 i hi) (fun x hx => ⟨by have := hx.1; omega, hx.2⟩) (int_lt m13.ok) m13 fun x hx => .inr hx, ?_, newer loc_int hP (fun x hx => ⟨by have := hx.1; omega, hx.2⟩) (int_lt m13.ok) m13 fun x hx => .inr hx, sl_nil, sl_nil, sl_nil⟩
          exact slv_weak m13.ok (hG.mod loc_vtx m13 fun y hy e => by have := hy.1; omega) fun y hy hlt => ⟨by have := hy.1; omega, hlt⟩
        · rw [hz]
          exact ⟨{ sayI_z (k := 3) (by unfold I64; omega) with tf := fun i => (hf i).i64, tv := hv, tL := fun i hi => ⟨by have := (hL i hi).1; show (x.L i).length ≤ 1048576; omega, fun e he => ((hL i hi).2 e he).i64⟩, tj := hJ.any (hjc h0) }, by show (1 : Int) ≤ 3; omega, by show (3 : Int) ≤ 8; omega⟩
      · subst hh
        obtain ⟨z, hz⟩ : ∃ z : SayW, z = { zS with kd := 3, has := false } := ⟨_, rfl⟩
        have e : sayB z = enc 3 ++ enc 0 := by rw [hz]; simp [sayB, sayT]
        refine ⟨z, q10, by rw [hz]; exact ⟨sl_nil, sl_nil, fun _ _ => sl_nil, sl_nil, sl_nil, sl_nil, sl_nil, sl_nil⟩, by rw [hz]; exact b11, r11, by rw [e]; exact t3.trans t10, fun h0 => ?_, M11⟩
        rw [hz]
        exact ⟨sayI_z (k := 3) (by unfold I64; omega), by show (1 : Int) ≤ 3; omega, by show (3 : Int) ≤ 8; omega⟩
    · -- who leads
      obtain rfl : n = 4 := by have : (n : Int) = 4 := by simpa using h4
                               omega
      refine (xsig_ok (q := q3) g5.ok r5 t3.1 hs').mono ?_
      rintro _ H18 ⟨rfl, r18, m18⟩
      have t18 := tk_sigq t3.1
      have hI := (rSig_ok t3.1).2
      have b18 := m18.get _ _ (Ne.symm ne) b5
      have fin : ∀ {Hx : AH} (qx : RSt), Mod (· = H1.next) H18 Hx → Rd Hx H1.next s qx.1 qx.2 → Tk s (0, 0) qx (enc 4 ++ sgB (rSig s q3).1) → ∃ Hy, storeCellsv Hx H3.next 61 [.int .i64 (rSig s q3).1] = some Hy ∧ DecJ H5 H1.next H3.next s Hy := by
        intro Hx qx mx rx tx
        obtain ⟨z, hz⟩ : ∃ z : SayW, z = { zS with kd := 4, ld := (rSig s q3).1 } := ⟨_, rfl⟩
        obtain ⟨Hy, sy, by', my, _⟩ := part_ok (o := 61) (vs := [.int .i64 (rSig s q3).1]) (cs' := sayC z) (mx.get _ _ (Ne.symm ne) b18) (by rw [hz]; rfl) (by show 61 + 1 ≤ 86; omega) rfl mx.ok
        have e : sayB z = enc 4 ++ sgB (rSig s q3).1 := by rw [hz]; simp [sayB, sayT]
        refine ⟨Hy, sy, z, qx, by rw [hz]; exact ⟨sl_nil, sl_nil, fun _ _ => sl_nil, sl_nil, sl_nil, sl_nil, sl_nil, sl_nil⟩, by', my.get _ _ ne rx, by rw [e]; exact tx, fun _ => ?_, ((m18.trans mx).le (fun _ h _ => .inl h) g5.ok).trans (my.le (fun _ h _ => .inr h) mx.ok)⟩
        rw [hz]
        exact ⟨{ sayI_z (k := 4) (by unfold I64; omega) with ld := hI }, by show (1 : Int) ≤ 4; omega, by show (4 : Int) ≤ 8; omega⟩
      have failq : ∀ {q : RSt}, (if q.2 = 0 then (6 : Int) else q.2) ≠ 0 := by
        intro q
        by_cases h : q.2 = 0
        · rw [if_pos h]; omega
        · rw [if_neg h]; exact h
      have T18 := t3.trans t18
      refine ⟨_, rfl, cond_intro (fun _ => ?_) (fun _ => cond_intro (fun _ => ?_) (fun _ => ?_))⟩
      · refine (rfail_ok m18.ok r18 6).mono ?_
        rintro _ H19 ⟨rfl, r19, m19⟩
        exact ⟨rfl, fin ((rSig s q3).2.1, if (rSig s q3).2.2 = 0 then 6 else (rSig s q3).2.2) m19 r19 (T18.any rfl failq)⟩
      · refine (rfail_ok m18.ok r18 6).mono ?_
        rintro _ H19 ⟨rfl, r19, m19⟩
        exact ⟨rfl, fin ((rSig s q3).2.1, if (rSig s q3).2.2 = 0 then 6 else (rSig s q3).2.2) m19 r19 (T18.any rfl failq)⟩
      · exact fin (rSig s q3).2 (.refl m18.ok) r18 T18
    · -- what a client asks
      obtain rfl : n = 5 := by have : (n : Int) = 5 := by simpa using h5
                               omega
      refine (xask_ok (q := q3) g5.ok r5 t3.1 hs').mono ?_
      rintro _ H6 ⟨kd, se, f, t, q', rfl, h1', h2', hf, hl, r6, t6, m6⟩
      obtain ⟨z, hz⟩ : ∃ z : SayW, z = { zS with kd := 5, ak := kd, ase := se, af := f, at' := t } := ⟨_, rfl⟩
      obtain ⟨H7, s7, b7, m7, n7⟩ := part_ok (o := 62) (vs := askC kd se f t) (cs' := sayC z) (m6.get _ _ (Ne.symm ne) b5) (by rw [hz]; rfl) (by show 62 + 5 ≤ 86; omega) rfl m6.ok
      have e : sayB z = enc 5 ++ askB kd se (f 0) t (f 1) := by rw [hz]; simp [sayB, sayT]
      refine ⟨_, _, _, _, _, rfl, H7, s7, z, q', by rw [hz]; exact ⟨sl_nil, sl_nil, fun _ _ => sl_nil, sl_nil, sl_nil, sl_nil, sl_nil, sl_nil⟩, b7, m7.get _ _ ne r6, by rw [e]; exact t3.trans t6, fun h0 => ?_, (m6.le (fun _ h _ => .inl h) g5.ok).trans (m7.le (fun _ h _ => .inr h) m6.ok)⟩
      rw [hz]
      exact ⟨{ sayI_z (k := 5) (by unfold I64; omega) with ak := h1'.i64, ase := h2', af := fun i => (hf i).i64, at' := by show t.length ≤ 140737280000000; omega }, by show (1 : Int) ≤ 5; omega, by show (5 : Int) ≤ 8; omega⟩
    · -- what a client is told
      obtain rfl : n = 6 := by have : (n : Int) = 6 := by simpa using h6
                               omega
      refine (xtold_ok (q := q3) g5.ok r5 t3.1 hs').mono ?_
      rintro _ H6 ⟨kd, se, f, k, er, st, a, l, c, vs, q', rfl, h1', h2', hf, hk, her, hst, hV, hvl, hvI, r6, t6, m6⟩
      obtain ⟨z, hz⟩ : ∃ z : SayW, z = { zS with kd := 6, tkd := kd, tse := se, tf := f, te := f 1, ok := k, oer := er, ost := st, os := vs, oa := a, ol := l, oc := c } := ⟨_, rfl⟩
      obtain ⟨H7, s7, b7, m7, n7⟩ := part_ok (o := 67) (vs := tldC kd se f (f 1) k er st a l c) (cs' := sayC z) (m6.get _ _ (Ne.symm ne) b5) (by rw [hz]; rfl) (by show 67 + 13 ≤ 86; omega) rfl m6.ok
      have ef : (fun i => if i = 1 then f 1 else f i) = f := by
        funext i
        by_cases h : i = 1
        · rw [if_pos h, h]
        · rw [if_neg h]
      have e : sayB z = enc 6 ++ toldB kd se f k er st vs := by
        have e0 : sayB z = enc 6 ++ toldB kd se (tolF z) k er st vs := by rw [hz]; simp [sayB, sayT]
        have e1 : tolF z = f := by rw [hz]; exact ef
        rw [e0, e1]
      refine ⟨_, _, _, _, _, _, _, _, _, _, _, _, _, _, _, rfl, H7, s7, z, q', ?_, b7, m7.get _ _ ne r6, by rw [e]; exact t3.trans t6, fun h0 => ?_, (m6.le (fun _ h _ => .inl h) g5.ok).trans (m7.le (fun _ h _ => .inr h) m6.ok)⟩
      · rw [hz]
        exact ⟨sl_nil, sl_nil, fun _ _ => sl_nil, sl_nil, sl_nil, newer loc_pair hV (fun x hx => hx) (fun bb o x hh => cell_lt m7.ok hh.1) m7 fun x hx => .inr hx, sl_nil, sl_nil⟩
      · rw [hz]
        exact ⟨{ sayI_z (k := 6) (by unfold I64; omega) with tkd := h1'.i64, tse := h2', tof := fun i => (hf i).i64, te := (hf 1).i64, ok := hk.i64, oer := her.i64, ost := hst.i64, os := hvI, ol := by show vs.length ≤ 4000000; omega }, by show (1 : Int) ≤ 6; omega, by show (6 : Int) ≤ 8; omega⟩
    · obtain rfl : n = 7 := by have : (n : Int) = 7 := by simpa using h7
                               omega
      intro H28 e28
      obtain ⟨g8, p8, n8⟩ := new_job g5.ok e28
      refine (takecounts_ok (q := q3) (T := (· = H3.next)) (S := fun xs Hx => Hx.get H3.next = some (.cells (sayC { zS with kd := 7, bf := fun i => xs.getD i 0 }) 0)) (ps := [(H3.next, 80), (H3.next, 81), (H3.next, 82), (H3.next, 83)]) g8.ok (g8.get _ _ not_false r5) t3.1 hs' (g8.get _ _ not_false b5) p8 (by simp) (by omega) (show ¬ H5.next = H3.next by omega) (show ¬ H1.next = H3.next by omega) ?_ ?_).mono ?_
      · intro xs Hx hS okx hx x
        simp only [List.length_cons, List.length_nil] at hx
        have hu : (fun i => (xs ++ [x]).getD i 0) = upd (fun i => xs.getD i 0) xs.length x := by funext i; exact getD_app
        rw [hu]
        have one : ∀ (k o : Nat), xs.length = k → o + 1 ≤ 86 → lset (sayC { zS with kd := 7, bf := fun i => xs.getD i 0 }) o [.int .i64 x] = sayC { zS with kd := 7, bf := upd (fun i => xs.getD i 0) k x } →
            ∃ H2, storeCellsv Hx H3.next o [.int .i64 x] = some H2 ∧ H2.get H3.next = some (.cells (sayC { zS with kd := 7, bf := upd (fun i => xs.getD i 0) xs.length x }) 0) ∧ Mod (· = H3.next) Hx H2 := by
          intro k o hk ho he
          obtain ⟨Hy, sy, py, my, _⟩ := part_ok (o := o) (vs := [.int .i64 x]) hS he (by show o + 1 ≤ 86; omega) rfl okx
          exact ⟨Hy, sy, by rw [hk]; exact py, my⟩
        rcases (show xs.length = 0 ∨ xs.length = 1 ∨ xs.length = 2 ∨ xs.length = 3 by omega) with h | h | h | h
        · obtain ⟨Hy, sy, rest⟩ := one 0 80 h (by omega) rfl
          refine ⟨Hy, ?_, rest⟩
          simp only [h]; exact sy
        · obtain ⟨Hy, sy, rest⟩ := one 1 81 h (by omega) rfl
          refine ⟨Hy, ?_, rest⟩
          simp only [h]; exact sy
        · obtain ⟨Hy, sy, rest⟩ := one 2 82 h (by omega) rfl
          refine ⟨Hy, ?_, rest⟩
          simp only [h]; exact sy
        · obtain ⟨Hy, sy, rest⟩ := one 3 83 h (by omega) rfl
          refine ⟨Hy, ?_, rest⟩
          simp only [h]; exact sy
      · intro xs Hx Hy hS hm
        exact hm.get _ _ (Ne.symm ne) hS
      rintro _ H29 ⟨rfl, xs, q9, hx, hc, b9, r9, t9, m9⟩
      have hx4 : xs.length = 4 := hx
      have hcI : ∀ i, Cn (xs.getD i 0) := by
        intro i
        rcases Nat.lt_or_ge i xs.length with h | h
        · have : xs.getD i 0 = xs[i] := by simp [h]
          rw [this]; exact hc _ (List.getElem_mem h)
        · have : xs.getD i 0 = 0 := by simp [List.getElem?_eq_none h]
          rw [this]; unfold Cn; omega
      have exs : [xs.getD 0 0, xs.getD 1 0, xs.getD 2 0, xs.getD 3 0] = xs := by
        match xs, hx4 with
        | [u, v, w, y], _ => rfl
      have m9' : Mod (fun y => y = H1.next ∨ y = H3.next) H28 H29 := m9
      have M9 : Mod (fun y => y = H1.next ∨ y = H3.next) H5 H29 := (g8.le (fun _ hf _ => hf.elim) g5.ok).trans m9'
      have n59 := M9.next
      refine ⟨rfl, (xmsgs_ok m9.ok r9 t9.1 hs').mono ?_⟩
      rintro _ H30 ⟨a, l, c, ms, q10, rfl, hM, hml, hmI, r10, t10, m10⟩
      have n10 := m10.next
      refine ⟨_, _, _, rfl, (xmuts_ok m10.ok r10 t10.1 hs').mono ?_⟩
      rintro _ H31 ⟨a', l', c', us, q', rfl, hU, hul, huI, r11, t11, m11⟩
      have n11 := m11.next
      obtain ⟨H32, s32, b32, m32, n32⟩ := part_ok (o := 84) (vs := [.slice a l c]) (cs' := sayC { zS with kd := 7, bf := fun i => xs.getD i 0, ma := a, ml := l, mc := c }) (m11.get _ _ (Ne.symm ne) (m10.get _ _ (Ne.symm ne) b9)) rfl (by show 84 + 1 ≤ 86; omega) rfl m11.ok
      obtain ⟨z, hz⟩ : ∃ z : SayW, z = { zS with kd := 7, bf := fun i => xs.getD i 0, ma := a, ml := l, mc := c, ms := ms, ua := a', ul := l', uc := c', us := us } := ⟨_, rfl⟩
      obtain ⟨H33, s33, b33, m33, n33⟩ := part_ok (o := 85) (vs := [.slice a' l' c']) (cs' := sayC z) b32 (by rw [hz]; rfl) (by show 85 + 1 ≤ 86; omega) rfl m32.ok
      have e : sayB z = enc 7 ++ (cntsB xs ++ (msgsB ms ++ mutsB us)) := by
        have e0 : sayB z = enc 7 ++ (cntsB [xs.getD 0 0, xs.getD 1 0, xs.getD 2 0, xs.getD 3 0] ++ (msgsB ms ++ mutsB us)) := by rw [hz]; simp [sayB, sayT]
        rw [e0, exs]
      have m1133 := (m32.trans m33)
      refine ⟨_, _, _, rfl, H32, s32, H33, s33, z, q', ?_, b33, m33.get _ _ ne (m32.get _ _ ne r11), by rw [e]; exact t3.trans (t9.trans (t10.trans t11)), fun h0 => ?_, ((M9.trans (m10.le (fun _ h _ => .inl h) m9.ok)).trans (m11.le (fun _ h _ => .inl h) m10.ok)).trans (m1133.le (fun _ h _ => .inr h) m11.ok)⟩
      · rw [hz]
        exact ⟨sl_nil, sl_nil, fun _ _ => sl_nil, sl_nil, sl_nil, sl_nil, newer (S := fun y => y = H1.next ∨ y = H3.next) loc_four hM (fun x hx => ⟨by have := hx.1; omega, hx.2⟩) (fun bb o x hh => cell_lt m33.ok hh.1) ((m11.le (fun _ h _ => .inl h) m10.ok).trans (m1133.le (fun _ h _ => .inr h) m11.ok)) fun x hx => hx, newer loc_four hU (fun x hx => ⟨by have := hx.1; omega, hx.2⟩) (fun bb o x hh => cell_lt m33.ok hh.1) m1133 fun x hx => .inr hx⟩
      · rw [hz]
        exact ⟨{ sayI_z (k := 7) (by unfold I64; omega) with bf := fun i => (hcI i).i64, ms := hmI, ml := by show ms.length ≤ 4000000; omega, us := huI, ul := by show us.length ≤ 4000000; omega }, by show (1 : Int) ≤ 7; omega, by show (7 : Int) ≤ 8; omega⟩
    · obtain rfl : n = 8 := by have : (n : Int) = 8 := by simpa using h8
                               omega
      intro H28 e28
      obtain ⟨g8, p8, n8⟩ := new_job g5.ok e28
      refine (takecounts_ok (q := q3) (T := (· = H3.next)) (S := fun xs Hx => Hx.get H3.next = some (.cells (sayC { zS with kd := 8, bf := fun i => xs.getD i 0 }) 0)) (ps := [(H3.next, 80), (H3.next, 81), (H3.next, 82), (H3.next, 83)]) g8.ok (g8.get _ _ not_false r5) t3.1 hs' (g8.get _ _ not_false b5) p8 (by simp) (by omega) (show ¬ H5.next = H3.next by omega) (show ¬ H1.next = H3.next by omega) ?_ ?_).mono ?_
      · intro xs Hx hS okx hx x
        simp only [List.length_cons, List.length_nil] at hx
        have hu : (fun i => (xs ++ [x]).getD i 0) = upd (fun i => xs.getD i 0) xs.length x := by funext i; exact getD_app
        rw [hu]
        have one : ∀ (k o : Nat), xs.length = k → o + 1 ≤ 86 → lset (sayC { zS with kd := 8, bf := fun i => xs.getD i 0 }) o [.int .i64 x] = sayC { zS with kd := 8, bf := upd (fun i => xs.getD i 0) k x } →
            ∃ H2, storeCellsv Hx H3.next o [.int .i64 x] = some H2 ∧ H2.get H3.next = some (.cells (sayC { zS with kd := 8, bf := upd (fun i => xs.getD i 0) xs.length x }) 0) ∧ Mod (· = H3.next) Hx H2 := by
          intro k o hk ho he
          obtain ⟨Hy, sy, py, my, _⟩ := part_ok (o := o) (vs := [.int .i64 x]) hS he (by show o + 1 ≤ 86; omega) rfl okx
          exact ⟨Hy, sy, by rw [hk]; exact py, my⟩
        rcases (show xs.length = 0 ∨ xs.length = 1 ∨ xs.length = 2 ∨ xs.length = 3 by omega) with h | h | h | h
        · obtain ⟨Hy, sy, rest⟩ := one 0 80 h (by omega) rfl
          refine ⟨Hy, ?_, rest⟩
          simp only [h]; exact sy
        · obtain ⟨Hy, sy, rest⟩ := one 1 81 h (by omega) rfl
          refine ⟨Hy, ?_, rest⟩
          simp only [h]; exact sy
        · obtain ⟨Hy, sy, rest⟩ := one 2 82 h (by omega) rfl
          refine ⟨Hy, ?_, rest⟩
          simp only [h]; exact sy
        · obtain ⟨Hy, sy, rest⟩ := one 3 83 h (by omega) rfl
          refine ⟨Hy, ?_, rest⟩
          simp only [h]; exact sy
      · intro xs Hx Hy hS hm
        exact hm.get _ _ (Ne.symm ne) hS
      rintro _ H29 ⟨rfl, xs, q9, hx, hc, b9, r9, t9, m9⟩
      have hx4 : xs.length = 4 := hx
      have hcI : ∀ i, Cn (xs.getD i 0) := by
        intro i
        rcases Nat.lt_or_ge i xs.length with h | h
        · have : xs.getD i 0 = xs[i] := by simp [h]
          rw [this]; exact hc _ (List.getElem_mem h)
        · have : xs.getD i 0 = 0 := by simp [List.getElem?_eq_none h]
          rw [this]; unfold Cn; omega
      have exs : [xs.getD 0 0, xs.getD 1 0, xs.getD 2 0, xs.getD 3 0] = xs := by
        match xs, hx4 with
        | [u, v, w, y], _ => rfl
      have m9' : Mod (fun y => y = H1.next ∨ y = H3.next) H28 H29 := m9
      have M9 : Mod (fun y => y = H1.next ∨ y = H3.next) H5 H29 := (g8.le (fun _ hf _ => hf.elim) g5.ok).trans m9'
      have n59 := M9.next
      refine ⟨rfl, (xmsgs_ok m9.ok r9 t9.1 hs').mono ?_⟩
      rintro _ H30 ⟨a, l, c, ms, q10, rfl, hM, hml, hmI, r10, t10, m10⟩
      have n10 := m10.next
      refine ⟨_, _, _, rfl, (xmuts_ok m10.ok r10 t10.1 hs').mono ?_⟩
      rintro _ H31 ⟨a', l', c', us, q', rfl, hU, hul, huI, r11, t11, m11⟩
      have n11 := m11.next
      obtain ⟨H32, s32, b32, m32, n32⟩ := part_ok (o := 84) (vs := [.slice a l c]) (cs' := sayC { zS with kd := 8, bf := fun i => xs.getD i 0, ma := a, ml := l, mc := c }) (m11.get _ _ (Ne.symm ne) (m10.get _ _ (Ne.symm ne) b9)) rfl (by show 84 + 1 ≤ 86; omega) rfl m11.ok
      obtain ⟨z, hz⟩ : ∃ z : SayW, z = { zS with kd := 8, bf := fun i => xs.getD i 0, ma := a, ml := l, mc := c, ms := ms, ua := a', ul := l', uc := c', us := us } := ⟨_, rfl⟩
      obtain ⟨H33, s33, b33, m33, n33⟩ := part_ok (o := 85) (vs := [.slice a' l' c']) (cs' := sayC z) b32 (by rw [hz]; rfl) (by show 85 + 1 ≤ 86; omega) rfl m32.ok
      have e : sayB z = enc 8 ++ (cntsB xs ++ (msgsB ms ++ mutsB us)) := by
        have e0 : sayB z = enc 8 ++ (cntsB [xs.getD 0 0, xs.getD 1 0, xs.getD 2 0, xs.getD 3 0] ++ (msgsB ms ++ mutsB us)) := by rw [hz]; simp [sayB, sayT]
        rw [e0, exs]
      have m1133 := (m32.trans m33)
      refine ⟨_, _, _, rfl, H32, s32, H33, s33, z, q', ?_, b33, m33.get _ _ ne (m32.get _ _ ne r11), by rw [e]; exact t3.trans (t9.trans (t10.trans t11)), fun h0 => ?_, ((M9.trans (m10.le (fun _ h _ => .inl h) m9.ok)).trans (m11.le (fun _ h _ => .inl h) m10.ok)).trans (m1133.le (fun _ h _ => .inr h) m11.ok)⟩
      · rw [hz]
        exact ⟨sl_nil, sl_nil, fun _ _ => sl_nil, sl_nil, sl_nil, sl_nil, newer (S := fun y => y = H1.next ∨ y = H3.next) loc_four hM (fun x hx => ⟨by have := hx.1; omega, hx.2⟩) (fun bb o x hh => cell_lt m33.ok hh.1) ((m11.le (fun _ h _ => .inl h) m10.ok).trans (m1133.le (fun _ h _ => .inr h) m11.ok)) fun x hx => hx, newer loc_four hU (fun x hx => ⟨by have := hx.1; omega, hx.2⟩) (fun bb o x hh => cell_lt m33.ok hh.1) m1133 fun x hx => .inr hx⟩
      · rw [hz]
        exact ⟨{ sayI_z (k := 8) (by unfold I64; omega) with bf := fun i => (hcI i).i64, ms := hmI, ml := by show ms.length ≤ 4000000; omega, us := huI, ul := by show us.length ≤ 4000000; omega }, by show (1 : Int) ≤ 8; omega, by show (8 : Int) ≤ 8; omega⟩
    · refine (rfail_ok g5.ok r5 6).mono ?_
      rintro _ H40 ⟨rfl, r40, m40⟩
      have hq : (if q3.2 = 0 then (6 : Int) else q3.2) ≠ 0 := by
        by_cases h : q3.2 = 0
        · rw [if_pos h]; omega
        · rw [if_neg h]; exact h
      exact ⟨rfl, { zS with kd := (n : Int) }, (q3.1, if q3.2 = 0 then 6 else q3.2), sayS_z, m40.get _ _ (Ne.symm ne) b5, r40, t3.any rfl hq, fun h => absurd h hq, m40.le (fun _ h _ => .inl h) g5.ok⟩
  · rintro H41 ⟨z, q', hS, bz, rz, tz, hz, mz⟩
    have nz := mz.next
    refine (rend_ok mz.ok rz tz.1 hs').mono ?_
    rintro _ H42 ⟨e', rfl, r42, m42, hor⟩
    have n42 := m42.next
    have b42 := m42.get _ _ (Ne.symm ne) bz
    have S42 := hS.mod m42 fun y hy e => by have := hy.1; omega
    have z42 := m42.get _ _ (show ¬ H.next = H1.next by omega) (mz.get _ _ (show ¬ (H.next = H1.next ∨ H.next = H3.next) by omega) z5)
    have A42 : Grow H H42 := Mod.then (Mod.then A5 mz ok fun y hy => by rcases hy with rfl | rfl <;> omega) m42 ok fun y hy => by omega
    refine ⟨_, rfl, cond_intro (fun he => ?_) (fun he => ?_)⟩
    · have he : e' ≠ 0 := by simpa using he
      obtain ⟨H43, s43, b43, m43, n43⟩ := fill_ok (vs := sayC zS) z42 rfl rfl m42.ok
      exact ⟨H43, s43, _, _, _, _, _, _, _, _, _, _, _, _, _, _, _, _, _, _, _, _, _, _, _, _, _, _, _, _, _, _, _, _, _, _, _, _, _, _, _, _, _, _, _, _, _, _, _, _, _, _, _, _, _, _, _, _, _, _, _, _, _, _, _, _, _, _, _, _, _, _, _, _, _, _, _, _, _, _, _, _, _, _, _, _, _, _, _, _, _, _, _, _, _, _, _, _, _, _, _, _, _, _, _, _, cell_of b43 rfl, cell_of b43 rfl, cell_of b43 rfl, cell_of b43 rfl, cell_of b43 rfl, cell_of b43 rfl, cell_of b43 rfl, cell_of b43 rfl, cell_of b43 rfl, cell_of b43 rfl, cell_of b43 rfl, cell_of b43 rfl, cell_of b43 rfl, cell_of b43 rfl, cell_of b43 rfl, cell_of b43 rfl, cell_of b43 rfl, cell_of b43 rfl, cell_of b43 rfl, cell_of b43 rfl, cell_of b43 rfl, cell_of b43 rfl, cell_of b43 rfl, cell_of b43 rfl, cell_of b43 rfl, cell_of b43 rfl, cell_of b43 rfl, cell_of b43 rfl, cell_of b43 rfl, cell_of b43 rfl, cell_of b43 rfl, cell_of b43 rfl, cell_of b43 rfl, cell_of b43 rfl, cell_of b43 rfl, cell_of b43 rfl, cell_of b43 rfl, cell_of b43 rfl, cell_of b43 rfl, cell_of b43 rfl, cell_of b43 rfl, cell_of b43 rfl, cell_of b43 rfl, cell_of b43 rfl, cell_of b43 rfl, cell_of b43 rfl, cell_of b43 rfl, cell_of b43 rfl, cell_of b43 rfl, cell_of b43 rfl, cell_of b43 rfl, cell_of b43 rfl, cell_of b43 rfl, cell_of b43 rfl, cell_of b43 rfl, cell_of b43 rfl, cell_of b43 rfl, cell_of b43 rfl, cell_of b43 rfl, cell_of b43 rfl, cell_of b43 rfl, cell_of b43 rfl, cell_of b43 rfl, cell_of b43 rfl, cell_of b43 rfl, cell_of b43 rfl, cell_of b43 rfl, cell_of b43 rfl, cell_of b43 rfl, cell_of b43 rfl, cell_of b43 rfl, cell_of b43 rfl, cell_of b43 rfl, cell_of b43 rfl, cell_of b43 rfl, cell_of b43 rfl, cell_of b43 rfl, cell_of b43 rfl, cell_of b43 rfl, cell_of b43 rfl, cell_of b43 rfl, cell_of b43 rfl, cell_of b43 rfl, cell_of b43 rfl, cell_of b43 rfl, cell_of b43 rfl, zS, e', rfl, Mod.then A42 m43 ok fun y hy => by omega, sayS_z (k := 0), .inl ⟨he, rfl⟩⟩
    · have he : e' = 0 := by simpa using he
      obtain ⟨H44, s44, b44, m44, n44⟩ := fill_ok (vs := sayC z) z42 rfl rfl m42.ok
      refine ⟨_, _, _, _, _, _, _, _, _, _, _, _, _, _, _, _, _, _, _, _, _, _, _, _, _, _, _, _, _, _, _, _, _, _, _, _, _, _, _, _, _, _, _, _, _, _, _, _, _, _, _, _, _, _, _, _, _, _, _, _, _, _, _, _, _, _, _, _, _, _, _, _, _, _, _, _, _, _, _, _, _, _, _, _, _, _, _, _, _, _, _, _, _, _, _, _, _, _, _, _, _, _, _, _, cell_of b42 rfl, cell_of b42 rfl, cell_of b42 rfl, cell_of b42 rfl, cell_of b42 rfl, cell_of b42 rfl, cell_of b42 rfl, cell_of b42 rfl, cell_of b42 rfl, cell_of b42 rfl, cell_of b42 rfl, cell_of b42 rfl, cell_of b42 rfl, cell_of b42 rfl, cell_of b42 rfl, cell_of b42 rfl, cell_of b42 rfl, cell_of b42 rfl, cell_of b42 rfl, cell_of b42 rfl, cell_of b42 rfl, cell_of b42 rfl, cell_of b42 rfl, cell_of b42 rfl, cell_of b42 rfl, cell_of b42 rfl, cell_of b42 rfl, cell_of b42 rfl, cell_of b42 rfl, cell_of b42 rfl, cell_of b42 rfl, cell_of b42 rfl, cell_of b42 rfl, cell_of b42 rfl, cell_of b42 rfl, cell_of b42 rfl, cell_of b42 rfl, cell_of b42 rfl, cell_of b42 rfl, cell_of b42 rfl, cell_of b42 rfl, cell_of b42 rfl, cell_of b42 rfl, cell_of b42 rfl, cell_of b42 rfl, cell_of b42 rfl, cell_of b42 rfl, cell_of b42 rfl, cell_of b42 rfl, cell_of b42 rfl, cell_of b42 rfl, cell_of b42 rfl, cell_of b42 rfl, cell_of b42 rfl, cell_of b42 rfl, cell_of b42 rfl, cell_of b42 rfl, cell_of b42 rfl, cell_of b42 rfl, cell_of b42 rfl, cell_of b42 rfl, cell_of b42 rfl, cell_of b42 rfl, cell_of b42 rfl, cell_of b42 rfl, cell_of b42 rfl, cell_of b42 rfl, cell_of b42 rfl, cell_of b42 rfl, cell_of b42 rfl, cell_of b42 rfl, cell_of b42 rfl, cell_of b42 rfl, cell_of b42 rfl, cell_of b42 rfl, cell_of b42 rfl, cell_of b42 rfl, cell_of b42 rfl, cell_of b42 rfl, cell_of b42 rfl, cell_of b42 rfl, cell_of b42 rfl, cell_of b42 rfl, cell_of b42 rfl, cell_of b42 rfl, cell_of b42 rfl, H44, s44, _, _, _, _, _, _, _, _, _, _, _, _, _, _, _, _, _, _, _, _, _, _, _, _, _, _, _, _, _, _, _, _, _, _, _, _, _, _, _, _, _, _, _, _, _, _, _, _, _, _, _, _, _, _, _, _, _, _, _, _, _, _, _, _, _, _, _, _, _, _, _, _, _, _, _, _, _, _, _, _, _, _, _, _, _, _, _, _, _, _, _, _, _, _, _, _, _, _, _, _, _, _, _, _, cell_of b44 rfl, cell_of b44 rfl, cell_of b44 rfl, cell_of b44 rfl, cell_of b44 rfl, cell_of b44 rfl, cell_of b44 rfl, cell_of b44 rfl, cell_of b44 rfl, cell_of b44 rfl, cell_of b44 rfl, cell_of b44 rfl, cell_of b44 rfl, cell_of b44 rfl, cell_of b44 rfl, cell_of b44 rfl, cell_of b44 rfl, cell_of b44 rfl, cell_of b44 rfl, cell_of b44 rfl, cell_of b44 rfl, cell_of b44 rfl, cell_of b44 rfl, cell_of b44 rfl, cell_of b44 rfl, cell_of b44 rfl, cell_of b44 rfl, cell_of b44 rfl, cell_of b44 rfl, cell_of b44 rfl, cell_of b44 rfl, cell_of b44 rfl, cell_of b44 rfl, cell_of b44 rfl, cell_of b44 rfl, cell_of b44 rfl, cell_of b44 rfl, cell_of b44 rfl, cell_of b44 rfl, cell_of b44 rfl, cell_of b44 rfl, cell_of b44 rfl, cell_of b44 rfl, cell_of b44 rfl, cell_of b44 rfl, cell_of b44 rfl, cell_of b44 rfl, cell_of b44 rfl, cell_of b44 rfl, cell_of b44 rfl, cell_of b44 rfl, cell_of b44 rfl, cell_of b44 rfl, cell_of b44 rfl, cell_of b44 rfl, cell_of b44 rfl, cell_of b44 rfl, cell_of b44 rfl, cell_of b44 rfl, cell_of b44 rfl, cell_of b44 rfl, cell_of b44 rfl, cell_of b44 rfl, cell_of b44 rfl, cell_of b44 rfl, cell_of b44 rfl, cell_of b44 rfl, cell_of b44 rfl, cell_of b44 rfl, cell_of b44 rfl, cell_of b44 rfl, cell_of b44 rfl, cell_of b44 rfl, cell_of b44 rfl, cell_of b44 rfl, cell_of b44 rfl, cell_of b44 rfl, cell_of b44 rfl, cell_of b44 rfl, cell_of b44 rfl, cell_of b44 rfl, cell_of b44 rfl, cell_of b44 rfl, cell_of b44 rfl, cell_of b44 rfl, cell_of b44 rfl, z, 0, rfl, Mod.then A42 m44 ok fun y hy => by omega, ?_, .inr ⟨rfl, ?_⟩⟩
      · have S44 := S42.mod m44 fun y hy e => by have := hy.1; omega
        have wk : ∀ y, (H5.next ≤ y ∧ y < H41.next) → y < H44.next → H.next ≤ y ∧ y < H44.next := fun y hy hl => ⟨by omega, hl⟩
        exact ⟨S44.v.weak wk fun bb o x hh => cell_lt m44.ok hh.1, S44.r.weak wk fun bb o x hh => cell_lt m44.ok hh.1, fun i hi => (S44.t i hi).weak wk (int_lt m44.ok), slv_weak m44.ok S44.g wk, S44.p.weak wk (int_lt m44.ok), S44.o.weak wk fun bb o x hh => cell_lt m44.ok hh.1, S44.m.weak wk fun bb o x hh => cell_lt m44.ok hh.1, S44.u.weak wk fun bb o x hh => cell_lt m44.ok hh.1⟩
      · rcases hor with ⟨h, h'⟩ | ⟨h, hp, h'⟩ | ⟨h, hp, h'⟩
        · exact absurd (h'.symm.trans he) h
        · obtain ⟨i1, i2, i3⟩ := hz h
          obtain ⟨_, k2, k3⟩ := tz.2 h
          refine ⟨i1, ?_, i2, i3⟩
          rw [hp, List.drop_length, List.append_nil] at k3
          simpa using k3
        · omega
end
end Go.Proofs.Cx
