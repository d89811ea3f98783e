/- Writers that know what they change; graphs are put. Graphs are taken: the program's and the document's. Graphs are taken, as the document has it. Jobs that may be: the program's check and the document's. -/
import Derived.Test.YtphgkdcifemmmaaGreatC1
import Derived.Test.YtphgkdcifemmmaaGreatC2
import Derived.Test.YtphgkdcifemmmaaGreatVc1
namespace Go.Ev
open Go
structure WrX (H : AH) (b : Nat) (H' : AH) : Prop where
  mod : Mod (WrS H b) H H'
  old : ∀ x, WrS H' b x → WrS H b x ∨ H.next ≤ x
theorem WrX.trans {H H1 H2 : AH} {b : Nat} (ok : Ok H) (h : WrX H b H1) (k : WrX H1 b H2) : WrX H b H2 := by
  refine ⟨h.mod.ext k.mod ok fun x hx => h.old x hx, fun x hx => ?_⟩
  rcases k.old x hx with h1 | h1
  · exact h.old x h1
  · have := h.mod.next
    right; omega
theorem WrX.grow {H H' : AH} {n0 b : Nat} {bs : List UInt8} (ok : Ok H) (hw : Wr H n0 b bs) (g : Grow H H') : WrX H b H' := ⟨g.le (fun _ h _ => h.elim) ok, fun _ hx => .inl (hw.old g hx)⟩
theorem WrX.off {H H' : AH} {b x : Nat} (h : WrX H b H') (hx : ¬ WrS H b x) (hl : x < H.next) : ¬ WrS H' b x := fun k => by
  rcases h.old x k with h1 | h1
  · exact hx h1
  · omega
theorem WrX.keep {F : Nat → Prop} {H H' : AH} {b : Nat} (h : WrX H b H') (hF : ∀ x, F x → x < H.next ∧ ¬ WrS H b x) : ∀ x, F x → x < H'.next ∧ ¬ WrS H' b x := fun x hx => by
  obtain ⟨h1, h2⟩ := hF x hx
  have := h.mod.next
  exact ⟨by omega, h.off h2 h1⟩
theorem Wr.new {H H' : AH} {n0 b x : Nat} {bs : List UInt8} (ok : Ok H) (hw : Wr H n0 b bs) (g : Grow H H') (hx : H.next ≤ x) : ¬ WrS H' b x := fun k => by
  have := hw.lt ok (hw.old g k)
  omega
theorem pairsB_take {es : List (Int × Int)} (h : ∀ e ∈ es, PairI e) (p : Nat) : ((es.take p).flatMap pairB).length ≤ es.length * 20 := by
  have : ∀ es : List (Int × Int), (∀ e ∈ es, PairI e) → (es.flatMap pairB).length ≤ es.length * 20 := by
    intro es
    induction es with
    | nil => simp
    | cons e es ih =>
      intro h
      have h1 := ih fun x hx => h x (List.mem_cons_of_mem _ hx)
      have h2 := enc_len64 (fold_lt (h e List.mem_cons_self).1)
      have h3 := enc_len64 (fold_lt (h e List.mem_cons_self).2)
      rw [List.flatMap_cons, List.length_append, List.length_cons]
      have : (pairB e).length ≤ 20 := by rw [pairB, List.length_append]; unfold sgB; omega
      omega
  have := this (es.take p) fun e he => h e (List.mem_of_mem_take he)
  rw [List.length_take] at this
  omega
theorem take_flat {α β : Type} {f : α → List β} {l : List α} {p : Nat} (h : p < l.length) : (l.take (p + 1)).flatMap f = (l.take p).flatMap f ++ f l[p] := by
  rw [List.take_succ_eq_append_getElem h, List.flatMap_append, List.flatMap_singleton]
end Go.Ev
namespace Go.Proofs.Cx
open Go Go.Ev
section
variable {H : AH} {n0 b : Nat} {bs : List UInt8}
theorem yw_bytes {s : List UInt8} (ok : Ok H) (h : Wr H n0 b bs) (hs : bs.length + s.length ≤ 140737488355328) :
    FW Ee F_wire_Writer_Bytes [.pointer (some ⟨b, 0, none⟩), .string ⟨⟨s⟩⟩] H fun r H' => r = .tuple ⟨[]⟩ ∧ Wr H' n0 b (bs ++ s) ∧ WrX H b H' := by
  obtain ⟨h0, a, l, c, h1, h2, h3⟩ := h
  have hbl := ok.lt h1
  refine fw_wire_Writer_Bytes ?_
  obtain ⟨a', l', c', H1, k1, k2, k3, k4⟩ := own_bytes ok h2 hs
  have b1 := k4.get b _ (fun hb => hb fun x ex => (h3 x ex).2) h1
  refine ⟨a, l, c, cell_of h1 rfl, a', l', c', H1, k1, _, store_of (o := 0) b1 (by simp) rfl, rfl, ⟨h0, a', l', c', get_set_self _ _ _, k2.mod (Mod.set k4.ok b1 _) ?_, ?_⟩, ⟨?_, ?_⟩⟩
  · intro x hx y ey
    subst hx
    rcases k3 with rfl | rfl
    · exact (h3 y ey).2
    · cases ey; simp only; omega
  · intro y ey
    rcases k3 with rfl | rfl
    · exact h3 y ey
    · cases ey; simp only; omega
  · exact (k4.le (fun x hx _ => .inr ⟨a, l, c, h1, hx⟩) ok).trans ((Mod.set k4.ok b1 _).le (fun x hx _ => .inl hx) k4.ok)
  · rintro x (rfl | ⟨a2, l2, c2, e, ho⟩)
    · exact .inl (.inl rfl)
    · rw [get_set_self] at e
      cases e
      rcases k3 with rfl | rfl
      · exact .inl (.inr ⟨_, _, _, h1, ho⟩)
      · obtain ⟨y, ey, rfl⟩ := off_not ho
        cases ey
        exact .inr (Nat.le_refl _)
theorem yw_number {n : Nat} (ok : Ok H) (h : Wr H n0 b bs) (hn : n < 18446744073709551616) (hs : bs.length ≤ 140737488355000) :
    FW Ee F_wire_Writer_Number [.pointer (some ⟨b, 0, none⟩), .int .u64 n] H fun r H' => r = .tuple ⟨[]⟩ ∧ Wr H' n0 b (bs ++ enc n) ∧ WrX H b H' := by
  have h10 := enc_len64 hn
  refine fw_wire_Writer_Number ?_
  refine (number_ok ok hn).mono ?_
  rintro _ H1 ⟨rfl, g1⟩
  refine ⟨_, rfl, (yw_bytes g1.ok (h.grow g1) (by omega)).mono ?_⟩
  rintro _ H2 ⟨rfl, h2, m2⟩
  exact ⟨rfl, rfl, h2, (WrX.grow ok h g1).trans ok m2⟩
theorem yw_signed {x : Int} (ok : Ok H) (h : Wr H n0 b bs) (hx : I64 x) (hs : bs.length ≤ 140737488355000) :
    FW Ee F_wire_Writer_Signed [.pointer (some ⟨b, 0, none⟩), .int .i64 x] H fun r H' => r = .tuple ⟨[]⟩ ∧ Wr H' n0 b (bs ++ sgB x) ∧ WrX H b H' := by
  refine fw_wire_Writer_Signed ?_
  refine (fold_ok hx).mono ?_
  rintro _ _ ⟨rfl, rfl⟩
  refine ⟨_, rfl, (yw_number ok h (fold_lt hx) hs).mono ?_⟩
  rintro _ H2 ⟨rfl, h2⟩
  exact ⟨rfl, rfl, h2⟩
theorem yw_count {n : Nat} (ok : Ok H) (h : Wr H n0 b bs) (hn : n < 9223372036854775808) (hs : bs.length ≤ 140737488355000) :
    FW Ee F_wire_Writer_Count [.pointer (some ⟨b, 0, none⟩), .int .i64 n] H fun r H' => r = .tuple ⟨[]⟩ ∧ Wr H' n0 b (bs ++ enc n) ∧ WrX H b H' := by
  refine fw_wire_Writer_Count ?_
  intro t7 e7
  rw [if_neg (by omega), wrap_u64 (by omega) (by omega)] at e7
  subst e7
  refine (yw_number ok h (by omega) hs).mono ?_
  rintro _ H2 ⟨rfl, h2⟩
  exact ⟨rfl, rfl, h2⟩
theorem yw_text {x : List UInt8} (ok : Ok H) (h : Wr H n0 b bs) (hs : bs.length + x.length ≤ 140737488354000) :
    FW Ee F_wire_Writer_Text [.pointer (some ⟨b, 0, none⟩), .string ⟨⟨x⟩⟩] H fun r H' => r = .tuple ⟨[]⟩ ∧ Wr H' n0 b (bs ++ txtB x) ∧ WrX H b H' := by
  refine fw_wire_Writer_Text ?_
  intro t7 e7
  rw [wrap_u64 (by omega) (by omega)] at e7
  subst e7
  have l1 := enc_len64 (show x.length < 18446744073709551616 by omega)
  refine (yw_number ok h (by omega) (by omega)).mono ?_
  rintro _ H1 ⟨rfl, h1, m1⟩
  refine ⟨rfl, (yw_bytes m1.mod.ok h1 (by rw [List.length_append]; omega)).mono ?_⟩
  rintro _ H2 ⟨rfl, h2, m2⟩
  exact ⟨rfl, rfl, by rw [txtB, ← List.append_assoc]; exact h2, m1.trans ok m2⟩
end
/-! as the document has them -/
end Go.Proofs.Cx
namespace Go.Ev
open Go
theorem Sl.weak {α : Type} {F F' : Nat → Prop} {H : AH} {sz : Nat} {P : AH → Nat → Nat → α → Prop} {a : Option Addr} {l : Nat} {xs : List α} (h : Sl F H sz P a l xs) (k : ∀ b, F b → b < H.next → F' b) (hc : ∀ b o x, P H b o x → b < H.next) : Sl F' H sz P a l xs :=
  ⟨h.len, fun hp => ⟨(h.base hp).1, k _ (h.base hp).2 (hc _ _ _ (h.cells 0 (by have := h.len; omega)))⟩, h.cells⟩
theorem GraphI.fit {G : List Vtx} (h : GraphI G) : Fit G := by
  refine ⟨by have := h.len; omega, fun v hv => ?_⟩
  have := (h.each v hv).len
  omega
theorem rMany_stop {α : Type} {one : RSt → α × RSt} {n : Nat} {q : RSt} (h : q.2 ≠ 0 ∨ n = 0) : rMany one n q = ([], q) := by
  cases n with
  | zero => rfl
  | succ n =>
    unfold rMany
    rcases h with h | h
    · rw [if_pos h]
    · omega
theorem rMany_go {α : Type} {one : RSt → α × RSt} {n : Nat} {q : RSt} (h : q.2 = 0) : rMany one (n + 1) q = ((one q).1 :: (rMany one n (one q).2).1, (rMany one n (one q).2).2) := by
  conv => lhs; unfold rMany
  rw [if_neg (by simpa using h)]
end Go.Ev
namespace Go.Proofs.Cx
open Go Go.Ev
abbrev vC (v : Vtx) (a : Option Addr) (l c : Nat) : List Value := [.int .i64 v.id, .int .i64 v.val, .slice a l c]
theorem vtxs_sl {F : Nat → Prop} {H : AH} {oa : Option Addr} {ol oc : Nat} {ps : List (Vtx × Option Addr × Nat × Nat)} (ho : Own H 3 oa ol oc (ps.flatMap vtxC)) (hF : ∀ x, oa = some x → F x.block) (he : ∀ q ∈ ps, SlE F H q.2.1 q.2.2.1 q.1.edges) : SlV F H oa ol (ps.map (·.1)) := by
  have hsl : Sl F H 3 (fun H' b o (q : Vtx × Option Addr × Nat × Nat) => PVtx F H' b o q.1) oa ol ps :=
    ho.sl (fun _ => rfl) (by decide) hF fun b o i hi k => ⟨k 0 _ rfl, k 1 _ rfl, _, _, _, k 2 _ rfl, he _ (List.getElem_mem hi)⟩
  exact hsl.map (P := PVtx F) (fun q : Vtx × Option Addr × Nat × Nat => q.1)
theorem vtxs_len {H : AH} {oa : Option Addr} {ol oc : Nat} {ps : List (Vtx × Option Addr × Nat × Nat)} (ho : Own H 3 oa ol oc (ps.flatMap vtxC)) : ol = ps.length := by
  have := ho.len
  rw [flatMap_len (sz := 3) (fun _ => rfl)] at this
  omega
theorem edge_lt {H : AH} (ok : Ok H) (b o : Nat) (x : Int × Int) (h : PEdge H b o x) : b < H.next := cell_lt ok h.1
theorem vtxs_push {N : Nat} {H6 H7 : AH} {oa ea : Option Addr} {ol oc el ec : Nat} {ps : List (Vtx × Option Addr × Nat × Nat)} {v : Vtx} (ok : Ok H6) (ho : Own H6 3 oa ol oc (ps.flatMap vtxC)) (_ : N ≤ H6.next)
    (he : ∀ q ∈ ps, SlE (fun b => N ≤ b ∧ b < H6.next ∧ Off oa b) H6 q.2.1 q.2.2.1 q.1.edges) (hE : SlE (fun b => N ≤ b ∧ b < H6.next ∧ Off oa b) H6 ea el v.edges) (e7 : H7 = H6.new (.cells (vC v ea el ec) 0)) (hl : ps.length ≤ 256) :
    ∃ H8, apnd H7 3 40 oa ol oc (.slice (some ⟨H6.next, 0, none⟩) 1 2) = some (.slice (some ⟨H7.next, 0, none⟩) (ol + 1) (2 * (ol + 1) + 1), H8) ∧ Own H8 3 (some ⟨H7.next, 0, none⟩) (ol + 1) (2 * (ol + 1) + 1) ((ps ++ [(v, ea, el, ec)]).flatMap vtxC) ∧
      H8.next = H6.next + 2 ∧ Mod (fun b => ¬ Off oa b) H7 H8 ∧ ∀ q ∈ ps ++ [(v, ea, el, ec)], SlE (fun b => N ≤ b ∧ b < H8.next ∧ Off (some ⟨H7.next, 0, none⟩) b) H8 q.2.1 q.2.2.1 q.1.edges := by
  have hol := vtxs_len ho
  have g7 : Grow H6 H7 := e7 ▸ Grow.new ok _
  have n7 : H7.next = H6.next + 1 := by rw [e7]; rfl
  obtain ⟨H8, k1, k2, k3, k4⟩ := (ho.mod g7 fun _ h => h.elim).append (bytes := 40) (n := 1) (x := .slice (some ⟨H6.next, 0, none⟩) 1 2) g7.ok rfl (takev_new e7 rfl) (by decide) rfl rfl (by omega) (by omega)
  refine ⟨H8, k1, ?_, by omega, k4, fun q hq => ?_⟩
  · rw [List.flatMap_append, List.flatMap_singleton]; exact k2
  · have hs : SlE (fun b => N ≤ b ∧ b < H6.next ∧ Off oa b) H6 q.2.1 q.2.2.1 q.1.edges := by
      rcases List.mem_append.1 hq with h | h
      · exact he q h
      · rw [List.mem_singleton] at h; subst h; exact hE
    refine ((hs.grow loc_edge g7).mod loc_edge k4 fun b hb h => h hb.2.2).weak (fun b hb _ => ⟨hb.1, by omega, fun x hx => ?_⟩) (edge_lt k4.ok)
    cases hx
    have := hb.2.1
    simp only; omega
theorem ret_vtx {Q : Value → AH → Prop} {H : AH} {vb rb : Nat} {i w : Int} {a : Option Addr} {l c : Nat} {x y z : Value} (ok : Ok H) (hv : H.get vb = some (.cells [.int .i64 i, .int .i64 w, .slice a l c] 0)) (hr : H.get rb = some (.cells [x, y, z] 0))
    (hQ : ∀ H3, Mod (· = rb) H H3 → Q (.agg ⟨[.int .i64 i, .int .i64 w, .slice a l c]⟩) H3) :
    ∃ (t_ID : Int) (t_Value : Int) (t_a : Option Addr) (t_l : Nat) (t_c : Nat), H.cell vb (0 + 0) = some (.int .i64 t_ID) ∧ H.cell vb (0 + 1) = some (.int .i64 t_Value) ∧ H.cell vb (0 + 2) = some (.slice t_a t_l t_c) ∧
      ∃ H3, storeCellsv H rb 0 [.int .i64 t_ID, .int .i64 t_Value, .slice t_a t_l t_c] = some H3 ∧
      ∃ (r_ID : Int) (r_Value : Int) (r_a : Option Addr) (r_l : Nat) (r_c : Nat), H3.cell rb (0 + 0) = some (.int .i64 r_ID) ∧ H3.cell rb (0 + 1) = some (.int .i64 r_Value) ∧ H3.cell rb (0 + 2) = some (.slice r_a r_l r_c) ∧
        Q (.agg ⟨[.int .i64 r_ID, .int .i64 r_Value, .slice r_a r_l r_c]⟩) H3 := by
  have k := get_set_self H rb (.cells (lset [x, y, z] 0 [.int .i64 i, .int .i64 w, .slice a l c]) 0)
  exact ⟨_, _, _, _, _, cell_of hv rfl, cell_of hv rfl, cell_of hv rfl, _, store_of (o := 0) hr (by simp) rfl, _, _, _, _, _, cell_of k rfl, cell_of k rfl, cell_of k rfl, hQ _ (Mod.set ok hr _)⟩
section
variable {H : AH} {b : Nat} {s : List UInt8} {q : RSt}
theorem xvtx_ok (ok : Ok H) (h : Rd H b s q.1 q.2) (hp : AtOk s q) (hs : s.length ≤ 4611686018427387904) :
    FW Ee F_graph_TakeVertex [.pointer (some ⟨b, 0, none⟩)] H fun r H' => ∃ ea el ec, r = .agg ⟨[.int .i64 (rVtx s q).1.id, .int .i64 (rVtx s q).1.val, .slice ea el ec]⟩ ∧ SlE (fun x => H.next ≤ x ∧ x < H'.next) H' ea el (rVtx s q).1.edges ∧ Rd H' b s (rVtx s q).2.1 (rVtx s q).2.2 ∧ Mod (· = b) H H' := by
  have hbl := ok.lt h
  refine fw_graph_TakeVertex ?_
  intro H1 e1
  have g1 : Grow H H1 := e1 ▸ Grow.new ok _
  have z1 : H1.get H.next = some (.cells [.int .i64 0, .int .i64 0, .slice none 0 0] 0) := e1 ▸ get_new_self _ _
  have n1 : H1.next = H.next + 1 := by rw [e1]; rfl
  have p2 := rSig_ok hp
  have p3 := rSig_ok p2.1
  refine (xsig_ok g1.ok (h.mod g1 id) hp hs).mono ?_
  rintro _ H2 ⟨rfl, r2, m2⟩
  refine ⟨_, rfl, (xsig_ok m2.ok r2 p2.1 hs).mono ?_⟩
  rintro _ H3 ⟨rfl, r3, m3⟩
  have m13 := m2.trans m3
  have n3 := m13.next
  refine ⟨_, rfl, ?_⟩
  intro H4 e4
  obtain ⟨H5, e5, b5, g5, n5⟩ := fresh_store (vs := [.int .i64 (rSig s q).1, .int .i64 (rSig s (rSig s q).2).1, .slice none 0 0]) e4 rfl rfl m3.ok
  refine ⟨H5, e5, (xcnt_ok 2048 (by omega) g5.ok (r3.mod g5 id) p3.1 hs).mono ?_⟩
  rintro _ H6 ⟨rfl, r6, m6⟩
  have p6 := rCnt_ok (m := 2048) p3.1
  have n6 := m6.next
  have b6 := m6.get _ _ (show ¬ H3.next = b by omega) b5
  have z6 := m6.get _ _ (show ¬ H.next = b by omega) (g5.get _ _ id (m13.get _ _ (show ¬ H.next = b by omega) z1))
  have mm : Mod (· = b) H H6 := (((g1.le (fun _ h _ => h.elim) ok).trans m13).add g5).trans m6
  obtain ⟨N, hN⟩ : ∃ N, N = (rCnt s 2048 (rSig s (rSig s q).2).2).1 := ⟨_, rfl⟩
  obtain ⟨q6, hq6⟩ : ∃ q6, q6 = (rCnt s 2048 (rSig s (rSig s q).2).2).2 := ⟨_, rfl⟩
  rw [← hN] at p6
  rw [← hq6] at p6 r6
  have hres : rVtx s q = (⟨(rSig s q).1, (rSig s (rSig s q).2).1, (rMany (rPair s) N q6).1⟩, (rMany (rPair s) N q6).2) := by rw [hN, hq6]; rfl
  rw [hres, ← hN]
  refine ⟨_, rfl, ?_⟩
  refine ⟨fun m n4 Hb => ∃ (j : Nat) (es : List (Int × Int)) (q' : RSt) (a : Option Addr) (l c : Nat), n4 = j ∧ j = m ∧ Rd Hb b s q'.1 q'.2 ∧ AtOk s q' ∧ Hb.get H3.next = some (.cells [.int .i64 (rSig s q).1, .int .i64 (rSig s (rSig s q).2).1, .slice a l c] 0) ∧ Own Hb 2 a l c (es.flatMap edgeC) ∧
      (∀ x, a = some x → H6.next ≤ x.block) ∧ Hb.get H.next = some (.cells [.int .i64 0, .int .i64 0, .slice none 0 0] 0) ∧ es.length + j ≤ 2048 ∧ es ++ (rMany (rPair s) j q').1 = (rMany (rPair s) N q6).1 ∧ (rMany (rPair s) j q').2 = (rMany (rPair s) N q6).2 ∧ Mod (· = b) H Hb ∧ H6.next ≤ Hb.next,
    ⟨_, N, [], q6, none, 0, 0, rfl, rfl, r6, p6.1, b6, Own.nil _ _, fun x e => (by cases e), z6, by simpa using p6.2, rfl, rfl, mm, Nat.le_refl _⟩, ?_⟩
  rintro m n4 Hb ⟨j, es, q', a, l, c, rfl, rfl, hr, hat, hv, hO, hfar, hz, hlen, hl1, hl2, hm, hn⟩
  have hl : l = es.length := by
    have := hO.len
    rw [flatMap_len (sz := 2) (fun _ => rfl)] at this
    omega
  have done : (q'.2 ≠ 0 ∨ j = 0) → es = (rMany (rPair s) N q6).1 ∧ q' = (rMany (rPair s) N q6).2 := fun h => by
    rw [rMany_stop h] at hl1 hl2
    exact ⟨by rw [← hl1, List.append_nil], hl2⟩
  have fin : (q'.2 ≠ 0 ∨ j = 0) → ∀ H3x, Mod (· = H.next) Hb H3x → ∃ ea el ec, Value.agg ⟨[.int .i64 (rSig s q).1, .int .i64 (rSig s (rSig s q).2).1, .slice a l c]⟩ = .agg ⟨[.int .i64 (rSig s q).1, .int .i64 (rSig s (rSig s q).2).1, .slice ea el ec]⟩ ∧ SlE (fun x => H.next ≤ x ∧ x < H3x.next) H3x ea el (rMany (rPair s) N q6).1 ∧
      Rd H3x b s (rMany (rPair s) N q6).2.1 (rMany (rPair s) N q6).2.2 ∧ Mod (· = b) H H3x := by
    intro h Hx mx
    obtain ⟨d1, d2⟩ := done h
    refine ⟨a, l, c, rfl, ?_, ?_, hm.ext mx ok fun x hx => .inr (by omega)⟩
    · rw [← d1]
      exact (edges_sl (F := fun x => H.next ≤ x) (hO.mod mx fun x hx y ey e => by have := hfar y ey; omega) fun x ex => by have := hfar x ex; omega).weak (fun x hx hl => ⟨hx, hl⟩) (edge_lt mx.ok)
    · rw [← d2]; exact mx.get _ _ (by omega) hr
  refine cond_dec (fun hpos => ?_) (fun hz0 => ret_vtx (Q := fun r H' => ∃ ea el ec, r = .agg ⟨[.int .i64 (rSig s q).1, .int .i64 (rSig s (rSig s q).2).1, .slice ea el ec]⟩ ∧ SlE (fun x => H.next ≤ x ∧ x < H'.next) H' ea el (rMany (rPair s) N q6).1 ∧ Rd H' b s (rMany (rPair s) N q6).2.1 (rMany (rPair s) N q6).2.2 ∧ Mod (· = b) H H') hm.ok hv hz (fin (.inr (by omega))))
  refine (rerr_ok hr).mono ?_
  rintro _ _ ⟨rfl, rfl⟩
  refine ⟨_, rfl, cond_intro (fun he => ?_) (fun he => ret_vtx (Q := fun r H' => ∃ ea el ec, r = .agg ⟨[.int .i64 (rSig s q).1, .int .i64 (rSig s (rSig s q).2).1, .slice ea el ec]⟩ ∧ SlE (fun x => H.next ≤ x ∧ x < H'.next) H' ea el (rMany (rPair s) N q6).1 ∧ Rd H' b s (rMany (rPair s) N q6).2.1 (rMany (rPair s) N q6).2.2 ∧ Mod (· = b) H H') hm.ok hv hz (fin (.inl (by simpa using he))))⟩
  have he : q'.2 = 0 := by simpa using he
  have pa := rSig_ok hat
  have pb := rSig_ok pa.1
  refine ⟨a, l, c, cell_of hv rfl, (xsig_ok hm.ok hr hat hs).mono ?_⟩
  rintro _ H9 ⟨rfl, r9, m9⟩
  refine ⟨_, rfl, (xsig_ok m9.ok r9 pa.1 hs).mono ?_⟩
  rintro _ H10 ⟨rfl, r10, m10⟩
  refine ⟨_, rfl, ?_⟩
  intro H11 e11
  have m910 := m9.trans m10
  have n10 := m910.next
  have g11 : Grow H10 H11 := e11 ▸ Grow.new m10.ok _
  have n11 : H11.next = H10.next + 1 := by rw [e11]; rfl
  have hO11 := (hO.mod m910 fun x hx y ey e => by have := hfar y ey; omega).mod g11 fun _ h => h.elim
  have hv9 := m9.get _ _ (show ¬ H3.next = b by omega) hv
  have hv11 := g11.get _ _ id (m910.get _ _ (show ¬ H3.next = b by omega) hv)
  obtain ⟨H12, k1, k2, k3, k4⟩ := hO11.append (n := 1) (bytes := 16) (new := [.int .i64 (rSig s q').1, .int .i64 (rSig s (rSig s q').2).1]) (x := .slice (some ⟨H10.next, 0, none⟩) 1 2) g11.ok rfl (takev_new e11 rfl) (by omega) rfl rfl (by omega) (by omega)
  have lowS : ∀ {x : Nat}, x < H6.next → ¬ (¬ Off a x) := fun hx h => h fun z ez e => by have := hfar z ez; omega
  have hv12 := k4.get _ _ (lowS (by omega)) hv11
  have m13' := Mod.set k4.ok hv12 (.cells (lset [.int .i64 (rSig s q).1, .int .i64 (rSig s (rSig s q).2).1, .slice a l c] 2 [.slice (some ⟨H11.next, 0, none⟩) (l + 1) (2 * (l + 1) + 1)]) 0)
  refine ⟨_, _, _, H12, k1, _, store_of (o := 2) hv12 (by simp) rfl, cell_of hv11 rfl, cell_of hv9 rfl, ?_⟩
  intro t20 e20
  rw [wrap_i64 (by omega) (by omega)] at e20
  obtain ⟨j, rfl⟩ : ∃ j', j = j' + 1 := ⟨j - 1, by omega⟩
  have e20 : t20 = (j : Int) := by omega
  subst e20
  rw [rMany_go he] at hl1 hl2
  refine ⟨j, by omega, j, es ++ [(rPair s q').1], (rPair s q').2, _, _, _, rfl, rfl, ?_, pb.1, get_set_self _ _ _, ?_, ?_, ?_, by rw [List.length_append, List.length_singleton]; omega, ?_, hl2, ?_, ?_⟩
  · exact m13'.get _ _ (by omega) (k4.get _ _ (lowS (by omega)) (g11.get _ _ id r10))
  · rw [List.flatMap_append, List.flatMap_singleton]
    exact k2.mod m13' fun x hx z ez e => by cases ez; simp only at e; omega
  · intro z ez
    cases ez
    simp only; omega
  · exact m13'.get _ _ (by omega) (k4.get _ _ (lowS (by omega)) (g11.get _ _ id (m910.get _ _ (show ¬ H.next = b by omega) hz)))
  · rw [List.append_assoc]; exact hl1
  · refine (((hm.trans m910).add g11).ext k4 ok fun x hx => .inr ?_).ext m13' ok fun x hx => .inr (by omega)
    obtain ⟨z, ez, rfl⟩ := off_not hx
    have := hfar z ez
    omega
  · show H6.next ≤ H12.next
    omega
theorem xgraph_ok (ok : Ok H) (h : Rd H b s q.1 q.2) (hp : AtOk s q) (hs : s.length ≤ 4611686018427387904) :
    FW Ee F_graph_Take [.pointer (some ⟨b, 0, none⟩)] H fun r H' => ∃ a l c, r = .agg ⟨[.slice a l c]⟩ ∧ SlV (fun x => H.next ≤ x ∧ x < H'.next) H' a l (rGraph s q).1 ∧ Rd H' b s (rGraph s q).2.1 (rGraph s q).2.2 ∧ Mod (· = b) H H' := by
  have hbl := ok.lt h
  refine fw_graph_Take ?_
  intro H1 e1 H2 e2
  obtain ⟨g2, z2, v2, n1, n2⟩ := two_new ok e1 e2
  refine (xcnt_ok 256 (by omega) g2.ok (h.mod g2 id) hp hs).mono ?_
  rintro _ H3 ⟨rfl, r3, m3⟩
  have p3 := rCnt_ok (m := 256) hp
  have n3 := m3.next
  have v3 := m3.get _ _ (show ¬ H1.next = b by omega) v2
  have z3 := m3.get _ _ (show ¬ H.next = b by omega) z2
  have mm : Mod (· = b) H H3 := (g2.le (fun _ h _ => h.elim) ok).trans m3
  have hGI := (rGraph_ok hp).2
  obtain ⟨N, hN⟩ : ∃ N, N = (rCnt s 256 q).1 := ⟨_, rfl⟩
  obtain ⟨q3, hq3⟩ : ∃ q3, q3 = (rCnt s 256 q).2 := ⟨_, rfl⟩
  have hres : rGraph s q = ((rMany (rVtx s) N q3).1, if (rMany (rVtx s) N q3).2.2 = 0 then ((rMany (rVtx s) N q3).2.1, chk (rMany (rVtx s) N q3).1) else (rMany (rVtx s) N q3).2) := by rw [hN, hq3]; rfl
  rw [hres] at hGI ⊢
  rw [← hN] at p3
  rw [← hq3] at p3 r3
  rw [← hN]
  refine ⟨_, rfl, ?_⟩
  refine ⟨fun m n4 Hb => ∃ (j : Nat) (ps : List (Vtx × Option Addr × Nat × Nat)) (q' : RSt) (a : Option Addr) (l c : Nat), n4 = j ∧ j = m ∧ Rd Hb b s q'.1 q'.2 ∧ AtOk s q' ∧ Hb.get H1.next = some (.cells [.slice a l c] 0) ∧ Own Hb 3 a l c (ps.flatMap vtxC) ∧
      (∀ x, a = some x → H3.next ≤ x.block) ∧ (∀ p ∈ ps, SlE (fun x => H3.next ≤ x ∧ x < Hb.next ∧ Off a x) Hb p.2.1 p.2.2.1 p.1.edges) ∧ Hb.get H.next = some (.cells [.slice none 0 0] 0) ∧ ps.length + j ≤ 256 ∧ ps.map (·.1) ++ (rMany (rVtx s) j q').1 = (rMany (rVtx s) N q3).1 ∧ (rMany (rVtx s) j q').2 = (rMany (rVtx s) N q3).2 ∧ Mod (· = b) H Hb ∧ H3.next ≤ Hb.next,
    ⟨_, N, [], q3, none, 0, 0, rfl, rfl, r3, p3.1, v3, Own.nil _ _, fun x e => (by cases e), fun p hp => (by simp at hp), z3, by simpa using p3.2, rfl, rfl, mm, Nat.le_refl _⟩, ?_⟩
  rintro m n4 Hb ⟨j, ps, q', a, l, c, rfl, rfl, hr, hat, hv, hO, hfar, hes, hz, hlen, hl1, hl2, hm, hn⟩
  have done : (q'.2 ≠ 0 ∨ j = 0) → ps.map (·.1) = (rMany (rVtx s) N q3).1 ∧ q' = (rMany (rVtx s) N q3).2 := fun h => by
    rw [rMany_stop h] at hl1 hl2
    exact ⟨by rw [← hl1, List.append_nil], hl2⟩
  have slv : SlV (fun x => H3.next ≤ x ∧ x < Hb.next) Hb a l (ps.map (·.1)) :=
    vtxs_sl hO (fun x ex => ⟨hfar x ex, own_lt hO hm.ok ex⟩) fun p hp => (hes p hp).weak (fun x hx _ => ⟨hx.1, hx.2.1⟩) (edge_lt hm.ok)
  have last : ∀ {Hx : AH} {q'' : RSt}, (q'.2 ≠ 0 ∨ j = 0) → Hx.get H1.next = some (.cells [.slice a l c] 0) → Hx.get H.next = some (.cells [.slice none 0 0] 0) → SlV (fun x => H3.next ≤ x ∧ x < Hb.next) Hx a l (ps.map (·.1)) → Rd Hx b s q''.1 q''.2 → Mod (· = b) H Hx → Hb.next ≤ Hx.next →
      q'' = (if (rMany (rVtx s) N q3).2.2 = 0 then ((rMany (rVtx s) N q3).2.1, chk (rMany (rVtx s) N q3).1) else (rMany (rVtx s) N q3).2) →
      ∃ (t_a : Option Addr) (t_l : Nat) (t_c : Nat), Hx.cell H1.next (0 + 0) = some (.slice t_a t_l t_c) ∧ ∃ (H13 : AH), storeCellsv Hx H.next 0 [.slice t_a t_l t_c] = some H13 ∧ ∃ (r_a : Option Addr) (r_l : Nat) (r_c : Nat), H13.cell H.next (0 + 0) = some (.slice r_a r_l r_c) ∧
        ∃ a l c, Value.agg ⟨[.slice r_a r_l r_c]⟩ = .agg ⟨[.slice a l c]⟩ ∧ SlV (fun x => H.next ≤ x ∧ x < H13.next) H13 a l (rMany (rVtx s) N q3).1 ∧ Rd H13 b s (if (rMany (rVtx s) N q3).2.2 = 0 then ((rMany (rVtx s) N q3).2.1, chk (rMany (rVtx s) N q3).1) else (rMany (rVtx s) N q3).2).1 (if (rMany (rVtx s) N q3).2.2 = 0 then ((rMany (rVtx s) N q3).2.1, chk (rMany (rVtx s) N q3).1) else (rMany (rVtx s) N q3).2).2 ∧ Mod (· = b) H H13 := by
    intro Hx q'' h hvx hzx hsx hrx hmx hnx hq
    have m13 := Mod.set hmx.ok hzx (.cells (lset [.slice none 0 0] 0 [.slice a l c]) 0)
    have k13 := get_set_self Hx H.next (.cells (lset [.slice none 0 0] 0 [.slice a l c]) 0)
    refine ⟨a, l, c, cell_of hvx rfl, _, store_of (o := 0) hzx (by simp) rfl, a, l, c, cell_of k13 rfl, a, l, c, rfl, ?_, ?_, hmx.ext m13 ok fun x hx => .inr (by omega)⟩
    · rw [← (done h).1]
      have h13 : (Hx.set H.next (.cells (lset [.slice none 0 0] 0 [.slice a l c]) 0)).next = Hx.next := rfl
      have := hsx.mod loc_vtx m13 fun x hx e => by have := hx.1; omega
      refine ⟨this.len, fun hp => ⟨(this.base hp).1, by have := (this.base hp).2.1; omega, by have := (this.base hp).2.2; omega⟩, fun i hi => ?_⟩
      obtain ⟨c1, c2, ea, el, ec, c3, c4⟩ := this.cells i hi
      exact ⟨c1, c2, ea, el, ec, c3, c4.weak (fun x hx _ => ⟨by omega, by omega⟩) (edge_lt m13.ok)⟩
    · rw [← hq]; exact m13.get _ _ (by omega) hrx
  have fin : (q'.2 ≠ 0 ∨ j = 0) → FW Ee F_wire_Reader_Err [.pointer (some ⟨b, 0, none⟩)] Hb fun v_3 H10 =>
      ∃ (r24 : Int), v_3 = .int .i64 r24 ∧
      cond (r24 == 0) (
        ∃ (t27a : Option Addr) (t27l : Nat) (t27c : Nat), H10.cell H1.next (0 + 0) = some (.slice t27a t27l t27c) ∧
        FW Ee F_graph_Check [.agg ⟨[.slice t27a t27l t27c]⟩] H10 fun v_4 H11 =>
          ∃ (r28 : Int), v_4 = .int .i64 r28 ∧
          FW Ee F_wire_Reader_Fail [.pointer (some ⟨b, 0, none⟩), .int .i64 r28] H11 fun v_5 H12 =>
            v_5 = .tuple ⟨[]⟩ ∧
            ∃ (t_a : Option Addr) (t_l : Nat) (t_c : Nat), H12.cell H1.next (0 + 0) = some (.slice t_a t_l t_c) ∧ ∃ (H13 : AH), storeCellsv H12 H.next 0 [.slice t_a t_l t_c] = some H13 ∧ ∃ (r_a : Option Addr) (r_l : Nat) (r_c : Nat), H13.cell H.next (0 + 0) = some (.slice r_a r_l r_c) ∧
              ∃ a l c, Value.agg ⟨[.slice r_a r_l r_c]⟩ = .agg ⟨[.slice a l c]⟩ ∧ SlV (fun x => H.next ≤ x ∧ x < H13.next) H13 a l (rMany (rVtx s) N q3).1 ∧ Rd H13 b s (if (rMany (rVtx s) N q3).2.2 = 0 then ((rMany (rVtx s) N q3).2.1, chk (rMany (rVtx s) N q3).1) else (rMany (rVtx s) N q3).2).1 (if (rMany (rVtx s) N q3).2.2 = 0 then ((rMany (rVtx s) N q3).2.1, chk (rMany (rVtx s) N q3).1) else (rMany (rVtx s) N q3).2).2 ∧ Mod (· = b) H H13) (
        ∃ (t_a : Option Addr) (t_l : Nat) (t_c : Nat), H10.cell H1.next (0 + 0) = some (.slice t_a t_l t_c) ∧ ∃ (H13 : AH), storeCellsv H10 H.next 0 [.slice t_a t_l t_c] = some H13 ∧ ∃ (r_a : Option Addr) (r_l : Nat) (r_c : Nat), H13.cell H.next (0 + 0) = some (.slice r_a r_l r_c) ∧
          ∃ a l c, Value.agg ⟨[.slice r_a r_l r_c]⟩ = .agg ⟨[.slice a l c]⟩ ∧ SlV (fun x => H.next ≤ x ∧ x < H13.next) H13 a l (rMany (rVtx s) N q3).1 ∧ Rd H13 b s (if (rMany (rVtx s) N q3).2.2 = 0 then ((rMany (rVtx s) N q3).2.1, chk (rMany (rVtx s) N q3).1) else (rMany (rVtx s) N q3).2).1 (if (rMany (rVtx s) N q3).2.2 = 0 then ((rMany (rVtx s) N q3).2.1, chk (rMany (rVtx s) N q3).1) else (rMany (rVtx s) N q3).2).2 ∧ Mod (· = b) H H13) := by
    intro hend
    obtain ⟨d1, d2⟩ := done hend
    refine (rerr_ok hr).mono ?_
    rintro _ _ ⟨rfl, rfl⟩
    refine ⟨_, rfl, cond_intro (fun he => ?_) (fun he => ?_)⟩
    · have he : q'.2 = 0 := by simpa using he
      have hfit : Fit (ps.map (·.1)) := by rw [d1]; exact hGI.fit
      refine ⟨_, _, _, cell_of hv rfl, (gcheck_ok hm.ok slv (fun x hx => hx.2) hfit).mono ?_⟩
      rintro _ H11 ⟨rfl, g11⟩
      refine ⟨_, rfl, (rfail_ok g11.ok (hr.mod g11 id) _).mono ?_⟩
      rintro _ H12 ⟨rfl, r12, m12⟩
      have n11 := g11.next
      have n12 := m12.next
      rw [if_pos he] at r12
      refine ⟨rfl, last (q'' := (q'.1, chk (ps.map (·.1)))) hend (m12.get _ _ (by omega) (g11.get _ _ id hv)) (m12.get _ _ (by omega) (g11.get _ _ id hz)) ((slv.grow loc_vtx g11).mod loc_vtx m12 fun x hx e => by have := hx.1; omega) r12 ((hm.add g11).trans m12) (by omega) ?_⟩
      rw [d1, ← d2, if_pos he]
    · have he : q'.2 ≠ 0 := by simpa using he
      exact last (q'' := q') hend hv hz slv hr hm (Nat.le_refl _) (by rw [← d2, if_neg he])
  refine cond_dec (fun hpos => ?_) (fun hz0 => fin (.inr (by omega)))
  refine (rerr_ok hr).mono ?_
  rintro _ _ ⟨rfl, rfl⟩
  refine ⟨_, rfl, cond_intro (fun he => ?_) (fun he => fin (.inl (by simpa using he)))⟩
  have he : q'.2 = 0 := by simpa using he
  refine ⟨a, l, c, cell_of hv rfl, (xvtx_ok hm.ok hr hat hs).mono ?_⟩
  rintro _ H6 ⟨ea, el, ec, rfl, hE, r6, m6⟩
  have n6 := m6.next
  have pv := rVtx_ok hat
  refine ⟨_, _, _, _, _, rfl, ?_⟩
  intro H7 e7
  have g7 : Grow H6 H7 := e7 ▸ Grow.new m6.ok _
  have n7 : H7.next = H6.next + 1 := by rw [e7]; rfl
  have hO6 := hO.mod m6 fun x hx y ey e => by have := hfar y ey; omega
  have hob : ∀ x, a = some x → x.block < Hb.next := fun x ex => own_lt hO hm.ok ex
  obtain ⟨H8, k1, k2, k3, k4, k5⟩ := vtxs_push (N := H3.next) (v := (rVtx s q').1) m6.ok hO6 (by omega) (fun p hp => ((hes p hp).mod loc_edge m6 fun x hx e => by have := hx.1; omega).weak (fun x hx _ => ⟨hx.1, by omega, hx.2.2⟩) (edge_lt m6.ok))
    (hE.weak (fun x hx hl => ⟨by omega, hl, Off.of_gt fun y ey => by have := hob y ey; omega⟩) (edge_lt m6.ok)) e7 (by omega)
  have lowS : ∀ {x : Nat}, x < H3.next → ¬ (¬ Off a x) := fun hx h => h fun z ez e => by have := hfar z ez; omega
  have hv7 := g7.get _ _ id (m6.get _ _ (show ¬ H1.next = b by omega) hv)
  have hv8 := k4.get _ _ (lowS (by omega)) hv7
  have m9 := Mod.set k4.ok hv8 (.cells (lset [.slice a l c] 0 [.slice (some ⟨H7.next, 0, none⟩) (l + 1) (2 * (l + 1) + 1)]) 0)
  refine ⟨_, _, _, H8, k1, _, store_of (o := 0) hv8 (by simp) rfl, cell_of hv7 rfl, ?_⟩
  intro t15 e15
  rw [wrap_i64 (by omega) (by omega)] at e15
  obtain ⟨j, rfl⟩ : ∃ j', j = j' + 1 := ⟨j - 1, by omega⟩
  have e15 : t15 = (j : Int) := by omega
  subst e15
  rw [rMany_go he] at hl1 hl2
  refine ⟨j, by omega, j, ps ++ [((rVtx s q').1, ea, el, ec)], (rVtx s q').2, _, _, _, rfl, rfl, ?_, pv.1, get_set_self _ _ _, ?_, ?_, ?_, ?_, by rw [List.length_append, List.length_singleton]; omega, ?_, hl2, ?_, ?_⟩
  · exact m9.get _ _ (by omega) (k4.get _ _ (lowS (by omega)) (g7.get _ _ id r6))
  · exact k2.mod m9 fun x hx z ez e => by cases ez; simp only at e; omega
  · intro z ez
    cases ez
    simp only; omega
  · intro p hp
    exact (k5 p hp).mod loc_edge m9 fun x hx e => by have := hx.1; omega
  · exact m9.get _ _ (by omega) (k4.get _ _ (lowS (by omega)) (g7.get _ _ id (m6.get _ _ (show ¬ H.next = b by omega) hz)))
  · rw [List.map_append, List.append_assoc]; exact hl1
  · refine (((hm.trans m6).add g7).ext k4 ok fun x hx => .inr ?_).ext m9 ok fun x hx => .inr (by omega)
    obtain ⟨z, ez, rfl⟩ := off_not hx
    have := hfar z ez
    omega
  · show H3.next ≤ H8.next
    omega
end
end Go.Proofs.Cx
namespace Go.Proofs.Cx
open Go Go.Ev
section
variable {H : AH} {s : List UInt8} {q : RSt}
end
end Go.Proofs.Cx
namespace Go.Ev
open Go
def strV (x : List UInt8) : Value := .string ⟨⟨x⟩⟩
def pTri : List UInt8 := [116, 114, 105, 97, 110, 103, 108, 101, 115]
def pMat : List UInt8 := [109, 97, 116, 99, 104, 105, 110, 103]
def pCol : List UInt8 := [99, 111, 108, 111, 114, 115]
def pDeg : List UInt8 := [100, 101, 103, 114, 101, 101]
def pCc : List UInt8 := [99, 99]
theorem progs_len : progs.length = 10 := rfl
theorem progs_less : ∀ i k : Fin 10, Op.bytesLess (progs[i.val]'(by rw [progs_len]; exact i.isLt)) (progs[k.val]'(by rw [progs_len]; exact k.isLt)) = decide (i.val < k.val) := by decide +kernel
theorem mem_progs {p : List UInt8} : p ∈ progs ↔ p = pBfs ∨ p = pCc ∨ p = pCol ∨ p = pDeg ∨ p = pCore ∨ p = pLab ∨ p = pMat ∨ p = pRank ∨ p = pSssp ∨ p = pTri := by
  unfold progs
  simp only [List.mem_cons, List.not_mem_nil, or_false]
  rfl
section
variable {G : List Vtx} {ps : List Int} {p : List UInt8}
open Classical in
theorem pchk_bfs : pchk pBfs G ps = if Src G ps then 0 else 71 := by unfold pchk; rw [if_pos rfl]
open Classical in
theorem pchk_sssp : pchk pSssp G ps = if Src G ps ∧ NoNeg G then 0 else 71 := by unfold pchk; rw [if_neg (by decide), if_pos rfl]
open Classical in
theorem pchk_turns (h : p = pRank ∨ p = pLab) : pchk p G ps = if Turns1 100 ps then 0 else 71 := by
  unfold pchk
  rw [if_neg (by rcases h with rfl | rfl <;> decide), if_neg (by rcases h with rfl | rfl <;> decide), if_pos h]
open Classical in
theorem pchk_core : pchk pCore G ps = if Turns1 256 ps then 0 else 71 := by unfold pchk; rw [if_neg (by decide), if_neg (by decide), if_neg (by decide), if_pos rfl]
open Classical in
theorem pchk_none (h1 : p ≠ pBfs) (h2 : p ≠ pSssp) (h3 : p ≠ pRank) (h4 : p ≠ pLab) (h5 : p ≠ pCore) : pchk p G ps = if p ∈ progs then (if ps = [] then 0 else 71) else 70 := by
  unfold pchk
  rw [if_neg h1, if_neg h2, if_neg (by simp [h3, h4]), if_neg h5]
end
theorem May.edge {G : List Vtx} (h : May G) {v : Vtx} (hv : v ∈ G) : v.edges.length ≤ 2048 := by
  have h1 : v.edges.length ≤ nE G := by
    obtain ⟨k, hk, rfl⟩ := List.mem_iff_getElem.1 hv
    have h2 := nE_take hk
    have h3 := nE_take_le G (k + 1)
    omega
  have h4 := h.many
  omega
theorem str_eq {x y : List UInt8} : (x == y) = true ↔ x = y := beq_iff_eq
end Go.Ev
namespace Go.Proofs.Cx
open Go Go.Ev
theorem all3_ok {F S : Nat → Prop} {tb y : Nat} {a : Option Addr} {l c : Nat} {H : AH} {G : List Vtx} {R : List (Int × Int × Int) → AH → Prop} {Stop : AH → Prop} (ok : Ok H) (hG : SlV F H a l G) (hl : l ≤ 4611686018427387904) (hE : ∀ v ∈ G, v.edges.length * 16 ≤ 140737488355328)
    (ht : H.cell tb 0 = some (.slice a l c)) (hS : ∀ b, S b → b < H.next ∧ ¬ F b)
    (h0 : R [] H) (hst : ∀ done H1 H2, R done H1 → Grow H1 H2 → R done H2)
    (hR : ∀ done x rest H1, flatE G = done ++ x :: rest → R done H1 → Ok H1 → Mod S H H1 → RW Ee y [.int .i64 x.1, .agg ⟨[.int .i64 x.2.1, .int .i64 x.2.2]⟩] H1 fun v H2 => (v = .bool true ∧ R (done ++ [x]) H2 ∧ Mod S H1 H2) ∨ (v = .bool false ∧ Stop H2 ∧ Mod S H1 H2)) :
    FW Ee F_graph_All_1 [.func (.yield y) ⟨[]⟩ ⟨[]⟩, .pointer (some ⟨tb, 0, none⟩)] H fun _ H' => (R (flatE G) H' ∨ Stop H') ∧ Mod S H H' := by
  have hlen := hG.len
  refine fw_graph_All_1 ?_
  refine ⟨a, l, c, ht, ?_⟩
  refine ⟨fun n i H1 => ∃ p : Nat, i = p ∧ p ≤ l ∧ n = l - p ∧ R (flatE (G.take p)) H1 ∧ Mod S H H1, ⟨_, 0, rfl, by omega, rfl, h0, .refl ok⟩, ?_⟩
  rintro n i H1 ⟨p, rfl, hp, rfl, r1, m1⟩
  refine cond_dec (fun hlt => ?_) (fun hge => ?_)
  · have hk : p < G.length := by omega
    obtain ⟨hs, c1, c2, ea, el, ec, c3, c4⟩ := (hG.mod loc_vtx m1 (fun b hb h => (hS b h).2 hb)).nth hk
    have hel := c4.len
    have hfe := hE _ (List.getElem_mem hk)
    refine grd_intro hs ⟨by omega, by omega, _, _, ea, el, ec, c1, c2, c3, ?_⟩
    intro H1' e1'
    obtain ⟨H2, e2, b2, g2, n2⟩ := fresh_store (vs := [.int .i64 G[p].id, .int .i64 G[p].val, .slice ea el ec]) e1' rfl rfl m1.ok
    refine ⟨H2, e2, ea, el, ec, cell_of b2 rfl, ?_⟩
    refine ⟨fun n k H3 => ∃ j : Nat, k = j ∧ j ≤ el ∧ n = el - j ∧ R (flatE (G.take p) ++ (G[p].edges.take j).map fun e => (G[p].id, e)) H3 ∧ Mod S H H3 ∧ Mod S H1 H3 ∧ H3.get H1.next = some (.cells [.int .i64 G[p].id, .int .i64 G[p].val, .slice ea el ec] 0),
      ⟨_, 0, rfl, by omega, rfl, by simpa using hst _ _ _ r1 g2, m1.add g2, (Mod.refl m1.ok).add g2, b2⟩, ?_⟩
    rintro n k H3 ⟨j, rfl, hj, rfl, r3, m3, m13, b3⟩
    refine cond_dec (fun hlt2 => ?_) (fun hge2 => ?_)
    · have hk2 : j < G[p].edges.length := by omega
      obtain ⟨hs2, d1, d2⟩ := (c4.mod loc_edge m13 (fun b hb h => (hS b h).2 hb)).nth hk2
      refine grd_intro hs2 ⟨by omega, by omega, _, _, d1, d2, ?_⟩
      intro H3' e3'
      obtain ⟨H4, e4, b4, g4, n4⟩ := fresh_store (vs := [.int .i64 G[p].edges[j].1, .int .i64 G[p].edges[j].2]) e3' rfl rfl m3.ok
      refine ⟨H4, e4, _, cell_of (g4.get _ _ id b3) rfl, _, _, cell_of b4 rfl, cell_of b4 rfl, ?_⟩
      refine (hR _ (G[p].id, G[p].edges[j]) _ H4 (flatE_split hk hk2) (hst _ _ _ r3 g4) g4.ok (m3.add g4)).mono ?_
      rintro _ H5 (⟨rfl, r5, m5⟩ | ⟨rfl, s5, m5⟩)
      · refine ⟨_, rfl, ?_⟩
        refine cond_neg rfl ?_
        intro t27 e27
        rw [wrap_i64 (by omega) (by omega)] at e27
        subst e27
        refine ⟨el - (j + 1), by omega, j + 1, by simp, by omega, rfl, ?_, ?_, ?_, ?_⟩
        · rw [List.take_succ_eq_append_getElem hk2, List.map_append, ← List.append_assoc]; exact r5
        · exact (m3.add g4).trans m5
        · exact (m13.add g4).trans m5
        · exact m5.get _ _ (fun h => by have := (hS _ h).1; have := m1.next; omega) (g4.get _ _ id b3)
      · exact ⟨_, rfl, cond_pos rfl ⟨.inr s5, (m3.add g4).trans m5⟩⟩
    · intro t28 e28
      rw [wrap_i64 (by omega) (by omega)] at e28
      subst e28
      refine ⟨l - (p + 1), by omega, p + 1, by simp, by omega, rfl, ?_, m3⟩
      rw [flatE_take hk]
      have e3 : G[p].edges.take j = G[p].edges := List.take_of_length_le (by omega)
      rw [e3] at r3
      exact r3
  · refine ⟨.inl ?_, m1⟩
    rw [List.take_of_length_le (by omega)] at r1
    exact r1
/-! programs' names -/
theorem snan_ok {x : List UInt8} {H : AH} : FW Ee F_cmp_isNaN_string [.string ⟨⟨x⟩⟩] H fun r H' => r = .bool false ∧ H = H' := by
  refine fw_cmp_isNaN_string ?_
  exact ⟨by simp, rfl⟩
theorem snan2_ok {x : List UInt8} {H : AH} : FW Ee F_slices_isNaN_string [.string ⟨⟨x⟩⟩] H fun r H' => r = .bool false ∧ H = H' := by
  refine fw_slices_isNaN_string ?_
  exact ⟨by simp, rfl⟩
theorem sless_ok {x y : List UInt8} {H : AH} : FW Ee F_cmp_Less_string [.string ⟨⟨x⟩⟩, .string ⟨⟨y⟩⟩] H fun r H' => r = .bool (Op.bytesLess x y) ∧ H = H' := by
  refine fw_cmp_Less_string ?_
  refine snan_ok.mono ?_
  rintro _ _ ⟨rfl, rfl⟩
  exact ⟨_, rfl, cond_neg rfl ⟨rfl, rfl⟩⟩
theorem progs_cell {H : AH} {b : Nat} (h : H.get b = some (.cells (progs.map strV) 0)) {k : Nat} (hk : k < progs.length) : H.cell b (0 + k * 1) = some (.string ⟨⟨progs[k]⟩⟩) := by
  rw [Nat.zero_add, Nat.mul_one]
  refine cell_of h ?_
  rw [List.getElem?_map, List.getElem?_eq_getElem hk]; rfl
theorem bsearch_str {H : AH} {b : Nat} {p : List UInt8} (h : H.get b = some (.cells (progs.map strV) 0)) :
    FW Ee F_slices_BinarySearch_L_string_string [.slice (some ⟨b, 0, none⟩) 10 20, .string ⟨⟨p⟩⟩] H fun r H' => ∃ i : Int, r = .tuple ⟨[.int .i64 i, .bool (decide (p ∈ progs))]⟩ ∧ H = H' := by
  have hl := progs_len
  refine fw_slices_BinarySearch_L_string_string ?_
  refine ⟨fun m i j Hx => H = Hx ∧ ∃ x y : Nat, i = x ∧ j = y ∧ x ≤ y ∧ y ≤ 10 ∧ m = y - x ∧ ∀ k (hk : k < progs.length), progs[k] = p → x ≤ k ∧ k ≤ y, ⟨_, rfl, 0, 10, rfl, rfl, by omega, by omega, rfl, fun k hk _ => by omega⟩, ?_⟩
  rintro m i j Hx ⟨rfl, x, y, rfl, rfl, hxy, hy, rfl, hin⟩
  refine cond_dec (fun hlt => ?_) (fun hge => ?_)
  · intro t18 e18
    rw [wrap_i64 (by omega) (by omega)] at e18
    intro t19 e19
    rw [wrap_u64 (by omega) (by omega)] at e19
    have e19 : t19 = ((x + y : Nat) : Int) := by omega
    subst e19
    refine ⟨by omega, ?_⟩
    intro t20 e20
    rw [shr1] at e20
    intro t21 e21
    rw [wrap_i64 (by omega) (by omega)] at e21
    obtain ⟨z, hz⟩ : ∃ z, z = (x + y) / 2 := ⟨_, rfl⟩
    have e21 : t21 = (z : Int) := by omega
    subst e21
    have hzl : z < progs.length := by omega
    refine grd_intro rfl ⟨by omega, by omega, progs[z], ?_, sless_ok.mono ?_⟩
    · rw [show ((z : Int)).toNat = z from by omega]; exact progs_cell h hzl
    rintro _ _ ⟨rfl, rfl⟩
    have less : ∀ k (hk : k < progs.length), progs[k] = p → Op.bytesLess progs[z] p = decide (z < k) := by
      rintro k hk rfl
      exact progs_less ⟨z, by omega⟩ ⟨k, by omega⟩
    refine ⟨_, rfl, cond_intro (fun hb => ?_) (fun hb => ?_)⟩
    · intro t29 e29
      rw [wrap_i64 (by omega) (by omega)] at e29
      subst e29
      refine ⟨y - (z + 1), by omega, rfl, z + 1, y, by simp, rfl, by omega, hy, rfl, fun k hk hp => ?_⟩
      have h1 := hin k hk hp
      have h2 := less k hk hp
      rw [hb] at h2
      have : z < k := of_decide_eq_true h2.symm
      omega
    · refine ⟨z - x, by omega, rfl, x, z, rfl, rfl, by omega, by omega, rfl, fun k hk hp => ?_⟩
      have h1 := hin k hk hp
      have h2 := less k hk hp
      rw [hb] at h2
      have : ¬ z < k := of_decide_eq_false h2.symm
      omega
  · have hyx : y = x := by omega
    subst hyx
    refine cond_dec (fun hlt => ?_) (fun hge2 => ⟨y, ?_, rfl⟩)
    · have hxl : y < progs.length := by omega
      have hc : H.cell (adr (some ⟨b, 0, none⟩)).block ((adr (some ⟨b, 0, none⟩)).off + ((y : Int)).toNat * 1) = some (.string ⟨⟨progs[y]⟩⟩) := by
        rw [show ((y : Int)).toNat = y from by omega]; exact progs_cell h hxl
      refine grd_intro rfl ⟨by omega, by omega, _, hc, cond_intro (fun he => ⟨y, ?_, rfl⟩) (fun he => ?_)⟩
      · have he : progs[y] = p := str_eq.1 he
        rw [decide_eq_true (by rw [← he]; exact List.getElem_mem hxl)]
      · have he : progs[y] ≠ p := fun h => by rw [h] at he; simp at he
        refine grd_intro rfl ⟨by omega, by omega, _, hc, snan2_ok.mono ?_⟩
        rintro _ _ ⟨rfl, rfl⟩
        refine ⟨_, rfl, cond_neg rfl ⟨y, ?_, rfl⟩⟩
        rw [decide_eq_false]
        intro hm
        obtain ⟨k, hk, hkp⟩ := List.mem_iff_getElem.1 hm
        have := hin k hk hkp
        have : k = y := by omega
        subst this
        exact he hkp
    · rw [decide_eq_false]
      intro hm
      obtain ⟨k, hk, hkp⟩ := List.mem_iff_getElem.1 hm
      have := hin k hk hkp
      omega
theorem programs_ok {H : AH} (ok : Ok H) : FW Ee F_kern_Programs [] H fun r H' => r = .slice (some ⟨H.next, 0, none⟩) 10 20 ∧ H'.get H.next = some (.cells (progs.map strV) 0) ∧ Grow H H' := by
  refine fw_kern_Programs ?_
  intro H1 e1
  exact ⟨rfl, e1 ▸ get_new_self _ _, e1 ▸ Grow.new ok _⟩
theorem known_ok {H : AH} {p : List UInt8} (ok : Ok H) : FW Ee F_more_Known [.string ⟨⟨p⟩⟩] H fun r H' => r = .bool (decide (p ∈ progs)) ∧ Grow H H' := by
  refine fw_more_Known ?_
  refine (programs_ok ok).mono ?_
  rintro _ H1 ⟨rfl, h1, g1⟩
  refine ⟨_, _, _, rfl, (bsearch_str h1).mono ?_⟩
  rintro _ _ ⟨i, rfl, rfl⟩
  exact ⟨_, _, rfl, rfl, g1⟩
/-! parameters -/
theorem one_param {ps : List Int} (h : ps.length = 1) : ps = [ps[0]] := by
  match ps, h with
  | [x], _ => rfl
section
variable {Fp : Nat → Prop} {pa : Option Addr} {pl pc : Nat} {ps : List Int} {H : AH}
open Classical in
theorem turns_ok (hP : SlI Fp H pa pl ps) : FW Ee F_kern_Turns [.slice pa pl pc] H fun r H' => r = .int .i64 (if Turns1 100 ps then 0 else 71) ∧ H = H' := by
  have hlen := hP.len
  refine fw_kern_Turns ?_
  refine cond_intro (fun h => ⟨?_, rfl⟩) (fun h => ?_)
  · rw [if_neg]
    rintro ⟨x, rfl, _⟩
    rw [hlen] at h; simp at h
  have h : pl = 1 := by
    have : ((pl : Nat) : Int) = 1 := by simpa using h
    omega
  have h1 : ps.length = 1 := by omega
  have hps := one_param h1
  obtain ⟨hs, c0⟩ := hP.nth (k := 0) (by omega)
  refine grd_intro hs ⟨by omega, by omega, _, c0, cond_dec (fun h => ⟨?_, rfl⟩) (fun h => ?_)⟩
  · rw [if_neg]
    rintro ⟨x, e, h2, _⟩
    have : ps[0] = x := by simp only [e, List.getElem_cons_zero]
    omega
  refine grd_intro hs ⟨by omega, by omega, _, c0, cond_dec (fun h => ⟨?_, rfl⟩) (fun h => ⟨?_, rfl⟩)⟩
  · rw [if_neg]
    rintro ⟨x, e, _, h2⟩
    have : ps[0] = x := by simp only [e, List.getElem_cons_zero]
    omega
  · rw [if_pos ⟨_, hps, by omega, by omega⟩]
open Classical in
theorem none_ok (hP : SlI Fp H pa pl ps) : FW Ee F_kern_None [.slice pa pl pc] H fun r H' => r = .int .i64 (if ps = [] then 0 else 71) ∧ H = H' := by
  have hlen := hP.len
  refine fw_kern_None ?_
  refine cond_intro (fun h => ⟨?_, rfl⟩) (fun h => ⟨?_, rfl⟩)
  · rw [if_neg]
    rintro rfl
    rw [hlen] at h; simp at h
  · rw [if_pos]
    have : ((pl : Nat) : Int) = 0 := by simpa using h
    exact List.length_eq_zero_iff.1 (by omega)
open Classical in
theorem source_ok {F : Nat → Prop} {a : Option Addr} {l c : Nat} {G : List Vtx} (ok : Ok H) (hG : SlV F H a l G) (hl : l ≤ 4611686018427387904) (hr : Rising G) (hP : SlI Fp H pa pl ps) :
    FW Ee F_kern_Source [.agg ⟨[.slice a l c]⟩, .slice pa pl pc] H fun r H' => r = .int .i64 (if Src G ps then 0 else 71) ∧ Grow H H' := by
  have hlen := hP.len
  refine fw_kern_Source ?_
  intro H1 e1
  have g1 : Grow H H1 := e1 ▸ Grow.new ok _
  have b1 : H1.get H.next = some (.cells [.slice a l c] 0) := e1 ▸ get_new_self _ _
  refine cond_intro (fun h => ⟨?_, g1⟩) (fun h => ?_)
  · rw [if_neg]
    rintro ⟨x, rfl, _⟩
    rw [hlen] at h; simp at h
  have h : pl = 1 := by
    have : ((pl : Nat) : Int) = 1 := by simpa using h
    omega
  have h1 : ps.length = 1 := by omega
  have hps := one_param h1
  obtain ⟨hs, c0⟩ := (hP.grow loc_int g1).nth (k := 0) (by omega)
  refine ⟨_, _, _, cell_of b1 rfl, grd_intro hs ⟨by omega, by omega, _, c0, (gfind_ok g1.ok (hG.grow loc_vtx g1) hl hr).mono ?_⟩⟩
  rintro _ H2 ⟨rfl, g2⟩
  refine ⟨_, _, rfl, cond_intro (fun h => ⟨?_, g1.trans g2⟩) (fun h => ⟨?_, g1.trans g2⟩)⟩
  · rw [if_neg]
    rintro ⟨x, e, h2⟩
    have : ps[0] = x := by simp only [e, List.getElem_cons_zero]
    rw [this, h2] at h
    cases h
  · rw [if_pos ⟨_, hps, by simpa using h⟩]
end
end Go.Proofs.Cx
