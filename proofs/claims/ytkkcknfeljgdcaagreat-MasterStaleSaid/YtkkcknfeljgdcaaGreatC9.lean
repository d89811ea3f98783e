/- MasterStale: what masters agreed on, as bytes, while a job runs. MasterStale: the law, as formulas have it. MasterStale: what comes in. -/
import Derived.Test.YtkkcknfeljgdcaaGreatC8
import Derived.Test.YtkkcknfeljgdcaaGreatC2
import Derived.Test.YtkkcknfeljgdcaaGreatC6
import Derived.Test.YtkkcknfeljgdcaaGreatVc3
namespace Go.Ev
open Go
def f7 (al : Nat) (i : Nat) : Nat := if i = 0 then 1 else if i = 2 then 1 else if i = 6 then al else 0
def agg0B : List UInt8 := aggB (fun _ => false) (fun _ => 0)
/-- the bytes of the job that runs -/
def jobRB (J : JobW) (al : Nat) : List UInt8 :=
  enc 1 ++ jobB J ++ enc 2 ++ txtB (outB ⟨0, 0, 0, []⟩) ++ (List.range 7).flatMap (fun i => enc (f7 al i)) ++ (List.range al).flatMap (fun _ => enc 5) ++ (List.range 3).flatMap (fun _ => agg0B) ++ enc 0
def sessB (rt : List UInt8) : List UInt8 := enc 1 ++ sgB 1 ++ enc 1 ++ txtB rt
def mastB (J : JobW) (al : Nat) (rt : List UInt8) : List UInt8 := sessB rt ++ enc 1 ++ enc 1 ++ enc 1 ++ enc 5 ++ enc 1 ++ enc 1 ++ jobRB J al
theorem rflat (g : Nat → List UInt8) (i : Nat) : (List.range (i + 1)).flatMap g = (List.range i).flatMap g ++ g i := by
  rw [List.range_succ, List.flatMap_append]; simp
theorem rflat_len {g : Nat → List UInt8} {m : Nat} (hg : ∀ i, (g i).length ≤ m) : ∀ i, ((List.range i).flatMap g).length ≤ i * m
  | 0 => by simp
  | i + 1 => by
    have h1 := rflat_len hg i
    have h2 := hg i
    rw [rflat, List.length_append, Nat.succ_mul]; omega
theorem f7_lt {al : Nat} (h : al ≤ 16) (i : Nat) : f7 al i ≤ 16 := by unfold f7; split <;> (try split) <;> (try split) <;> omega
theorem agg0_len : agg0B.length ≤ 100 := by
  have := aggL_len (h := fun _ => false) (v := fun _ => 0) (fun _ => by unfold I64; omega) 5 0
  unfold agg0B aggB; omega
theorem f7_cell {al i : Nat} (hi : i < 7) : ([.int .i64 1, .int .i64 0, .int .i64 1, .int .i64 0, .int .i64 0, .int .i64 0, .int .i64 (((al : Nat) : Int))] : List Value)[0 + ((i : Nat) : Int).toNat * 1]? = some (.int .i64 ((f7 al i : Nat) : Int)) := by
  rcases (show i = 0 ∨ i = 1 ∨ i = 2 ∨ i = 3 ∨ i = 4 ∨ i = 5 ∨ i = 6 by omega) with rfl | rfl | rfl | rfl | rfl | rfl | rfl <;> rfl
theorem out0_lim : OutW.Lim ⟨0, 0, 0, []⟩ := ⟨by simp, by simp, by simp, by simp, by simp⟩
theorem zagg3_cell {i k : Nat} {v : Value} (hi : i < 3) (hk : k < 10) (h : zAgg[k]? = some v) : (zAgg ++ zAgg ++ zAgg)[0 + ((i : Nat) : Int).toNat * 10 + k]? = some v := by
  rcases (show i = 0 ∨ i = 1 ∨ i = 2 by omega) with rfl | rfl | rfl <;>
  rcases (show k = 0 ∨ k = 1 ∨ k = 2 ∨ k = 3 ∨ k = 4 ∨ k = 5 ∨ k = 6 ∨ k = 7 ∨ k = 8 ∨ k = 9 by omega) with rfl | rfl | rfl | rfl | rfl | rfl | rfl | rfl | rfl | rfl <;> exact h
end Go.Ev
namespace Go.Proofs.Cx
open Go Go.Ev
section
variable {H : AH} {n0 L jb : Nat} {J : JobW} {a : Option Addr} {l c : Nat} {pa : Option Addr} {pl pc : Nat} {aa : Option Addr} {al ac rb : Nat} {rt : List UInt8}
theorem keysr_ok {m : Option Nat} (ok : Ok H) : FW Ee F_maps_Keys_map_int_api_Report_int_api_Report [.map m] H fun r H' => r = .func (.func F_maps_Keys_map_int_api_Report_int_api_Report_1) ⟨[]⟩ ⟨[.pointer (some ⟨H.next, 0, none⟩)]⟩ ∧ H'.get H.next = some (.cells [.map m] 0) ∧ Grow H H' := by
  refine fw_maps_Keys_map_int_api_Report_int_api_Report ?_
  intro H1 e1
  exact ⟨rfl, e1 ▸ get_new_self _ _, e1 ▸ Grow.new ok _⟩
theorem keyss_ok {m : Option Nat} (ok : Ok H) : FW Ee F_maps_Keys_map_int64_sess_last_int64_sess_last [.map m] H fun r H' => r = .func (.func F_maps_Keys_map_int64_sess_last_int64_sess_last_1) ⟨[]⟩ ⟨[.pointer (some ⟨H.next, 0, none⟩)]⟩ ∧ H'.get H.next = some (.cells [.map m] 0) ∧ Grow H H' := by
  refine fw_maps_Keys_map_int64_sess_last_int64_sess_last ?_
  intro H1 e1
  exact ⟨rfl, e1 ▸ get_new_self _ _, e1 ▸ Grow.new ok _⟩
theorem sortedL_eq {args : List Value} {H : AH} : (evalN Ee 1).call F_slices_Sorted_int64 args H = keysW [F_maps_Keys_map_int64_sess_last_int64_sess_last_1] args H := by kernel_rfl
theorem sortedL1_ok {B m : Nat} {val : Int → Value} (ok : Ok H) (hB : H.get B = some (.cells [.map (some m)] 0)) (hm : MapV H m [1] val) :
    FW Ee F_slices_Sorted_int64 [.func (.func F_maps_Keys_map_int64_sess_last_int64_sess_last_1) ⟨[]⟩ ⟨[.pointer (some ⟨B, 0, none⟩)]⟩] H fun r H' => r = .slice (some ⟨H.next, 0, none⟩) 1 3 ∧ H'.get H.next = some (.cells [.int .i64 1] 1) ∧ Grow H H' ∧ H'.next = H.next + 1 := by
  obtain ⟨es, clock, h1, h2, _⟩ := hm
  have hc : List.contains [F_maps_Keys_map_int64_sess_last_int64_sess_last_1] F_maps_Keys_map_int64_sess_last_int64_sess_last_1 = true := by simp
  have e5 : sortI [1] = [1] := by simp [sortI]
  refine ⟨1, .slice (some ⟨H.next, 0, none⟩) 1 3, H.new (.cells [.int .i64 1] 1), ?_, rfl, get_new_self _ _, Grow.new ok _, rfl⟩
  rw [sortedL_eq]
  simp only [keysW, hc, cond_true, hB, h1, h2.keys, if_pos h2, if_neg (List.cons_ne_nil (1 : Int) [])]
  rw [e5]
  rfl
set_option maxHeartbeats 1000000 in
theorem putj_ok {H0 H : AH} {n1 b : Nat} {bs : List UInt8} (ok0 : Ok H0) (h : RM H0 n0 L jb J a l c pa pl pc aa al ac rb rt) (g : Grow H0 H) (hw : Wr H n1 b bs) (hn : H0.next ≤ n1) (hpl : J.prog.length ≤ 1000) (hs : bs.length ≤ 140737300000000) :
    FW Ee F_master_putJob [.pointer (some ⟨b, 0, none⟩), .pointer (some ⟨jb, 0, none⟩)] H fun r H' => r = .tuple ⟨[]⟩ ∧ Wr H' n1 b (bs ++ jobRB J al) ∧ WrX H b H' := by
  have G : ∀ {Hk : AH}, WrX H b Hk → Grow H0 Hk := fun xk => Mod.then g xk.mod ok0 fun x hx => by have := hw.low hx; omega
  have Jb : ∀ {Hk : AH}, WrX H b Hk → Hk.get jb = some (.cells (jobRC J a l c pa pl pc aa al ac rb) 0) := fun xk => (G xk).get _ _ not_false h.job
  have Rb : ∀ {Hk : AH}, WrX H b Hk → Hk.get rb = some (.map [] 0) := fun xk => (G xk).get _ _ not_false h.r
  have lo : ∀ {Hk : AH} {bs' : List UInt8}, WrX H b Hk → Wr Hk n1 b bs' → ∀ x, x < H0.next → x < Hk.next ∧ ¬ WrS Hk b x := fun xk wk x hx => ⟨by have := (G xk).next; omega, fun k => by have := wk.low k; omega⟩
  have x0 : WrX H b H := WrX.grow g.ok hw (.refl g.ok)
  have e1 := enc_len64 (show 1 < 18446744073709551616 by omega)
  have e2 := enc_len64 (show 2 < 18446744073709551616 by omega)
  have ej := jobB_len h.ji (by omega)
  have ha1 := h.alb.1
  have ha2 := h.alb.2
  have eo : (txtB (outB ⟨0, 0, 0, []⟩)).length ≤ 100 := by
    have h0 := enc_len64 (show 0 < 18446744073709551616 by omega)
    have h1 : (outB ⟨0, 0, 0, []⟩).length ≤ 40 := by unfold outB; simp only [List.length_append, List.flatMap_nil, List.length_nil]; omega
    have h2 := enc_len64 (show (outB ⟨0, 0, 0, []⟩).length < 18446744073709551616 by omega)
    unfold txtB; rw [List.length_append]; omega
  refine fw_master_putJob ?_
  refine ⟨_, cell_of (Jb x0) rfl, (yw_count (n := 1) g.ok hw (by omega) (by omega)).mono ?_⟩
  rintro _ H1 ⟨rfl, w1, x1⟩
  have g0 := slv_weak (F' := fun y => y < H0.next) ok0 h.g (fun y _ hy => hy)
  have p0 := Sl.weak (F' := fun y => y < H0.next) h.p (fun y _ hy => hy) (int_lt ok0)
  refine ⟨rfl, _, _, _, _, _, _, _, _, _, _, cell_of (Jb x1) rfl, cell_of (Jb x1) rfl, cell_of (Jb x1) rfl, cell_of (Jb x1) rfl, cell_of (Jb x1) rfl, cell_of (Jb x1) rfl, (putjob_ok (j := J) x1.mod.ok w1 (g0.grow loc_vtx (G x1)) (lo x1 w1) (p0.grow loc_int (G x1)) (lo x1 w1) h.ji hpl (by rw [List.length_append]; omega)).mono ?_⟩
  rintro _ H2 ⟨rfl, w2, x2⟩
  replace x2 := x1.trans g.ok x2
  refine ⟨rfl, _, cell_of (Jb x2) rfl, (yw_count (n := 2) x2.mod.ok w2 (by omega) (by simp only [List.length_append]; omega)).mono ?_⟩
  rintro _ H3 ⟨rfl, w3, x3⟩
  replace x3 := x2.trans g.ok x3
  refine ⟨rfl, _, _, _, _, _, _, cell_of (Jb x3) rfl, cell_of (Jb x3) rfl, cell_of (Jb x3) rfl, cell_of (Jb x3) rfl, (encode_ok (F := fun _ => False) (a := none) (l := 0) (c := 0) (o := ⟨0, 0, 0, []⟩) x3.mod.ok out0_lim ⟨rfl, fun h => absurd h (Nat.lt_irrefl 0), fun i hi => absurd hi (Nat.not_lt_zero i)⟩ (fun _ hb => hb.elim)).mono ?_⟩
  rintro _ H4 ⟨rfl, g4⟩
  have x4 := x3.trans g.ok (WrX.grow x3.mod.ok w3 g4)
  have w4 := w3.grow g4
  refine ⟨_, rfl, (yw_text x4.mod.ok w4 (by simp only [List.length_append]; unfold txtB at eo; rw [List.length_append] at eo; omega)).mono ?_⟩
  rintro _ H5 ⟨rfl, w5, x5⟩
  replace x5 := x4.trans g.ok x5
  refine ⟨rfl, _, cell_of (Jb x5) rfl, _, cell_of (Jb x5) rfl, _, cell_of (Jb x5) rfl, _, cell_of (Jb x5) rfl, _, cell_of (Jb x5) rfl, _, cell_of (Jb x5) rfl, _, _, _, cell_of (Jb x5) rfl, ?_⟩
  intro H6 e6
  obtain ⟨g6, c6, n6⟩ := new_job x5.mod.ok e6
  have x6 := x5.trans g.ok (WrX.grow x5.mod.ok w5 g6)
  have w6 := w5.grow g6
  have o6 : ¬ WrS H6 b H5.next := w5.new x5.mod.ok g6 (Nat.le_refl _)
  obtain ⟨B5, hB5⟩ : ∃ B5, B5 = bs ++ enc 1 ++ jobB J ++ enc 2 ++ txtB (outB ⟨0, 0, 0, []⟩) := ⟨_, rfl⟩
  have l5 : B5.length ≤ 140737310700000 := by rw [hB5]; simp only [List.length_append]; omega
  rw [← hB5] at w6
  have d7 : ∀ i, (enc (f7 al i)).length ≤ 10 := fun i => enc_len64 (by have := f7_lt ha2 i; omega)
  refine ⟨cell_of (Jb x6) rfl, cell_of (Jb x6) rfl, cell_of (Jb x6) rfl, cell_of (Jb x6) rfl, cell_of (Jb x6) rfl, cell_of (Jb x6) rfl, cell_of (Jb x6) rfl, fun m t Hb => ∃ i : Nat, t = i ∧ i ≤ 7 ∧ m = 7 - i ∧ Wr Hb n1 b (B5 ++ (List.range i).flatMap (fun i => enc (f7 al i))) ∧ WrX H6 b Hb, ⟨_, 0, rfl, by omega, rfl, by simpa using w6, WrX.grow x6.mod.ok w6 (.refl x6.mod.ok)⟩, ?_⟩
  rintro m t H7 ⟨i, rfl, hi, rfl, w7, x67⟩
  have x7 := x6.trans g.ok x67
  have d7i := rflat_len d7 i
  refine cond_dec (fun hlt => ?_) (fun hge => ?_)
  · refine ⟨by omega, by omega, _, cell_of (x67.mod.get _ _ o6 c6) (f7_cell (by omega)), (yw_count (n := f7 al i) x7.mod.ok w7 (by have := f7_lt ha2 i; omega) (by rw [List.length_append]; omega)).mono ?_⟩
    rintro _ H8 ⟨rfl, w8, x8⟩
    refine ⟨rfl, ?_⟩
    intro t75 e75
    rw [wrap_i64 (by omega) (by omega)] at e75
    subst e75
    exact ⟨7 - (i + 1), by omega, i + 1, by simp, by omega, rfl, by rw [rflat, ← List.append_assoc]; exact w8, x67.trans x6.mod.ok x8⟩
  obtain rfl : i = 7 := by omega
  clear hi hge d7i
  have l7 := rflat_len d7 7
  obtain ⟨B7, hB7⟩ : ∃ B7, B7 = B5 ++ (List.range 7).flatMap (fun i => enc (f7 al i)) := ⟨_, rfl⟩
  have l7 : B7.length ≤ 140737310800000 := by rw [hB7]; simp only [List.length_append]; omega
  rw [← hB7] at w7
  have lA := h.asg.len
  have d5 : ∀ i, ((fun _ => enc 5 : Nat → List UInt8) i).length ≤ 10 := fun i => enc_len64 (by omega)
  refine ⟨_, _, _, cell_of (Jb x7) rfl, fun m t Hb => ∃ i : Nat, t = i ∧ i ≤ al ∧ m = al - i ∧ Wr Hb n1 b (B7 ++ (List.range i).flatMap (fun _ => enc 5)) ∧ WrX H7 b Hb, ⟨_, 0, rfl, by omega, rfl, by simpa using w7, WrX.grow x7.mod.ok w7 (.refl x7.mod.ok)⟩, ?_⟩
  rintro m t H9 ⟨i, rfl, hi, rfl, w9, x79⟩
  have x9 := x7.trans g.ok x79
  have d9i := rflat_len d5 i
  refine cond_dec (fun hlt => ?_) (fun hge => ?_)
  · obtain ⟨q1, q2⟩ := (h.asg.grow loc_int (G x9)).nth (k := i) (by simp; omega)
    have q2 : H9.cell (adr aa).block ((adr aa).off + i * 1) = some (.int .i64 5) := by simpa [PInt] using q2
    refine grd_intro q1 ⟨by omega, by omega, 5, by rw [show ((i : Nat) : Int).toNat = i from by omega]; exact q2, (yw_count (n := 5) x9.mod.ok w9 (by omega) (by rw [List.length_append]; omega)).mono ?_⟩
    rintro _ H10 ⟨rfl, w10, x10⟩
    refine ⟨rfl, ?_⟩
    intro t88 e88
    rw [wrap_i64 (by omega) (by omega)] at e88
    subst e88
    exact ⟨al - (i + 1), by omega, i + 1, by simp, by omega, rfl, by rw [rflat, ← List.append_assoc]; exact w10, x79.trans x7.mod.ok x10⟩
  obtain rfl : i = al := by omega
  obtain ⟨B9, hB9⟩ : ∃ B9, B9 = B7 ++ (List.range i).flatMap (fun _ => enc 5) := ⟨_, rfl⟩
  have l9 : B9.length ≤ 140737310900000 := by rw [hB9]; simp only [List.length_append]; omega
  rw [← hB9] at w9
  clear hi hge d9i
  refine ⟨_, _, _, _, _, _, _, _, _, _, cell_of (Jb x9) rfl, cell_of (Jb x9) rfl, cell_of (Jb x9) rfl, cell_of (Jb x9) rfl, cell_of (Jb x9) rfl, cell_of (Jb x9) rfl, cell_of (Jb x9) rfl, cell_of (Jb x9) rfl, cell_of (Jb x9) rfl, cell_of (Jb x9) rfl, _, _, _, _, _, _, _, _, _, _, cell_of (Jb x9) rfl, cell_of (Jb x9) rfl, cell_of (Jb x9) rfl, cell_of (Jb x9) rfl, cell_of (Jb x9) rfl, cell_of (Jb x9) rfl, cell_of (Jb x9) rfl, cell_of (Jb x9) rfl, cell_of (Jb x9) rfl, cell_of (Jb x9) rfl, _, _, _, _, _, _, _, _, _, _, cell_of (Jb x9) rfl, cell_of (Jb x9) rfl, cell_of (Jb x9) rfl, cell_of (Jb x9) rfl, cell_of (Jb x9) rfl, cell_of (Jb x9) rfl, cell_of (Jb x9) rfl, cell_of (Jb x9) rfl, cell_of (Jb x9) rfl, cell_of (Jb x9) rfl, ?_⟩
  intro H11 e11
  obtain ⟨g11, c11, n11⟩ := new_job x9.mod.ok e11
  have c11 : H11.get H9.next = some (.cells (zAgg ++ zAgg ++ zAgg) 0) := c11
  have x11 := x9.trans g.ok (WrX.grow x9.mod.ok w9 g11)
  have w11 := w9.grow g11
  have o11 : ¬ WrS H11 b H9.next := w9.new x9.mod.ok g11 (Nat.le_refl _)
  have ea := agg0_len
  have d3 : ∀ i, ((fun _ => agg0B : Nat → List UInt8) i).length ≤ 100 := fun i => ea
  refine ⟨cell_of (Jb x11) rfl, cell_of (Jb x11) rfl, cell_of (Jb x11) rfl, cell_of (Jb x11) rfl, cell_of (Jb x11) rfl, cell_of (Jb x11) rfl, cell_of (Jb x11) rfl, cell_of (Jb x11) rfl, cell_of (Jb x11) rfl, cell_of (Jb x11) rfl, cell_of (Jb x11) rfl, cell_of (Jb x11) rfl, cell_of (Jb x11) rfl, cell_of (Jb x11) rfl, cell_of (Jb x11) rfl, cell_of (Jb x11) rfl, cell_of (Jb x11) rfl, cell_of (Jb x11) rfl, cell_of (Jb x11) rfl, cell_of (Jb x11) rfl, cell_of (Jb x11) rfl, cell_of (Jb x11) rfl, cell_of (Jb x11) rfl, cell_of (Jb x11) rfl, cell_of (Jb x11) rfl, cell_of (Jb x11) rfl, cell_of (Jb x11) rfl, cell_of (Jb x11) rfl, cell_of (Jb x11) rfl, cell_of (Jb x11) rfl, fun m t Hb => ∃ k : Nat, t = k ∧ k ≤ 3 ∧ m = 3 - k ∧ Wr Hb n1 b (B9 ++ (List.range k).flatMap (fun _ => agg0B)) ∧ WrX H11 b Hb, ⟨_, 0, rfl, by omega, rfl, by simpa using w11, WrX.grow x11.mod.ok w11 (.refl x11.mod.ok)⟩, ?_⟩
  rintro m t H12 ⟨k, rfl, hk, rfl, w12, x112⟩
  have x12 := x11.trans g.ok x112
  have d12 := rflat_len d3 k
  refine cond_dec (fun hlt => ?_) (fun hge => ?_)
  · have c12 := x112.mod.get _ _ o11 c11
    have hk3 : k < 3 := by omega
    have z : ∀ j v, j < 10 → zAgg[j]? = some v → H12.cell H9.next (0 + ((k : Nat) : Int).toNat * 10 + j) = some v := fun j v hj hv => cell_of c12 (zagg3_cell hk3 hj hv)
    refine ⟨by omega, by omega, _, _, _, _, _, _, _, _, _, _, z 0 _ (by omega) rfl, z 1 _ (by omega) rfl, z 2 _ (by omega) rfl, z 3 _ (by omega) rfl, z 4 _ (by omega) rfl, z 5 _ (by omega) rfl, z 6 _ (by omega) rfl, z 7 _ (by omega) rfl, z 8 _ (by omega) rfl, z 9 _ (by omega) rfl, ?_⟩
    intro H13 e13
    obtain ⟨H14, e14, b14, g14, n14⟩ := fresh_store (vs := zAgg) e13 rfl rfl x12.mod.ok
    have w14 := w12.grow g14
    have x14 := x112.trans x11.mod.ok (WrX.grow x12.mod.ok w12 g14)
    refine ⟨H14, e14, _, _, _, _, _, _, _, _, _, _, cell_of b14 rfl, cell_of b14 rfl, cell_of b14 rfl, cell_of b14 rfl, cell_of b14 rfl, cell_of b14 rfl, cell_of b14 rfl, cell_of b14 rfl, cell_of b14 rfl, cell_of b14 rfl, (putagg_ok (h := fun _ => false) (v := fun _ => 0) (fun _ => by unfold I64; omega) x14.mod.ok w14 (by rw [List.length_append]; omega)).mono ?_⟩
    rintro _ H15 ⟨rfl, w15, x15⟩
    refine ⟨rfl, ?_⟩
    intro t110 e110
    rw [wrap_i64 (by omega) (by omega)] at e110
    subst e110
    exact ⟨3 - (k + 1), by omega, k + 1, by simp, by omega, rfl, by rw [rflat, ← List.append_assoc]; exact w15, x14.trans x11.mod.ok x15⟩
  obtain rfl : k = 3 := by omega
  have d12 := rflat_len d3 3
  refine ⟨_, cell_of (Jb x12) rfl, .inr ⟨_, _, _, rfl, Rb x12, (yw_count (n := 0) x12.mod.ok w12 (by omega) (by rw [List.length_append]; omega)).mono ?_⟩⟩
  rintro _ H21 ⟨rfl, w21, x21⟩
  replace x21 := x12.trans g.ok x21
  refine ⟨rfl, _, cell_of (Jb x21) rfl, (keysr_ok x21.mod.ok).mono ?_⟩
  rintro _ H22 ⟨rfl, b22, g22⟩
  have x22 := x21.trans g.ok (WrX.grow x21.mod.ok w21 g22)
  have w22 := w21.grow g22
  refine ⟨_, rfl, (sorted_ok (zs := []) (val := fun _ => .bool true) x22.mod.ok (by simp) b22 (.empty (Rb x22))).mono ?_⟩
  rintro _ H23 ⟨a23, c23, rfl, _, _, g23, _⟩
  have x23 := x22.trans g.ok (WrX.grow x22.mod.ok w22 g23)
  have w23 := w22.grow g23
  refine ⟨_, _, _, rfl, fun _ t Hx => t = 0 ∧ Hx = H23, ⟨0, rfl, rfl⟩, ?_⟩
  rintro n t H24 ⟨rfl, rfl⟩
  refine cond_neg (by simp) ⟨rfl, ?_, x23⟩
  unfold jobRB
  rw [hB9, hB7, hB5] at w23
  simpa only [List.append_assoc] using w23
theorem jobRB_len (hi : JobI J) (hpl : J.prog.length ≤ 1000) (ha : al ≤ 16) : (jobRB J al).length ≤ 11000000 := by
  have ej := jobB_len hi (by omega)
  have e0 := enc_len64 (show 0 < 18446744073709551616 by omega)
  have e1 := enc_len64 (show 1 < 18446744073709551616 by omega)
  have e2 := enc_len64 (show 2 < 18446744073709551616 by omega)
  have eo : (txtB (outB ⟨0, 0, 0, []⟩)).length ≤ 100 := by
    have h1 : (outB ⟨0, 0, 0, []⟩).length ≤ 40 := by unfold outB; simp only [List.length_append, List.flatMap_nil, List.length_nil]; omega
    have h2 := enc_len64 (show (outB ⟨0, 0, 0, []⟩).length < 18446744073709551616 by omega)
    unfold txtB; rw [List.length_append]; omega
  have d1 := rflat_len (g := fun i => enc (f7 al i)) (m := 10) (fun i => enc_len64 (by have := f7_lt ha i; omega)) 7
  have d2 := rflat_len (g := fun _ => enc 5) (m := 10) (fun i => enc_len64 (by omega)) al
  have d3 := rflat_len (g := fun _ => agg0B) (m := 100) (fun i => agg0_len) 3
  unfold jobRB
  simp only [List.length_append]
  omega
theorem sput_ok {H0 H : AH} {n1 b : Nat} {bs : List UInt8} (ok0 : Ok H0) (h : RM H0 n0 L jb J a l c pa pl pc aa al ac rb rt) (hr : rt.length ≤ 20) (g : Grow H0 H) (hw : Wr H n1 b bs) (hn : H0.next ≤ n1) (hs : bs.length ≤ 140737300000000) :
    FW Ee F_sess_Table_Put [.pointer (some ⟨n0 + 1, 0, none⟩), .pointer (some ⟨b, 0, none⟩)] H fun r H' => r = .tuple ⟨[]⟩ ∧ Wr H' n1 b (bs ++ sessB rt) ∧ WrX H b H' := by
  have G : ∀ {Hk : AH}, WrX H b Hk → Grow H0 Hk := fun xk => Mod.then g xk.mod ok0 fun x hx => by have := hw.low hx; omega
  have x0 : WrX H b H := WrX.grow g.ok hw (.refl g.ok)
  have e1 := enc_len64 (show 1 < 18446744073709551616 by omega)
  have e1' := sgB_len (x := 1) (by unfold I64; omega)
  have M := fun {Hk : AH} (xk : WrX H b Hk) => h.mod (G xk) fun _ _ => id
  refine fw_sess_Table_Put ?_
  obtain ⟨es, cl, q1, q2⟩ := (M x0).t.len
  refine ⟨_, cell_of (M x0).s rfl, .inr ⟨_, _, _, rfl, q1, ?_⟩⟩
  rw [q2]
  refine (yw_count (n := 1) g.ok hw (by omega) (by omega)).mono ?_
  rintro _ H1 ⟨rfl, w1, x1⟩
  refine ⟨rfl, _, cell_of (M x1).s rfl, (keyss_ok x1.mod.ok).mono ?_⟩
  rintro _ H2 ⟨rfl, b2, g2⟩
  have x2 := x1.trans g.ok (WrX.grow x1.mod.ok w1 g2)
  have w2 := w1.grow g2
  refine ⟨_, rfl, (sortedL1_ok x2.mod.ok b2 (M x2).t).mono ?_⟩
  rintro _ H3 ⟨rfl, b3, g3, n3⟩
  have x3 := x2.trans g.ok (WrX.grow x2.mod.ok w2 g3)
  have w3 := w2.grow g3
  have o3 : ¬ WrS H3 b H2.next := w2.new x2.mod.ok g3 (Nat.le_refl _)
  refine ⟨_, _, _, rfl, fun m t Hx => ∃ i : Nat, t = i ∧ i ≤ 1 ∧ m = 1 - i ∧ Wr Hx n1 b (bs ++ enc 1 ++ (List.range i).flatMap (fun _ => sgB 1 ++ (enc 1 ++ txtB rt))) ∧ WrX H3 b Hx, ⟨_, 0, rfl, by omega, rfl, by simpa using w3, WrX.grow x3.mod.ok w3 (.refl x3.mod.ok)⟩, ?_⟩
  rintro m t H4 ⟨i, rfl, hi, rfl, w4, x34⟩
  have x4 := x3.trans g.ok x34
  refine cond_dec (fun hlt => ?_) (fun hge => ?_)
  · obtain rfl : i = 0 := by omega
    have w4 : Wr H4 n1 b (bs ++ enc 1) := by simpa using w4
    have lk : ∀ {Hk : AH}, WrX H b Hk → lookupv Ee Hk T_M_int64_sess_last (.map (some n0)) (.int .i64 1) false = some (.agg ⟨[.int .i64 1, .string ⟨⟨rt⟩⟩]⟩) := fun xk => by
      rw [look_is, (M xk).t.look (fun _ _ => eqv_L)]; simp
    refine grd_intro rfl ⟨by omega, by omega, 1, cell_of (x34.mod.get _ _ o3 b3) rfl, (yw_signed x4.mod.ok w4 (by unfold I64; omega) (by rw [List.length_append]; omega)).mono ?_⟩
    rintro _ H5 ⟨rfl, w5, x5⟩
    have y5 := x4.trans g.ok x5
    refine ⟨rfl, _, cell_of (M y5).s rfl, _, _, lk y5, (yw_count (n := 1) y5.mod.ok w5 (by omega) (by simp only [List.length_append]; omega)).mono ?_⟩
    rintro _ H6 ⟨rfl, w6, x6⟩
    have y6 := y5.trans g.ok x6
    refine ⟨rfl, _, cell_of (M y6).s rfl, _, _, lk y6, (yw_text y6.mod.ok w6 (by simp only [List.length_append]; omega)).mono ?_⟩
    rintro _ H7 ⟨rfl, w7, x7⟩
    refine ⟨rfl, ?_⟩
    intro t49 e49
    have e49 : t49 = 1 := e49
    subst e49
    refine ⟨0, by omega, 1, rfl, by omega, rfl, ?_, ((x34.trans x3.mod.ok x5).trans x3.mod.ok x6).trans x3.mod.ok x7⟩
    simpa [List.range_succ, List.append_assoc] using w7
  · obtain rfl : i = 1 := by omega
    refine ⟨rfl, ?_, x4⟩
    unfold sessB
    simpa [List.range_succ, List.append_assoc] using w4
set_option maxHeartbeats 1000000 in
theorem encr_ok (ok : Ok H) (h : RM H n0 L jb J a l c pa pl pc aa al ac rb rt) (hr : rt.length ≤ 20) (hpl : J.prog.length ≤ 1000) :
    FW Ee F_master_Master_Encode [.pointer (some ⟨n0 + 4, 0, none⟩)] H fun r H' => r = .string ⟨⟨mastB J al rt⟩⟩ ∧ Grow H H' := by
  have e1 := enc_len64 (show 1 < 18446744073709551616 by omega)
  have e5 := enc_len64 (show 5 < 18446744073709551616 by omega)
  have e1' := sgB_len (x := 1) (by unfold I64; omega)
  have ej := jobRB_len (al := al) h.ji hpl h.alb.2
  have es : (sessB rt).length ≤ 1000 := by
    have e2 := enc_len64 (show rt.length < 18446744073709551616 by omega)
    unfold sessB txtB; simp only [List.length_append]; omega
  refine fw_master_Master_Encode ?_
  refine (newwriter_ok ok).mono ?_
  rintro _ H1 ⟨rfl, w1, g1⟩
  have G : ∀ {Hk : AH}, WrX H1 H.next Hk → Grow H Hk := fun xk => Mod.then g1 xk.mod ok fun x hx => w1.low hx
  have M := fun {Hk : AH} (xk : WrX H1 H.next Hk) => h.mod (G xk) fun _ _ => id
  have x1 : WrX H1 H.next H1 := WrX.grow g1.ok w1 (.refl g1.ok)
  refine ⟨_, rfl, _, cell_of (M x1).m rfl, (sput_ok ok h hr g1 w1 (Nat.le_refl _) (by simp)).mono ?_⟩
  rintro _ H2 ⟨rfl, w2, x2⟩
  rw [List.nil_append] at w2
  refine ⟨rfl, _, cell_of (M x2).m rfl, (yw_count (n := 1) x2.mod.ok w2 (by omega) (by omega)).mono ?_⟩
  rintro _ H3 ⟨rfl, w3, x3⟩
  replace x3 := x2.trans g1.ok x3
  refine ⟨rfl, _, cell_of (M x3).m rfl, (yw_count (n := 1) x3.mod.ok w3 (by omega) (by rw [List.length_append]; omega)).mono ?_⟩
  rintro _ H4 ⟨rfl, w4, x4⟩
  replace x4 := x3.trans g1.ok x4
  obtain ⟨es4, cl4, q1, q2⟩ := (M x4).w.len
  refine ⟨rfl, _, cell_of (M x4).m rfl, .inr ⟨_, _, _, rfl, q1, ?_⟩⟩
  rw [q2]
  refine (yw_count (n := 1) x4.mod.ok w4 (by omega) (by simp only [List.length_append]; omega)).mono ?_
  rintro _ H5 ⟨rfl, w5, x5⟩
  replace x5 := x4.trans g1.ok x5
  refine ⟨rfl, (workers1_ok x5.mod.ok (M x5).m (M x5).w).mono ?_⟩
  rintro _ H6 ⟨wb, hwb, rfl, b6, g6⟩
  have x6 := x5.trans g1.ok (WrX.grow x5.mod.ok w5 g6)
  have w6 := w5.grow g6
  have o6 : ¬ WrS H6 H.next wb := w5.new x5.mod.ok g6 hwb
  refine ⟨_, _, _, rfl, fun m t Hx => ∃ i : Nat, t = i ∧ i ≤ 1 ∧ m = 1 - i ∧ Wr Hx H.next H.next (sessB rt ++ enc 1 ++ enc 1 ++ enc 1 ++ (List.range i).flatMap (fun _ => enc 5 ++ enc 1)) ∧ WrX H6 H.next Hx, ⟨_, 0, rfl, by omega, rfl, by simpa using w6, WrX.grow x6.mod.ok w6 (.refl x6.mod.ok)⟩, ?_⟩
  rintro m t H7 ⟨i, rfl, hi, rfl, w7, x67⟩
  have x7 := x6.trans g1.ok x67
  refine cond_dec (fun hlt => ?_) (fun hge => ?_)
  · obtain rfl : i = 0 := by omega
    have w7 : Wr H7 H.next H.next (sessB rt ++ enc 1 ++ enc 1 ++ enc 1) := by simpa using w7
    refine grd_intro rfl ⟨by omega, by omega, 5, cell_of (x67.mod.get _ _ o6 b6) rfl, (yw_count (n := 5) x7.mod.ok w7 (by omega) (by simp only [List.length_append]; omega)).mono ?_⟩
    rintro _ H8 ⟨rfl, w8, x8⟩
    have y8 := x7.trans g1.ok x8
    refine ⟨rfl, _, cell_of (M y8).m rfl, 1, by rw [look_ii, (M y8).w.look (fun _ _ => eqv_I)]; simp, (yw_count (n := 1) y8.mod.ok w8 (by omega) (by simp only [List.length_append]; omega)).mono ?_⟩
    rintro _ H9 ⟨rfl, w9, x9⟩
    refine ⟨rfl, ?_⟩
    intro t54 e54
    have e54 : t54 = 1 := e54
    subst e54
    refine ⟨0, by omega, 1, rfl, by omega, rfl, ?_, (x67.trans x6.mod.ok x8).trans x6.mod.ok x9⟩
    simpa [List.range_succ, List.append_assoc] using w9
  obtain rfl : i = 1 := by omega
  have w7 : Wr H7 H.next H.next (sessB rt ++ enc 1 ++ enc 1 ++ enc 1 ++ (enc 5 ++ enc 1)) := by simpa [List.range_succ, List.append_assoc] using w7
  obtain ⟨es7, cl7, q3, q4⟩ := (M x7).j.len
  refine ⟨_, cell_of (M x7).m rfl, .inr ⟨_, _, _, rfl, q3, ?_⟩⟩
  rw [q4]
  refine (yw_count (n := 1) x7.mod.ok w7 (by omega) (by simp only [List.length_append]; omega)).mono ?_
  rintro _ H8 ⟨rfl, w8, x8⟩
  replace x8 := x7.trans g1.ok x8
  refine ⟨rfl, (idsn_ok x8.mod.ok (M x8).m (M x8).j).mono ?_⟩
  rintro _ H9 ⟨a9, c9, rfl, S9, g9⟩
  have x9 := x8.trans g1.ok (WrX.grow x8.mod.ok w8 g9)
  have w9 := w8.grow g9
  have e11 : sortI [1] = [1] := by simp [sortI]
  rw [e11] at S9
  refine ⟨_, _, _, rfl, fun m t Hx => (t = 0 ∧ m = 1 ∧ Hx = H9) ∨ (t = 1 ∧ m = 0 ∧ Wr Hx H.next H.next (mastB J al rt) ∧ WrX H9 H.next Hx), ⟨_, .inl ⟨rfl, rfl, rfl⟩⟩, ?_⟩
  rintro n t H10 (⟨rfl, rfl, rfl⟩ | ⟨rfl, rfl, w10, x10⟩)
  · obtain ⟨hs, hx⟩ := S9.nth (k := 0) (by simp)
    have lk : lookupv Ee H10 T_M_int_P_master_job (.map (some (n0 + 2))) (.int .i64 1) false = some (.pointer (some ⟨jb, 0, none⟩)) := by
      rw [look_ij, (M x9).j.look (fun _ _ => eqv_I)]; simp
    refine cond_pos (by simp) (grd_intro hs ⟨by omega, by simp, 1, hx, _, cell_of (M x9).m rfl, _, lk, (putj_ok ok h (G x9) w9 (Nat.le_refl _) hpl (by simp only [List.length_append]; omega)).mono ?_⟩)
    rintro _ H11 ⟨rfl, w11, x11⟩
    refine ⟨rfl, ?_⟩
    intro t77 e77
    have e77 : t77 = 1 := e77
    subst e77
    refine ⟨0, by omega, .inr ⟨rfl, rfl, ?_, x11⟩⟩
    unfold mastB
    simpa only [List.append_assoc] using w11
  · refine cond_neg (by simp) ((wall_ok w10).mono ?_)
    rintro _ _ ⟨rfl, rfl⟩
    exact ⟨_, rfl, rfl, G (x9.trans g1.ok x10)⟩
end
end Go.Proofs.Cx

namespace Go.Ev
open Go
theorem small_small (j : JobW) : small (small j) = small j := by
  unfold small
  simp only [List.take_take, Nat.min_self]
  congr 1
  · split <;> (try split) <;> omega
  · split <;> (try split) <;> omega
/-- a report's cells, the first five by themselves -/
def repL (x0 x1 x2 x3 x4 : Int) (f : Nat → Int) (h : Nat → Bool) (v : Nat → Int) (a : Option Addr) (l c : Nat) : List Value :=
  [.int .i64 x0, .int .i64 x1, .int .i64 x2, .int .i64 x3, .int .i64 x4, .int .i64 (f 5), .int .i64 (f 6), .int .i64 (f 7), .int .i64 (f 8), .bool (h 0), .bool (h 1), .bool (h 2), .bool (h 3), .bool (h 4), .int .i64 (v 0), .int .i64 (v 1), .int .i64 (v 2), .int .i64 (v 3), .int .i64 (v 4), .slice a l c]
def f5 (x0 x1 x2 x3 x4 : Int) (f : Nat → Int) (k : Nat) : Int := match k with
  | 0 => x0
  | 1 => x1
  | 2 => x2
  | 3 => x3
  | 4 => x4
  | k => f k
theorem repL_eq (x0 x1 x2 x3 x4 : Int) (f : Nat → Int) (h : Nat → Bool) (v : Nat → Int) (a : Option Addr) (l c : Nat) : repL x0 x1 x2 x3 x4 f h v a l c = repC (f5 x0 x1 x2 x3 x4 f) h v a l c := rfl
end Go.Ev
namespace Go.Proofs.Cx
open Go Go.Ev
section
variable {H : AH}
theorem textq_ok {F Fp : Nat → Prop} {a pa : Option Addr} {l c pl pc : Nat} {j : JobW} (ok : Ok H) (hG : SlV F H a l j.graph) (hF : ∀ b, F b → b < H.next) (hr : 30 < l → Room l c) (hP : SlI Fp H pa pl j.params) (hFp : ∀ b, Fp b → b < H.next) (hX : JobX (small j)) (hf : Fit (small j).graph) (hc : jchk (small j) = 0) :
    FW Ee F_cohortlaw17_text [jV j a l c pa pl pc] H fun r H' => r = .string ⟨⟨jobB (small j)⟩⟩ ∧ Grow H H' := by
  refine fw_cohortlaw17_text ?_
  intro H1 e1
  obtain ⟨g1, b1, n1⟩ := new_job ok e1
  refine ⟨_, _, _, _, _, _, _, _, _, _, cell_of b1 rfl, cell_of b1 rfl, cell_of b1 rfl, cell_of b1 rfl, cell_of b1 rfl, cell_of b1 rfl, (small_ok' (j := j) g1.ok (hG.grow loc_vtx g1) hr).mono ?_⟩
  rintro _ H2 ⟨sa, sl, sc, rfl, S2, g2⟩
  have g12 := g1.trans g2
  have n2 := g12.next
  refine ⟨_, _, _, _, _, _, _, _, _, _, rfl, (encjob_ok (j := small j) g2.ok S2 (fun b hb => by have := hF b hb; omega) hf (hP.grow loc_int g12) (fun b hb => by have := hFp b hb; omega) hX).mono ?_⟩
  rintro _ H3 ⟨rfl, g3⟩
  rw [if_pos hc, hc]
  exact ⟨_, _, rfl, cond_neg rfl ⟨rfl, g12.trans g3⟩⟩
set_option maxHeartbeats 2000000 in
theorem law_stale {Fg Fp : Nat → Prop} {f : Nat → Int} {h : Nat → Bool} {v : Nat → Int} {a : Option Addr} {l c : Nat} {j : JobW} {ga : Option Addr} {gl gc : Nat} {pa : Option Addr} {pl pc : Nat} {odd : Int} (ok : Ok H)
    (hG : SlV Fg H ga gl j.graph) (hFg : ∀ x, Fg x → x < H.next) (hfit : Fit j.graph) (hrg : Room gl gc) (hP : SlI Fp H pa pl j.params) (hFp : ∀ x, Fp x → x < H.next) (hX : JobX j) :
    FW Ee F_cohortlaw17_MasterStale [jV j ga gl gc pa pl pc, .agg ⟨repC f h v a l c⟩, .int .i64 odd] H fun r H' => r = .bool true ∧ Grow H H' := by
  refine fw_cohortlaw17_MasterStale ?_
  intro H1 e1 H2 e2
  obtain ⟨g1, b1, n1⟩ := new_job ok e1
  obtain ⟨g2, r2, n2⟩ := new_job g1.ok e2
  have b2 := g2.get _ _ id b1
  have g02 := g1.trans g2
  refine ⟨_, _, _, _, _, _, _, _, _, _, cell_of b2 rfl, cell_of b2 rfl, cell_of b2 rfl, cell_of b2 rfl, cell_of b2 rfl, cell_of b2 rfl, (small_ok (j := j) g02.ok (hG.grow loc_vtx g02) hrg).mono ?_⟩
  rintro _ H3 ⟨sa, sl, sc, rfl, S3, g3⟩
  refine ⟨_, _, _, _, _, _, _, _, _, _, rfl, ?_⟩
  intro H4 e4
  obtain ⟨H5, e5, j5, g5, n5⟩ := fresh_store (vs := jC (small j) sa sl sc pa pl pc) e4 rfl rfl g3.ok
  have hfs : Fit (small j).graph := ⟨by have := hfit.n; simp only [small, List.length_take]; omega, fun e he => hfit.e e (List.mem_of_mem_take he)⟩
  have hXs : JobX (small j) := ⟨fun e he => hX.vs e (List.mem_of_mem_take he), hX.ps⟩
  have g05 := (g02.trans g3).trans g5
  refine ⟨H5, e5, _, _, _, _, _, _, _, _, _, _, cell_of j5 rfl, cell_of j5 rfl, cell_of j5 rfl, cell_of j5 rfl, cell_of j5 rfl, cell_of j5 rfl, (refjob_ok (j := small j) g5.ok (S3.grow loc_vtx g5) hfs).mono ?_⟩
  rintro _ H6 ⟨ta, tl, tc, rfl, T6, g6⟩
  refine ⟨_, _, _, _, _, _, _, _, _, _, rfl, (rjcheck_ok (j := small j) g6.ok T6 hfs (hP.grow loc_int (g05.trans g6))).mono ?_⟩
  rintro _ H7 ⟨rfl, g7⟩
  have g07 := (g05.trans g6).trans g7
  refine ⟨_, rfl, cond_intro (fun _ => awake17_ok.mono ?_) (fun hz => ?_)⟩
  · rintro _ _ ⟨rfl, rfl⟩
    exact ⟨_, rfl, rfl, g07⟩
  have hc : jchk (small j) = 0 := by simpa using hz
  have hJ := hXs.ok hc
  have hpl := progs_short (jchk_zero hc).1
  refine (newfm_ok g7.ok).mono ?_
  rintro _ H9 ⟨rfl, m9, n9, g9⟩
  have k27 := ((g3.trans g5).trans g6).trans g7
  have k2 := k27.next
  have r9 := (k27.trans g9).get _ _ id r2
  have j9 := ((g6.trans g7).trans g9).get _ _ id j5
  have n37 := (g6.trans g7).next
  refine ⟨_, rfl, (applyq3_ok (n0 := H7.next) (f := fun _ => 0) (hh := fun _ => false) (v := fun _ => 0) g9.ok m9 (by omega)).mono ?_⟩
  rintro _ H10 ⟨⟨x10, y10, z10, rfl⟩, m10, d10⟩
  have j10 := d10.get _ _ (show ¬ H7.next ≤ H3.next by omega) j9
  have r10 := d10.get _ _ (show ¬ H7.next ≤ H1.next by omega) r9
  have S10 := ((((S3.grow loc_vtx g5).grow loc_vtx g6).grow loc_vtx g7).grow loc_vtx g9).mod loc_vtx d10 fun y hy => by have := hFg y hy; have := g02.next; omega
  have P10 := (hP.grow loc_int (g07.trans g9)).mod loc_int d10 fun y hy => by have := hFp y hy; have := g02.next; omega
  have n10 := d10.next
  have hsl := S10.len
  have hs30 : (small j).graph.length ≤ 30 := by simp only [small, List.length_take]; omega
  refine ⟨_, _, _, rfl, _, _, _, _, _, _, _, _, _, _, cell_of j10 rfl, cell_of j10 rfl, cell_of j10 rfl, cell_of j10 rfl, cell_of j10 rfl, cell_of j10 rfl, (textq_ok (j := small j) (c := sc) d10.ok S10 (fun y hy => by have := hFg y hy; have := g02.next; omega) (fun hh => by omega) P10 (fun y hy => by have := hFp y hy; have := g02.next; omega) (by rw [small_small]; exact hXs) (by rw [small_small]; exact hfs) (by rw [small_small]; exact hc)).mono ?_⟩
  rw [small_small]
  rintro _ H11 ⟨rfl, g11⟩
  have n11 := g11.next
  have hjl := jobB_len hJ (by omega)
  refine ⟨_, rfl, (applyq1_ok (n0 := H7.next) (L := H7.next + 5) (J := small j) (f := fun _ => 0) (hh := fun _ => false) (v := fun _ => 0) g11.ok (m10.grow g11) (by omega) (by omega) hJ hc (by omega) (by omega)).mono ?_⟩
  rintro _ H12 ⟨⟨x12, y12, z12, rfl⟩, ⟨jb, qa, ql, qc, qpa, qpl, qpc, aa, al, ac, rb, rt, hrt, m12⟩, d12⟩
  refine ⟨_, _, _, rfl, (taskr1_ok d12.ok m12).mono ?_⟩
  rintro _ H13 ⟨⟨p0, p1, p2, q0, q1, q2, u0, u1, u2, v0, v1, v2, kk, rfl⟩, g13⟩
  have n12 := d12.next
  have n13 := g13.next
  refine ⟨_, _, _, _, _, _, _, _, _, _, _, _, _, _, _, _, _, _, _, _, _, _, _, _, _, _, _, _, _, _, _, _, _, _, _, rfl, ?_⟩
  intro H14 e14
  obtain ⟨H15, e15, t15, g15, n15⟩ := fresh_store (vs := taskV (small j) p0 p1 p2 q0 q1 q2 u0 u1 u2 v0 v1 v2 kk) e14 rfl rfl g13.ok
  refine ⟨H15, e15, awake17_ok.mono ?_⟩
  rintro _ _ ⟨rfl, rfl⟩
  have m15 := m12.mod (g13.trans g15) fun _ _ => id
  have r15 := (g13.trans g15).get _ _ id (d12.get _ _ (by omega) (g11.get _ _ id r10))
  have D15 : Grow H H15 := by
    have a1 : Grow H H10 := Mod.then (g07.trans g9) d10 ok fun b hb => by have := g02.next; omega
    have a2 : Grow H H12 := Mod.then (a1.trans g11) d12 ok fun b hb => by have := g02.next; omega
    exact a2.trans (g13.trans g15)
  refine ⟨_, rfl, cond_neg rfl (cond_neg rfl ⟨_, cell_of t15 rfl, _, cell_of t15 rfl, _, cell_of t15 rfl, _, cell_of t15 rfl, ?_⟩)⟩
  have ne : ¬ H13.next = H1.next := by omega
  obtain ⟨H17, s17, r17, d17, n17⟩ := put_ok (o := 0) (vs := [.int .i64 1]) (cs' := repL 1 (f 1) (f 2) (f 3) (f 4) f h v a l c) r15 rfl (by simp) rfl g15.ok
  obtain ⟨H18, s18, r18, d18, n18⟩ := put_ok (o := 1) (vs := [.int .i64 1]) (cs' := repL 1 1 (f 2) (f 3) (f 4) f h v a l c) r17 rfl (by simp [repL]) rfl d17.ok
  obtain ⟨H19, s19, r19, d19, n19⟩ := put_ok (o := 2) (vs := [.int .i64 0]) (cs' := repL 1 1 0 (f 3) (f 4) f h v a l c) r18 rfl (by simp [repL]) rfl d18.ok
  obtain ⟨H20, s20, r20, d20, n20⟩ := put_ok (o := 3) (vs := [.int .i64 1]) (cs' := repL 1 1 0 1 (f 4) f h v a l c) r19 rfl (by simp [repL]) rfl d19.ok
  obtain ⟨H21, s21, r21, d21, n21⟩ := put_ok (o := 4) (vs := [.int .i64 5]) (cs' := repL 1 1 0 1 5 f h v a l c) r20 rfl (by simp [repL]) rfl d20.ok
  have t17 := d17.get _ _ ne t15
  have t18 := d18.get _ _ ne t17
  have t19 := d19.get _ _ ne t18
  refine ⟨H17, s17, H18, s18, H19, s19, H20, s20, H21, s21, cell_of t19 rfl, cell_of t18 rfl, cell_of t17 rfl, cell_of t18 rfl, cell_of t17 rfl, cell_of t17 rfl, ?_⟩
  rintro t57 -
  have d1521 := (((d17.trans d18).trans d19).trans d20).trans d21
  refine ⟨fun Hx => ∃ x0 x1 x2 x3 x4 : Int, (x0 ≠ 1 ∨ x1 ≠ 1 ∨ x2 ≠ 0 ∨ x3 ≠ 1 ∨ x4 ≠ 5) ∧ Hx.get H1.next = some (.cells (repL x0 x1 x2 x3 x4 f h v a l c) 0) ∧ Mod (· = H1.next) H15 Hx, ?_, ?_⟩
  · have st : ∀ (o : Nat) (w x0 x1 x2 x3 x4 : Int), (x0 ≠ 1 ∨ x1 ≠ 1 ∨ x2 ≠ 0 ∨ x3 ≠ 1 ∨ x4 ≠ 5) → o < 5 → lset (repL 1 1 0 1 5 f h v a l c) o [.int .i64 w] = repL x0 x1 x2 x3 x4 f h v a l c → ∃ Hx, storeCellsv H21 H1.next o [.int .i64 w] = some Hx ∧ ∃ x0 x1 x2 x3 x4 : Int, (x0 ≠ 1 ∨ x1 ≠ 1 ∨ x2 ≠ 0 ∨ x3 ≠ 1 ∨ x4 ≠ 5) ∧ Hx.get H1.next = some (.cells (repL x0 x1 x2 x3 x4 f h v a l c) 0) ∧ Mod (· = H1.next) H15 Hx := by
      intro o w x0 x1 x2 x3 x4 hne ho he
      obtain ⟨Hx, sx, rx, dx, nx⟩ := put_ok (o := o) (vs := [.int .i64 w]) r21 he (by simp [repL]; omega) rfl d21.ok
      exact ⟨Hx, sx, x0, x1, x2, x3, x4, hne, rx, d1521.trans dx⟩
    refine cond_intro (fun _ => ⟨1, cell_of r21 rfl, fun t e => ?_⟩) (fun _ => cond_intro (fun _ => ⟨1, cell_of r21 rfl, fun t e => ?_⟩) (fun _ => cond_intro (fun _ => ⟨0, cell_of r21 rfl, fun t e => ?_⟩) (fun _ => cond_intro (fun _ => ⟨1, cell_of r21 rfl, fun t e => ?_⟩) (fun _ => cond_intro (fun _ => ⟨5, cell_of r21 rfl, fun t e => ?_⟩) (fun _ => cond_intro (fun _ => ⟨1, cell_of r21 rfl, fun t e => ?_⟩) (fun _ => cond_intro (fun _ => ?_) (fun _ => ?_)))))))
    · obtain rfl : t = 2 := e
      exact st 0 2 2 1 0 1 5 (by omega) (by omega) rfl
    · obtain rfl : t = 0 := e
      exact st 1 0 1 0 0 1 5 (by omega) (by omega) rfl
    · obtain rfl : t = 1 := e
      exact st 2 1 1 1 1 1 5 (by omega) (by omega) rfl
    · obtain rfl : t = 2 := e
      exact st 3 2 1 1 0 2 5 (by omega) (by omega) rfl
    · obtain rfl : t = 6 := e
      exact st 4 6 1 1 0 1 6 (by omega) (by omega) rfl
    · obtain rfl : t = 2 := e
      exact st 1 2 1 2 0 1 5 (by omega) (by omega) rfl
    · exact st 3 0 1 1 0 0 5 (by omega) (by omega) rfl
    · exact st 0 0 0 1 0 1 5 (by omega) (by omega) rfl
  clear r21 s21 r20 s20 r19 s19 r18 s18 r17 s17 d1521 d17 d18 d19 d20 d21 t17 t18 t19 n17 n18 n19 n20 n21
  rintro H30 ⟨x0, x1, x2, x3, x4, hne, r30, d30⟩
  have m30 := m15.mod d30 fun x hx => by omega
  have D30 : Grow H H30 := Mod.then D15 d30 ok fun b hb => by have := g1.next; omega
  refine (encr_ok d30.ok m30 hrt (by omega)).mono ?_
  rintro _ H31 ⟨rfl, g31⟩
  have m31 := m30.mod g31 fun _ _ => id
  have r31 := g31.get _ _ id r30
  rw [repL_eq] at r31
  refine ⟨_, rfl, _, _, _, _, _, _, _, _, _, _, _, _, _, _, _, _, _, _, _, _, _, _, cell_of r31 rfl, cell_of r31 rfl, cell_of r31 rfl, cell_of r31 rfl, cell_of r31 rfl, cell_of r31 rfl, cell_of r31 rfl, cell_of r31 rfl, cell_of r31 rfl, cell_of r31 rfl, cell_of r31 rfl, cell_of r31 rfl, cell_of r31 rfl, cell_of r31 rfl, cell_of r31 rfl, cell_of r31 rfl, cell_of r31 rfl, cell_of r31 rfl, cell_of r31 rfl, cell_of r31 rfl, (applyr5_ok (f := f5 x0 x1 x2 x3 x4 f) (hh := h) (v := v) (va := a) (vl := l) (vc := c) g31.ok m31 (by simpa [f5] using hne)).mono ?_⟩
  rintro _ H32 ⟨rfl, g32⟩
  refine ⟨_, _, _, rfl, ?_⟩
  intro H33 e33
  obtain ⟨H34, e34, t34, g34, n34⟩ := fresh_store (vs := [.int .i64 0, .int .i64 0]) e33 rfl rfl g32.ok
  have m34 := m31.mod (g32.trans g34) fun _ _ => id
  refine ⟨H34, e34, (taskr0_ok (w := 6) (by omega) g34.ok m34).mono ?_⟩
  rintro _ H35 ⟨rfl, g35⟩
  refine ⟨_, _, _, _, _, _, _, _, _, _, _, _, _, _, _, _, _, _, _, _, _, _, _, _, _, _, _, _, _, _, _, _, _, _, _, rfl, ?_⟩
  intro H36 e36
  obtain ⟨H37, e37, t37, g37, n37⟩ := fresh_store (vs := zTask) e36 rfl rfl g35.ok
  have g3137 := ((g32.trans g34).trans g35).trans g37
  have r37 := g3137.get _ _ id r31
  have m37 := m31.mod g3137 fun _ _ => id
  refine ⟨H37, e37, _, _, _, _, _, _, _, _, _, _, _, _, _, _, _, _, _, _, _, _, _, _, cell_of r37 rfl, cell_of r37 rfl, cell_of r37 rfl, cell_of r37 rfl, cell_of r37 rfl, cell_of r37 rfl, cell_of r37 rfl, cell_of r37 rfl, cell_of r37 rfl, cell_of r37 rfl, cell_of r37 rfl, cell_of r37 rfl, cell_of r37 rfl, cell_of r37 rfl, cell_of r37 rfl, cell_of r37 rfl, cell_of r37 rfl, cell_of r37 rfl, cell_of r37 rfl, cell_of r37 rfl, (wantsr_ok (f := f5 x0 x1 x2 x3 x4 f) (hh := h) (v := v) (va := a) (vl := l) (vc := c) g37.ok m37 (by simpa [f5] using hne)).mono ?_⟩
  rintro _ H38 ⟨rfl, g38⟩
  refine ⟨_, rfl, cond_pos rfl (cond_pos rfl ((encr_ok g38.ok (m37.mod g38 fun _ _ => id) hrt (by omega)).mono ?_))⟩
  rintro _ H39 ⟨rfl, g39⟩
  exact ⟨_, rfl, cond_pos (by simp) ⟨rfl, ((D30.trans g31).trans g3137).trans (g38.trans g39)⟩⟩
end
end Go.Proofs.Cx

namespace Go.Proofs.Cx
open Go Go.Ev Go.RowKit
theorem law_stale_in {H : AH} {vs : List Value} {c1 c2 c3 : List Value} {x y z} (ok : Ok H) (hv : vs = [.agg ⟨c1⟩, .agg ⟨c2⟩] ++ c3) (h1 : RJ H c1 x) (h2 : RRep H c2 y) (h3 : RI H c3 z) :
    FW Ee F_cohortlaw17_MasterStale vs H fun r H' => r = .bool true ∧ Grow H H' := by
  subst hv
  obtain ⟨j, ga, gl, gc, pa, pl, pc, rfl, j1, j2, j3, j4, _, j6, _, _, _, _⟩ := job_in ok h1
  obtain ⟨f, ha, v, a, l, c, us, rfl, _, _, _, _, _, _⟩ := rep_in ok h2
  obtain ⟨rfl, _⟩ := h3
  exact law_stale ok j1 (fun _ h => h) j2 j3 j4 (fun _ h => h) j6
end Go.Proofs.Cx
