/- MasterTexts: small jobs, what comes in. MasterTexts: the law, as formulas have it. MasterTexts: what comes in. Maps whose keys are whole numbers. A master without jobs: who joins, who is lost. MasterNil: a nil master, and one that is new. -/
import Derived.Test.YtkkcknfeljgdcaaGreatC5
import Derived.Test.YtkkcknfeljgdcaaGreatVc2
import Derived.Test.YtkkcknfeljgdcaaGreatB3
import Derived.Test.YtkkcknfeljgdcaaGreatC4
namespace Go.Ev
open Go
theorem slcv_pre {H : AH} {sz l c k : Nat} {x : Addr} (hr : Room l c) (hk : k ≤ l) (h0 : 0 < k) :
    slcv H sz (some x) l c none (some (.int .i64 (k : Int))) none = some (.slice (some ⟨x.block, x.off + 0 * sz, none⟩) k (2 * (c / 2))) := by
  obtain ⟨h1, h2⟩ := hr (by omega)
  unfold slcv
  simp only [boundOf, capN, Option.isSome_none]
  rw [if_pos (by omega)]
  have e1 : Nat.beq (c / 2) 0 = false := by
    cases hq : Nat.beq (c / 2) 0 with
    | false => rfl
    | true => have := Nat.eq_of_beq_eq_true hq; omega
  have e2 : Nat.beq (c % 2) 0 = true := by rw [h1]; rfl
  simp only [Int.toNat_natCast]
  simp only [Nat.ble_eq_true_of_le (show k ≤ c / 2 by omega), cond_true, cutv, e1, cond_false, e2, Bool.false_or, Nat.sub_zero]
theorem Sl.pre {α : Type} {F : Nat → Prop} {H : AH} {sz : Nat} {P : AH → Nat → Nat → α → Prop} {x : Addr} {l k : Nat} {xs : List α} (h : Sl F H sz P (some x) l xs) (hk : k ≤ l) (h0 : 0 < k) : Sl F H sz P (some ⟨x.block, x.off + 0 * sz, none⟩) k (xs.take k) := by
  have hl := h.len
  refine ⟨by rw [List.length_take]; omega, fun _ => ⟨rfl, (h.base (by omega)).2⟩, fun i hi => ?_⟩
  rw [List.length_take] at hi
  rw [List.getElem_take]
  have := h.cells i (by omega)
  simp only [adr] at this ⊢
  rw [show x.off + 0 * sz + i * sz = x.off + i * sz from by omega]
  exact this
def small (j : JobW) : JobW := ⟨j.prog, j.graph.take 30, j.params, if j.steps > 60 then 60 else j.steps, if j.sent > 3000 then 3000 else j.sent, j.parts⟩
def seqB : List Bool → Option Bool
  | [] => some true
  | b :: l => match some b with
    | some true => seqB l
    | r => r
end Go.Ev
namespace Go.Proofs.Cx
open Go Go.Ev
theorem small_ok' {F : Nat → Prop} {a pa : Option Addr} {l c pl pc : Nat} {j : JobW} {H : AH} (ok : Ok H) (hG : SlV F H a l j.graph) (hr : 30 < l → Room l c) :
    FW Ee F_cohortlaw09_Small [jV j a l c pa pl pc] H fun r H' => ∃ a' l' c', r = jV (small j) a' l' c' pa pl pc ∧ SlV F H' a' l' (small j).graph ∧ Grow H H' := by
  have hlen := hG.len
  have G0 : SlV (fun y => F y ∧ y < H.next) H a l j.graph := slv_weak ok hG fun y hy hlt => ⟨hy, hlt⟩
  refine fw_cohortlaw09_Small ?_
  intro H1 e1 H2 e2
  obtain ⟨g1, b1, n1⟩ := new_job ok e1
  obtain ⟨g2, z2, n2⟩ := new_job g1.ok e2
  have b2 := g2.get _ _ id b1
  have g02 := g1.trans g2
  have G2 := G0.grow loc_vtx g02
  have st : ∀ {Hx : AH} {a' : Option Addr} {l' c' : Nat} {x y : Int} (o : Nat) (v : Value) (cs' : List Value), Hx.get H.next = some (.cells [.string ⟨⟨j.prog⟩⟩, .slice a' l' c', .slice pa pl pc, .int .i64 x, .int .i64 y, .int .i64 j.parts] 0) → Hx.get H1.next = some (.cells zJob 0) → SlV (fun y => F y ∧ y < H.next) Hx a' l' (j.graph.take 30) → Mod (· = H.next) H2 Hx →
      o < 6 → oneCell v = true → lset [.string ⟨⟨j.prog⟩⟩, .slice a' l' c', .slice pa pl pc, .int .i64 x, .int .i64 y, .int .i64 j.parts] o [v] = cs' →
      ∃ Hy, storeCellsv Hx H.next o [v] = some Hy ∧ Hy.get H.next = some (.cells cs' 0) ∧ Hy.get H1.next = some (.cells zJob 0) ∧ SlV (fun y => F y ∧ y < H.next) Hy a' l' (j.graph.take 30) ∧ Mod (· = H.next) H2 Hy := by
    intro Hx a' l' c' x y o v cs' bx zx Gx mx ho hv he
    have m := Mod.set mx.ok bx (.cells cs' 0)
    have s := store_of (o := o) (vs := [v]) bx (by simp; omega) (by simp [hv])
    rw [he] at s
    exact ⟨_, s, get_set_self _ _ _, m.get _ _ (by omega) zx, Gx.mod loc_vtx m fun y hy e => by omega, mx.trans m⟩
  refine ⟨_, _, _, cell_of b2 rfl, ?_⟩
  refine ⟨fun Hx => ∃ a' l' c', Hx.get H.next = some (.cells [.string ⟨⟨j.prog⟩⟩, .slice a' l' c', .slice pa pl pc, .int .i64 j.steps, .int .i64 j.sent, .int .i64 j.parts] 0) ∧ Hx.get H1.next = some (.cells zJob 0) ∧ SlV (fun y => F y ∧ y < H.next) Hx a' l' (j.graph.take 30) ∧ Mod (· = H.next) H2 Hx, cond_dec (fun hgt => ?_) (fun hle => ?_), ?_⟩
  · have hsome : a.isSome = true := (hG.base (by omega)).1
    cases a with
    | none => cases hsome
    | some x =>
      have m := Mod.set g2.ok b2 (.cells [.string ⟨⟨j.prog⟩⟩, .slice (some ⟨x.block, x.off + 0 * 3, none⟩) 30 (2 * (c / 2)), .slice pa pl pc, .int .i64 j.steps, .int .i64 j.sent, .int .i64 j.parts] 0)
      refine ⟨_, _, _, cell_of b2 rfl, _, _, _, slcv_pre (hr (by omega)) (k := 30) (by omega) (by omega), _, store_of (o := 1) b2 (by simp) rfl, ?_⟩
      exact ⟨_, _, _, get_set_self _ _ _, m.get _ _ (by omega) z2, (G2.pre (k := 30) (by omega) (by omega)).mod loc_vtx m fun y hy e => by omega, m⟩
  · have ht : j.graph.take 30 = j.graph := List.take_of_length_le (by omega)
    exact ⟨_, _, _, b2, z2, by rw [ht]; exact G2, .refl g2.ok⟩
  rintro H4 ⟨a', l', c', b4, z4, G4, m4⟩
  refine ⟨_, cell_of b4 rfl, ?_⟩
  refine ⟨fun Hx => Hx.get H.next = some (.cells [.string ⟨⟨j.prog⟩⟩, .slice a' l' c', .slice pa pl pc, .int .i64 (small j).steps, .int .i64 j.sent, .int .i64 j.parts] 0) ∧ Hx.get H1.next = some (.cells zJob 0) ∧ SlV (fun y => F y ∧ y < H.next) Hx a' l' (j.graph.take 30) ∧ Mod (· = H.next) H2 Hx, cond_dec (fun h => ?_) (fun h => ?_), ?_⟩
  · exact st 3 (.int .i64 60) _ b4 z4 G4 m4 (by omega) rfl (by simp [small, h, lset])
  · refine ⟨?_, z4, G4, m4⟩
    have : (small j).steps = j.steps := if_neg h
    rw [this]; exact b4
  rintro H6 ⟨b6, z6, G6, m6⟩
  refine ⟨_, cell_of b6 rfl, ?_⟩
  refine ⟨fun Hx => Hx.get H.next = some (.cells [.string ⟨⟨j.prog⟩⟩, .slice a' l' c', .slice pa pl pc, .int .i64 (small j).steps, .int .i64 (small j).sent, .int .i64 j.parts] 0) ∧ Hx.get H1.next = some (.cells zJob 0) ∧ SlV (fun y => F y ∧ y < H.next) Hx a' l' (j.graph.take 30) ∧ Mod (· = H.next) H2 Hx, cond_dec (fun h => ?_) (fun h => ?_), ?_⟩
  · exact st 4 (.int .i64 3000) _ b6 z6 G6 m6 (by omega) rfl (by simp [small, h, lset])
  · refine ⟨?_, z6, G6, m6⟩
    have : (small j).sent = j.sent := if_neg h
    rw [this]; exact b6
  rintro H8 ⟨b8, z8, G8, m8⟩
  refine ret_job (j := small j) (Q := fun r H' => ∃ a' l' c', r = jV (small j) a' l' c' pa pl pc ∧ SlV F H' a' l' (small j).graph ∧ Grow H H') m8.ok b8 z8 fun Hx mx => ⟨a', l', c', rfl, ?_, ?_⟩
  · exact slv_weak mx.ok (G8.mod loc_vtx mx fun y hy e => by omega) fun y hy _ => hy.1
  · exact (g02.ext m8 ok fun y hy => .inr (by omega)).ext mx ok fun y hy => .inr (by omega)
theorem small_ok {F : Nat → Prop} {a pa : Option Addr} {l c pl pc : Nat} {j : JobW} {H : AH} (ok : Ok H) (hG : SlV F H a l j.graph) (hr : Room l c) :
    FW Ee F_cohortlaw09_Small [jV j a l c pa pl pc] H fun r H' => ∃ a' l' c', r = jV (small j) a' l' c' pa pl pc ∧ SlV F H' a' l' (small j).graph ∧ Grow H H' := small_ok' ok hG fun _ => hr
end Go.Proofs.Cx

namespace Go.Ev
open Go
end Go.Ev
namespace Go.Proofs.Cx
open Go Go.Ev
theorem awake17_ok {H : AH} : FW Ee F_cohortlaw17_awake [] H fun v H' => v = .bool true ∧ H = H' := by
  have e : (evalN Ee 1).call F_cohortlaw17_awake [] H = some (.bool true, H) := by kernel_rfl
  exact ⟨1, _, _, e, rfl, rfl⟩
end Go.Proofs.Cx

namespace Go.Proofs.Cx
open Go Go.Ev Go.RowKit
abbrev RI : AH → List Value → Int → Prop := RInt .i64
abbrev R5b : AH → List Value → Bool × Bool × Bool × Bool × Bool × Unit → Prop := RCons RBool (RCons RBool (RCons RBool (RCons RBool (RCons RBool RNil))))
abbrev R5i : AH → List Value → Int × Int × Int × Int × Int × Unit → Prop := RCons RI (RCons RI (RCons RI (RCons RI (RCons RI RNil))))
abbrev RAg : AH → List Value → (Bool × Bool × Bool × Bool × Bool × Unit) × (Int × Int × Int × Int × Int × Unit) × Unit → Prop := RCons R5b (RCons R5i RNil)
abbrev RRep : AH → List Value → Int × Int × Int × Int × Int × Int × Int × Int × Int × ((Bool × Bool × Bool × Bool × Bool × Unit) × (Int × Int × Int × Int × Int × Unit) × Unit) × List (Int × Int × Unit) × Unit → Prop :=
  RCons RI (RCons RI (RCons RI (RCons RI (RCons RI (RCons RI (RCons RI (RCons RI (RCons RI (RCons RAg (RCons (RSl 2 16 RE) RNil))))))))))
theorem stable_5b : Stable R5b := stable_cons stable_bool (stable_cons stable_bool (stable_cons stable_bool (stable_cons stable_bool (stable_cons stable_bool stable_nil))))
theorem stable_5i : Stable R5i := stable_cons stable_ri (stable_cons stable_ri (stable_cons stable_ri (stable_cons stable_ri (stable_cons stable_ri stable_nil))))
theorem stable_rag : Stable RAg := stable_cons stable_5b (stable_cons stable_5i stable_nil)
theorem stable_rrep : Stable RRep := stable_cons stable_ri (stable_cons stable_ri (stable_cons stable_ri (stable_cons stable_ri (stable_cons stable_ri (stable_cons stable_ri (stable_cons stable_ri (stable_cons stable_ri (stable_cons stable_ri (stable_cons stable_rag (stable_cons (stable_slice stable_re) stable_nil))))))))))
section
variable {Hh : Type} {enc : TypeId × Value → Hh} {W : World} [Sy]
theorem lay_5b : LayT enc Tryz.prog W T_5_bool R5b :=
  lay_array (ds := [(T_bool, 0), (T_bool, 1), (T_bool, 2), (T_bool, 3), (T_bool, 4)]) (n := 5) (e := T_bool) (total := 5) (by kernel_rfl) (by kernel_rfl) (by kernel_rfl)
    (lay_fcons (off := 0) (n := 1) rfl (by kernel_rfl) (lay_bool (by kernel_rfl)) stable_bool (lay_fcons (off := 1) (n := 1) rfl (by kernel_rfl) (lay_bool (by kernel_rfl)) stable_bool (lay_fcons (off := 2) (n := 1) rfl (by kernel_rfl) (lay_bool (by kernel_rfl)) stable_bool
      (lay_fcons (off := 3) (n := 1) rfl (by kernel_rfl) (lay_bool (by kernel_rfl)) stable_bool (lay_fcons (off := 4) (n := 1) rfl (by kernel_rfl) (lay_bool (by kernel_rfl)) stable_bool lay_fnil)))))
theorem lay_5i : LayT enc Tryz.prog W T_5_int64 R5i :=
  lay_array (ds := [(T_int64, 0), (T_int64, 1), (T_int64, 2), (T_int64, 3), (T_int64, 4)]) (n := 5) (e := T_int64) (total := 5) (by kernel_rfl) (by kernel_rfl) (by kernel_rfl)
    (lay_fcons (off := 0) (n := 1) rfl (by kernel_rfl) (lay_int (by kernel_rfl)) stable_ri (lay_fcons (off := 1) (n := 1) rfl (by kernel_rfl) (lay_int (by kernel_rfl)) stable_ri (lay_fcons (off := 2) (n := 1) rfl (by kernel_rfl) (lay_int (by kernel_rfl)) stable_ri
      (lay_fcons (off := 3) (n := 1) rfl (by kernel_rfl) (lay_int (by kernel_rfl)) stable_ri (lay_fcons (off := 4) (n := 1) rfl (by kernel_rfl) (lay_int (by kernel_rfl)) stable_ri lay_fnil)))))
theorem lay_agg : LayT enc Tryz.prog W T_api_Aggregate RAg :=
  lay_struct (ds := [(T_5_bool, 0), (T_5_int64, 5)]) (by kernel_rfl) (total := 10) (by kernel_rfl)
    (lay_fcons (off := 0) (n := 5) rfl (by kernel_rfl) lay_5b stable_5b (lay_fcons (off := 5) (n := 5) rfl (by kernel_rfl) lay_5i stable_5i lay_fnil))
theorem lay_val : LayT enc Tryz.prog W T_api_Value RE :=
  lay_struct (ds := [(T_int64, 0), (T_int64, 1)]) (by kernel_rfl) (total := 2) (by kernel_rfl)
    (lay_fcons (off := 0) (n := 1) rfl (by kernel_rfl) (lay_int (by kernel_rfl)) stable_int (lay_fcons (off := 1) (n := 1) rfl (by kernel_rfl) (lay_int (by kernel_rfl)) stable_int lay_fnil))
theorem lay_report : LayT enc Tryz.prog W T_api_Report RRep :=
  lay_struct (ds := [(T_int, 0), (T_int, 1), (T_int, 2), (T_int, 3), (T_int, 4), (T_api_Errno, 5), (T_int, 6), (T_int, 7), (T_int, 8), (T_api_Aggregate, 9), (T_L_api_Value, 19)]) (by kernel_rfl) (total := 20) (by kernel_rfl)
    (lay_fcons (off := 0) (n := 1) rfl (by kernel_rfl) (lay_int (by kernel_rfl)) stable_ri
    (lay_fcons (off := 1) (n := 1) rfl (by kernel_rfl) (lay_int (by kernel_rfl)) stable_ri
    (lay_fcons (off := 2) (n := 1) rfl (by kernel_rfl) (lay_int (by kernel_rfl)) stable_ri
    (lay_fcons (off := 3) (n := 1) rfl (by kernel_rfl) (lay_int (by kernel_rfl)) stable_ri
    (lay_fcons (off := 4) (n := 1) rfl (by kernel_rfl) (lay_int (by kernel_rfl)) stable_ri
    (lay_fcons (off := 5) (n := 1) rfl (by kernel_rfl) (lay_int (by kernel_rfl)) stable_ri
    (lay_fcons (off := 6) (n := 1) rfl (by kernel_rfl) (lay_int (by kernel_rfl)) stable_ri
    (lay_fcons (off := 7) (n := 1) rfl (by kernel_rfl) (lay_int (by kernel_rfl)) stable_ri
    (lay_fcons (off := 8) (n := 1) rfl (by kernel_rfl) (lay_int (by kernel_rfl)) stable_ri
    (lay_fcons (off := 9) (n := 10) rfl (by kernel_rfl) lay_agg stable_rag
    (lay_fcons (off := 19) (n := 1) rfl (by kernel_rfl) (lay_slice (e := T_api_Value) (by kernel_rfl) (by kernel_rfl) (by omega) (by kernel_rfl) lay_val stable_re re_len) (stable_slice stable_re) lay_fnil)))))))))))
end
def fi (l : List Int) (i : Nat) : Int := l.getD i 0
def fb (l : List Bool) (i : Nat) : Bool := l.getD i false
theorem fi_i64 {l : List Int} (h : ∀ x ∈ l, I64 x) (i : Nat) : I64 (fi l i) := by
  unfold fi
  rw [List.getD_eq_getElem?_getD]
  by_cases hi : i < l.length
  · rw [List.getElem?_eq_getElem hi]; exact h _ (List.getElem_mem hi)
  · rw [List.getElem?_eq_none (by omega)]; unfold I64; simp
theorem pairs_in {H : AH} (ok : Ok H) {a : Option Addr} {l : Nat} {xs : List (Int × Int × Unit)} (h : Sl (fun _ => True) H 2 (PCs RE) a l xs) : SlE (fun b => b < H.next) H a l (xs.map toE) ∧ ∀ e ∈ xs.map toE, PairI e := by
  have edge : ∀ b o x, PCs RE H b o x → PEdge H b o (toE x) ∧ PairI (toE x) := by
    rintro b o x ⟨cs, hc, c1, c2, rfl, ⟨rfl, w1⟩, c3, c4, rfl, ⟨rfl, w2⟩, rfl⟩
    exact ⟨⟨by simpa [toE] using hc 0 _ rfl, by simpa [toE] using hc 1 _ rfl⟩, i64_wf w1, i64_wf w2⟩
  refine ⟨Sl.into h (fun b o x hx => lt_of_cell ok (edge b o x hx).1.1) (fun b o x _ hx => (edge b o x hx).1), fun e he => ?_⟩
  obtain ⟨y, hy, rfl⟩ := List.mem_map.1 he
  obtain ⟨i, hi, rfl⟩ := List.getElem_of_mem hy
  exact (edge _ _ _ (h.cells i hi)).2
theorem rep_in {H : AH} (ok : Ok H) {cs : List Value} {x} (h : RRep H cs x) : ∃ f ha v a l c vs, cs = repC f ha v a l c ∧ (∀ i, I64 (v i)) ∧ SlE (fun b => b < H.next) H a l vs ∧ (∀ e ∈ vs, PairI e) ∧ Room l c ∧ (∀ i, I64 (f i)) ∧ vs.length * 16 ≤ 140737488351232 := by
  obtain ⟨d1, e1, rfl, ⟨rfl, w1⟩, d2, e2, rfl, ⟨rfl, w2⟩, d3, e3, rfl, ⟨rfl, w3⟩, d4, e4, rfl, ⟨rfl, w4⟩, d5, e5, rfl, ⟨rfl, w5⟩, d6, e6, rfl, ⟨rfl, w6⟩, d7, e7, rfl, ⟨rfl, w7⟩, d8, e8, rfl, ⟨rfl, w8⟩, d9, e9, rfl, ⟨rfl, w9⟩, d10, e10, rfl, ⟨s1, s2, rfl, ⟨q1, r1, rfl, rfl, q2, r2, rfl, rfl, q3, r3, rfl, rfl, q4, r4, rfl, rfl, q5, r5, rfl, rfl, rfl⟩, s3, s4, rfl, ⟨q1, r1, rfl, ⟨rfl, u1⟩, q2, r2, rfl, ⟨rfl, u2⟩, q3, r3, rfl, ⟨rfl, u3⟩, q4, r4, rfl, ⟨rfl, u4⟩, q5, r5, rfl, ⟨rfl, u5⟩, rfl⟩, rfl⟩, d11, e11, rfl, ⟨a, l, c, rfl, hV, hb, hr⟩, rfl⟩ := h
  obtain ⟨k1, k2⟩ := pairs_in ok hV
  refine ⟨fi [x.1, x.2.1, x.2.2.1, x.2.2.2.1, x.2.2.2.2.1, x.2.2.2.2.2.1, x.2.2.2.2.2.2.1, x.2.2.2.2.2.2.2.1, x.2.2.2.2.2.2.2.2.1], fb [x.2.2.2.2.2.2.2.2.2.1.1.1, x.2.2.2.2.2.2.2.2.2.1.1.2.1, x.2.2.2.2.2.2.2.2.2.1.1.2.2.1, x.2.2.2.2.2.2.2.2.2.1.1.2.2.2.1, x.2.2.2.2.2.2.2.2.2.1.1.2.2.2.2.1],
    fi [x.2.2.2.2.2.2.2.2.2.1.2.1.1, x.2.2.2.2.2.2.2.2.2.1.2.1.2.1, x.2.2.2.2.2.2.2.2.2.1.2.1.2.2.1, x.2.2.2.2.2.2.2.2.2.1.2.1.2.2.2.1, x.2.2.2.2.2.2.2.2.2.1.2.1.2.2.2.2.1], a, l, c, _, rfl, fi_i64 ?_, k1, k2, hr, fi_i64 ?_, by rw [List.length_map]; exact hb⟩
  · intro y hy
    simp only [List.mem_cons, List.not_mem_nil, or_false] at hy
    rcases hy with rfl | rfl | rfl | rfl | rfl
    · exact i64_wf u1
    · exact i64_wf u2
    · exact i64_wf u3
    · exact i64_wf u4
    · exact i64_wf u5
  · intro y hy
    simp only [List.mem_cons, List.not_mem_nil, or_false] at hy
    rcases hy with rfl | rfl | rfl | rfl | rfl | rfl | rfl | rfl | rfl
    · exact i64_wf w1
    · exact i64_wf w2
    · exact i64_wf w3
    · exact i64_wf w4
    · exact i64_wf w5
    · exact i64_wf w6
    · exact i64_wf w7
    · exact i64_wf w8
    · exact i64_wf w9
/-- jobs that come in -/
theorem job_in {H : AH} (ok : Ok H) {cs : List Value} {x} (hJ : RJ H cs x) : ∃ j a l c pa pl pc, cs = jC j a l c pa pl pc ∧ SlV (fun b => b < H.next) H a l j.graph ∧ Fit j.graph ∧ Room l c ∧ SlI (fun b => b < H.next) H pa pl j.params ∧ Room pl pc ∧ JobX j ∧ j.prog.length ≤ 140737488351232 ∧ I64 j.steps ∧ I64 j.sent ∧ I64 j.parts := by
  obtain ⟨c1, c2, rfl, ⟨rfl, hp⟩, c3, c4, rfl, ⟨c5, c6, rfl, ⟨a, l, c, rfl, hG, hb, hr⟩, rfl⟩, c7, c8, rfl, ⟨pa, pl, pc, rfl, hP, hb2, hr2⟩, c9, c10, rfl, ⟨rfl, w1⟩, c11, c12, rfl, ⟨rfl, w2⟩, c13, c14, rfl, ⟨rfl, w3⟩, rfl⟩ := hJ
  obtain ⟨h1, h2, h3⟩ := graph_inj ok hG hb
  obtain ⟨h4, h5⟩ := ints_in ok hP
  exact ⟨⟨x.1, x.2.1.1.map toV, x.2.2.1, x.2.2.2.1, x.2.2.2.2.1, x.2.2.2.2.2.1⟩, a, l, c, pa, pl, pc, rfl, h1, h2, hr, h4, hr2, ⟨h3, h5⟩, hp, i64_wf w1, i64_wf w2, i64_wf w3⟩
end Go.Proofs.Cx

namespace Go.Ev
open Go

/-- a map with these keys, each with its value -/
def MapV (H : AH) (r : Nat) (zs : List Int) (val : Int → Value) : Prop := ∃ es clock, H.get r = some (.map es clock) ∧ Ents es clock zs ∧ ∀ e ∈ es, ∀ x, e.key = iv x → e.val = val x
theorem MapV.mod {S : Nat → Prop} {H H' : AH} {r : Nat} {zs : List Int} {val : Int → Value} (h : MapV H r zs val) (hm : Mod S H H') (hs : ¬ S r) : MapV H' r zs val := by
  obtain ⟨es, clock, h1, h2⟩ := h
  exact ⟨es, clock, hm.get _ _ hs h1, h2⟩
theorem MapV.empty {H : AH} {r c : Nat} {val : Int → Value} (h : H.get r = some (.map [] c)) : MapV H r [] val :=
  ⟨[], c, h, ⟨rfl, fun _ h => (by cases h), List.nodup_nil, List.nodup_nil, fun _ h => (by cases h), by simp⟩, fun _ h => (by cases h)⟩
theorem MapV.nodup {H : AH} {r : Nat} {zs : List Int} {val : Int → Value} (h : MapV H r zs val) : zs.Nodup := by obtain ⟨_, _, _, h, _⟩ := h; exact h.nodup
theorem MapV.wf {H : AH} {r : Nat} {zs : List Int} {val : Int → Value} (h : MapV H r zs val) : ∀ x ∈ zs, I64 x := by obtain ⟨_, _, _, h, _⟩ := h; exact h.wf
theorem MapV.congr {H : AH} {r : Nat} {zs : List Int} {val val' : Int → Value} (h : MapV H r zs val) (k : ∀ x ∈ zs, val x = val' x) : MapV H r zs val' := by
  obtain ⟨es, clock, h1, h2, h3⟩ := h
  refine ⟨es, clock, h1, h2, fun e he x hx => ?_⟩
  rw [h3 e he x hx]
  refine k x ?_
  have := List.mem_map_of_mem (f := (·.key)) he
  rw [mkeys_at h2.keys, hx] at this
  obtain ⟨y, hy, e2⟩ := List.mem_map.1 this
  have : y = x := by simpa [iv] using e2
  rw [← this]; exact hy
theorem MapV.lt {H : AH} {r : Nat} {zs : List Int} {val : Int → Value} (ok : Ok H) (h : MapV H r zs val) : r < H.next := by obtain ⟨_, _, h, _⟩ := h; exact ok.lt h

def lookX (E : Env) (kt : TypeId) (H : AH) (m : Value) (c : Int) (z : Value) (ok : Bool) : Option Value :=
  match entriesOf H m with
  | none => none
  | some es => match findv E kt (.int .i64 c) es 0 with
    | some (some (_, v)) => some (bif ok then .tuple #[v, .bool true] else v)
    | some none => some (bif ok then .tuple #[z, .bool false] else z)
    | none => none
def updX (E : Env) (kt : TypeId) (H : AH) (r : Nat) (c : Int) (v : Value) : Option AH := match H.get r with
  | some (.map es clock) => match findv E kt (.int .i64 c) es 0 with
    | some (some (n, _)) => match es[n]? with
      | some e => bif samek e.key (.int .i64 c) then some (H.set r (.map (setEntry (.int .i64 c) v es n) clock)) else none
      | none => none
    | some none => some (H.set r (.map (es ++ [{ key := .int .i64 c, val := v, born := clock }]) (clock + 1)))
    | none => none
  | _ => none
section
variable {E : Env} {kt : TypeId} (hE : ∀ a b : Int, eqv E eqDepth kt (.int .i64 a) (.int .i64 b) = some (a == b))
include hE
theorem fv_in {c : Int} : ∀ {es : List MapEntry} {ks : List Int} {i : Nat}, es.map (·.key) = ks.map iv → c ∈ ks → ∃ n, ∃ h : n < es.length, findv E kt (.int .i64 c) es i = some (some (i + n, es[n].val)) ∧ es[n].key = iv c
  | [], [], _, _, h => by simp at h
  | [], _ :: _, _, h, _ => by simp at h
  | _ :: _, [], _, h, _ => by simp at h
  | e :: es, x :: ks, i, h, hc => by
    simp only [List.map_cons, List.cons.injEq] at h
    unfold findv
    rw [h.1, show eqv E eqDepth kt (.int .i64 c) (iv x) = some (c == x) from hE c x]
    by_cases e1 : c = x
    · subst e1
      exact ⟨0, by simp, by rw [beq_self_eq_true]; simp, h.1⟩
    · rw [show (c == x) = false from by simpa using e1]
      obtain ⟨n, hn, h1, h2⟩ := fv_in (i := i + 1) h.2 (by simpa [e1] using hc)
      exact ⟨n + 1, by simpa using hn, by simp only [h1, List.getElem_cons_succ, show i + 1 + n = i + (n + 1) from by omega], by simpa using h2⟩
theorem fv_out {c : Int} : ∀ {es : List MapEntry} {ks : List Int} {i : Nat}, es.map (·.key) = ks.map iv → c ∉ ks → findv E kt (.int .i64 c) es i = some none
  | [], _, _, _, _ => rfl
  | _ :: _, [], _, h, _ => by simp at h
  | e :: es, x :: ks, i, h, hc => by
    simp only [List.map_cons, List.cons.injEq] at h
    unfold findv
    rw [h.1, show eqv E eqDepth kt (.int .i64 c) (iv x) = some (c == x) from hE c x]
    have e1 : c ≠ x := fun e => hc (e ▸ List.mem_cons_self)
    rw [show (c == x) = false from by simpa using e1]
    exact fv_out h.2 fun h2 => hc (List.mem_cons_of_mem _ h2)
theorem MapV.look {H : AH} {r : Nat} {zs : List Int} {val : Int → Value} (h : MapV H r zs val) (c : Int) (z : Value) (ok : Bool) :
    lookX E kt H (.map (some r)) c z ok = some (bif ok then .tuple #[if c ∈ zs then val c else z, .bool (decide (c ∈ zs))] else if c ∈ zs then val c else z) := by
  obtain ⟨es, clock, h1, h2, h3⟩ := h
  have hk := mkeys_at h2.keys
  unfold lookX
  simp only [entriesOf, h1]
  by_cases hc : c ∈ zs
  · obtain ⟨n, hn, h4, h5⟩ := fv_in hE (i := 0) hk hc
    rw [h4]
    simp only [h3 _ (List.getElem_mem hn) c h5, hc, if_true, decide_true]
  · rw [fv_out hE hk hc]
    simp only [hc, if_false, decide_false]
theorem MapV.put {H : AH} {r : Nat} {zs : List Int} {val : Int → Value} (ok : Ok H) (h : MapV H r zs val) {c : Int} (hc64 : I64 c) (hl : zs.length < 1000000) (v : Value) :
    ∃ zs' H', updX E kt H r c v = some H' ∧ MapV H' r zs' (fun x => if x = c then v else val x) ∧ (∀ x, x ∈ zs' ↔ x ∈ zs ∨ x = c) ∧ (zs' = zs ∨ zs' = zs ++ [c]) ∧ Mod (· = r) H H' ∧ H'.next = H.next := by
  obtain ⟨es, clock, h1, h2, h3⟩ := h
  have hk := mkeys_at h2.keys
  unfold updX
  simp only [h1]
  by_cases hc : c ∈ zs
  · obtain ⟨n, hn, h4, h5⟩ := fv_in hE (i := 0) hk hc
    rw [Nat.zero_add] at h4
    have hs : samek (iv c) (.int .i64 c) = true := by simp [samek, samebv, iv]
    have keyS : ∀ (es : List MapEntry) (n : Nat) (ks : List Int), es.map (·.key) = ks.map iv → (∀ h : n < es.length, es[n].key = iv c) → (setEntry (.int .i64 c) v es n).map (·.key) = ks.map iv := by
      intro es
      induction es with
      | nil => intro n ks h _; simpa [setEntry] using h
      | cons e es ih =>
        intro n ks h hk
        cases n with
        | zero =>
          rw [← h]
          have := hk (by simp)
          simp only [List.getElem_cons_zero] at this
          simp only [setEntry, List.map_cons, this]; rfl
        | succ n =>
          cases ks with
          | nil => simp at h
          | cons x ks =>
            simp only [List.map_cons, List.cons.injEq] at h
            simp only [setEntry, List.map_cons, List.cons.injEq]
            exact ⟨h.1, ih n ks h.2 fun hn => by have := hk (by simpa using hn); simpa using this⟩
    have bornS : ∀ (es : List MapEntry) (n : Nat), (setEntry (.int .i64 c) v es n).map (·.born) = es.map (·.born) := by
      intro es
      induction es with
      | nil => intro n; rfl
      | cons e es ih =>
        intro n
        cases n with
        | zero => rfl
        | succ n => simp only [setEntry, List.map_cons, ih n]
    have memS : ∀ (es : List MapEntry) (n : Nat) (e : MapEntry), e ∈ setEntry (.int .i64 c) v es n → (e.key = .int .i64 c ∧ e.val = v) ∨ e ∈ es := by
      intro es
      induction es with
      | nil => intro n e h; simp [setEntry] at h
      | cons x es ih =>
        intro n e h
        cases n with
        | zero =>
          rcases List.mem_cons.1 h with rfl | h
          · exact .inl ⟨rfl, rfl⟩
          · exact .inr (List.mem_cons_of_mem _ h)
        | succ n =>
          rcases List.mem_cons.1 h with rfl | h
          · exact .inr List.mem_cons_self
          · rcases ih n e h with h | h
            · exact .inl h
            · exact .inr (List.mem_cons_of_mem _ h)
    simp only [h4, List.getElem?_eq_getElem hn, h5, hs, cond_true]
    refine ⟨zs, _, rfl, ⟨_, _, get_set_self _ _ _, ⟨mkeys_mk (keyS es n zs hk fun _ => h5), ?_, by rw [bornS]; exact h2.once, h2.nodup, h2.wf, h2.room⟩, ?_⟩, fun x => ⟨.inl, fun h => h.elim id fun e => e ▸ hc⟩, .inl rfl, Mod.set ok h1 _, rfl⟩
    · intro e he
      have : e.born ∈ (setEntry (.int .i64 c) v es n).map (·.born) := List.mem_map_of_mem he
      rw [bornS] at this
      obtain ⟨y, hy, e2⟩ := List.mem_map.1 this
      rw [← e2]; exact h2.born y hy
    · intro e he x hx
      show e.val = if x = c then v else val x
      by_cases hxc : x = c
      · rw [if_pos hxc]
        -- an entry with the key c is the one that was set
        rcases memS es n e he with ⟨_, h⟩ | h
        · exact h
        · have key2 : ∀ (es : List MapEntry) (n : Nat) (ks : List Int), es.map (·.key) = ks.map iv → ks.Nodup → (∀ h : n < es.length, es[n].key = iv c) → n < es.length → ∀ e ∈ setEntry (.int .i64 c) v es n, e.key = iv c → e.val = v := by
            intro es
            induction es with
            | nil => intro n ks _ _ _ h; simp at h
            | cons y es ih =>
              intro n ks hks hnd hkn hn e he hek
              cases ks with
              | nil => simp at hks
              | cons k ks =>
                simp only [List.map_cons, List.cons.injEq] at hks
                have hnd' := List.nodup_cons.1 hnd
                cases n with
                | zero =>
                  rcases List.mem_cons.1 he with rfl | h
                  · rfl
                  · exfalso
                    have h0 := hkn (by simp)
                    simp only [List.getElem_cons_zero] at h0
                    rw [hks.1] at h0
                    have hkc : k = c := by simpa [iv] using h0
                    have : e.key ∈ es.map (·.key) := List.mem_map_of_mem h
                    rw [hks.2, hek] at this
                    obtain ⟨z, hz, e2⟩ := List.mem_map.1 this
                    have : z = c := by simpa [iv] using e2
                    exact hnd'.1 (by rw [hkc, ← this]; exact hz)
                | succ n =>
                  rcases List.mem_cons.1 he with rfl | h
                  · exfalso
                    rw [hks.1] at hek
                    have hkc : k = c := by simpa [iv] using hek
                    have h0 := hkn (by simpa using hn)
                    simp only [List.getElem_cons_succ] at h0
                    have hn' : n < es.length := by simpa using hn
                    have : es[n].key ∈ es.map (·.key) := List.mem_map_of_mem (List.getElem_mem hn')
                    rw [hks.2, h0] at this
                    obtain ⟨z, hz, e2⟩ := List.mem_map.1 this
                    have : z = c := by simpa [iv] using e2
                    exact hnd'.1 (by rw [hkc, ← this]; exact hz)
                  · exact ih n ks hks.2 hnd'.2 (fun hn => by have := hkn (by simpa using hn); simpa using this) (by simpa using hn) e h hek
          exact key2 es n zs hk h2.nodup (fun _ => h5) hn e he (by rw [hx, hxc])
      · rw [if_neg hxc]
        rcases memS es n e he with ⟨h, _⟩ | h
        · rw [h] at hx; exact (hxc (by simpa [iv] using hx.symm)).elim
        · exact h3 e h x hx
  · simp only [fv_out hE hk hc]
    refine ⟨zs ++ [c], _, rfl, ⟨_, _, get_set_self _ _ _, ⟨mkeys_mk (by simp [hk, iv]), ?_, ?_, ?_, ?_, ?_⟩, ?_⟩, fun x => by simp, .inr rfl, Mod.set ok h1 _, rfl⟩
    · intro e he
      rcases List.mem_append.1 he with h | h
      · have := h2.born e h; omega
      · have : e = { key := .int .i64 c, val := v, born := clock } := by simpa using h
        rw [this]; exact Nat.lt_succ_self _
    · rw [List.map_append]
      refine List.nodup_append.2 ⟨h2.once, by simp, fun a ha b hb e => ?_⟩
      obtain ⟨y, hy, rfl⟩ := List.mem_map.1 ha
      have : b = clock := by simpa using hb
      have := h2.born y hy
      omega
    · refine List.nodup_append.2 ⟨h2.nodup, by simp, fun a ha b hb e => ?_⟩
      have : b = c := by simpa using hb
      exact hc (by rw [← this, ← e]; exact ha)
    · intro x hx
      rcases List.mem_append.1 hx with h | h
      · exact h2.wf x h
      · have : x = c := by simpa using h
        rw [this]; exact hc64
    · rw [List.length_append, List.length_singleton]; omega
    · intro e he x hx
      show e.val = if x = c then v else val x
      rcases List.mem_append.1 he with h | h
      · have hxz : x ∈ zs := by
          have := List.mem_map_of_mem (f := (·.key)) h
          rw [hk, hx] at this
          obtain ⟨y, hy, e2⟩ := List.mem_map.1 this
          have : y = x := by simpa [iv] using e2
          rw [← this]; exact hy
        rw [if_neg (fun e2 => hc (by rw [← e2]; exact hxz))]
        exact h3 e h x hx
      · have he2 : e = { key := .int .i64 c, val := v, born := clock } := by simpa using h
        rw [he2] at hx ⊢
        rw [if_pos (by simpa [iv] using hx.symm)]
end
theorem MapV.len {H : AH} {r : Nat} {zs : List Int} {val : Int → Value} (h : MapV H r zs val) : ∃ es clock, H.get r = some (.map es clock) ∧ es.length = zs.length := by
  obtain ⟨es, clock, h1, h2, _⟩ := h
  exact ⟨es, clock, h1, mkeys_len h2.keys⟩
end Go.Ev

namespace Go.Ev
open Go
/-- how many of the first numbers are there -/
def cntB (p : Nat → Bool) : Nat → Nat
  | 0 => 0
  | n + 1 => cntB p n + (if p n then 1 else 0)
theorem cntB_le (p : Nat → Bool) : ∀ n, cntB p n ≤ n
  | 0 => Nat.le_refl _
  | n + 1 => by have := cntB_le p n; unfold cntB; split <;> omega
theorem cntB_congr {p q : Nat → Bool} : ∀ {n : Nat}, (∀ i, i < n → p i = q i) → cntB p n = cntB q n
  | 0, _ => rfl
  | n + 1, h => by unfold cntB; rw [cntB_congr fun i hi => h i (by omega), h n (by omega)]
theorem cnt_nodup : ∀ (n : Nat) (zs : List Int), zs.Nodup → (∀ x ∈ zs, 0 ≤ x ∧ x < n) → zs.length = cntB (fun i => decide ((i : Int) ∈ zs)) n
  | 0, zs, _, h => by
    cases zs with
    | nil => rfl
    | cons x zs => have := h x List.mem_cons_self; omega
  | n + 1, zs, hn, h => by
    unfold cntB
    by_cases hm : (n : Int) ∈ zs
    · have h1 := cnt_nodup n (zs.erase n) (hn.erase _) fun x hx => by
        have h2 := (hn.mem_erase_iff).1 hx
        have h3 := h x h2.2
        have := h2.1
        omega
      have h2 := List.length_erase_of_mem hm
      have hpos : 0 < zs.length := List.length_pos_of_mem hm
      have h3 : cntB (fun i => decide ((i : Int) ∈ zs.erase n)) n = cntB (fun i => decide ((i : Int) ∈ zs)) n := cntB_congr fun i hi => by
        refine decide_eq_decide.2 ?_
        rw [hn.mem_erase_iff]
        exact ⟨fun h => h.2, fun h => ⟨by omega, h⟩⟩
      rw [h3] at h1
      simp only [hm, decide_true, if_true]
      omega
    · have h1 := cnt_nodup n zs hn fun x hx => by
        have h3 := h x hx
        have : x ≠ n := fun e => hm (e ▸ hx)
        omega
      simp only [hm, decide_false]
      simpa using h1
/-- a map of lives: of each worker its life, none of those that are not there -/
def LV (H : AH) (r : Nat) (g : Int → Int) : Prop := ∃ (zs : List Int) (f : Int → Int), MapV H r zs (fun x => .int .i64 (f x)) ∧ (∀ x ∈ zs, 0 ≤ x ∧ x < 64 ∧ 0 < f x) ∧ ∀ x, g x = if x ∈ zs then f x else 0
theorem LV.mod {S : Nat → Prop} {H H' : AH} {r : Nat} {g : Int → Int} (h : LV H r g) (hm : Mod S H H') (hs : ¬ S r) : LV H' r g := by
  obtain ⟨zs, f, h1, h2⟩ := h
  exact ⟨zs, f, h1.mod hm hs, h2⟩
theorem LV.empty {H : AH} {r c : Nat} (h : H.get r = some (.map [] c)) : LV H r fun _ => 0 := ⟨[], fun _ => 0, .empty h, fun _ h => (by cases h), fun _ => rfl⟩
theorem LV.out {H : AH} {r : Nat} {g : Int → Int} (h : LV H r g) {x : Int} (hx : ¬ (0 ≤ x ∧ x < 64)) : g x = 0 := by
  obtain ⟨zs, f, _, h2, h3⟩ := h
  rw [h3, if_neg]
  intro hm
  have := h2 x hm
  exact hx ⟨this.1, this.2.1⟩
theorem zs_small {zs : List Int} (h1 : zs.Nodup) (h2 : ∀ x ∈ zs, 0 ≤ x ∧ x < 64) : zs.length ≤ 64 := by
  rw [cnt_nodup 64 zs h1 (fun x hx => by have := h2 x hx; omega)]
  exact cntB_le _ _
theorem LV.count {H : AH} {r : Nat} {g : Int → Int} (h : LV H r g) : ∃ (zs : List Int) (f : Int → Int), MapV H r zs (fun x => .int .i64 (f x)) ∧ zs.length = cntB (fun i => decide (0 < g (i : Int))) 64 := by
  obtain ⟨zs, f, h1, h2, h3⟩ := h
  refine ⟨zs, f, h1, ?_⟩
  rw [cnt_nodup 64 zs h1.nodup fun x hx => by have := h2 x hx; omega]
  refine cntB_congr fun i _ => decide_eq_decide.2 ?_
  rw [h3]
  constructor
  · intro hm; rw [if_pos hm]; exact (h2 _ hm).2.2
  · intro hp
    by_cases hm : (i : Int) ∈ zs
    · exact hm
    · rw [if_neg hm] at hp; omega
end Go.Ev
namespace Go.Proofs.Cx
open Go Go.Ev
set_option maxRecDepth 100000 in
theorem eqv_I {a b : Int} : eqv Ee eqDepth T_int (.int .i64 a) (.int .i64 b) = some (a == b) := by kernel_rfl
set_option maxRecDepth 100000 in
theorem look_ii {H : AH} {m : Value} {c : Int} {ok : Bool} : lookupv Ee H T_M_int_int m (.int .i64 c) ok = lookX Ee T_int H m c (.int .i64 0) ok := by kernel_rfl
set_option maxRecDepth 100000 in
theorem upd_ii {H : AH} {r : Nat} {c : Int} {v : Value} : updatev Ee H T_M_int_int (.map (some r)) (.int .i64 c) v = updX Ee T_int H r c v := by kernel_rfl
theorem LV.look {H : AH} {r : Nat} {g : Int → Int} (h : LV H r g) (c : Int) : lookupv Ee H T_M_int_int (.map (some r)) (.int .i64 c) false = some (.int .i64 (g c)) ∧
    lookupv Ee H T_M_int_int (.map (some r)) (.int .i64 c) true = some (.tuple ⟨[.int .i64 (g c), .bool (decide (0 < g c))]⟩) := by
  obtain ⟨zs, f, h1, h2, h3⟩ := h
  rw [look_ii, look_ii, h1.look (fun _ _ => eqv_I), h1.look (fun _ _ => eqv_I), h3]
  by_cases hc : c ∈ zs
  · have := (h2 c hc).2.2
    simp [hc, this]
  · simp [hc]
theorem LV.put {H : AH} {r : Nat} {g : Int → Int} (ok : Ok H) (h : LV H r g) {k n : Int} (hk : 0 ≤ k ∧ k < 64) (hn : 0 < n) :
    ∃ H', updatev Ee H T_M_int_int (.map (some r)) (.int .i64 k) (.int .i64 n) = some H' ∧ LV H' r (fun x => if x = k then n else g x) ∧ Mod (· = r) H H' := by
  obtain ⟨zs, f, h1, h2, h3⟩ := h
  have hl := zs_small h1.nodup fun x hx => ⟨(h2 x hx).1, (h2 x hx).2.1⟩
  obtain ⟨zs', H', k1, k2, k3, _, k4, _⟩ := h1.put (fun _ _ => eqv_I) ok (c := k) (by unfold I64; omega) (by omega) (.int .i64 n)
  refine ⟨H', by rw [upd_ii]; exact k1, ⟨zs', fun x => if x = k then n else f x, k2.congr fun x _ => ?_, fun x hx => ?_, fun x => ?_⟩, k4⟩
  · by_cases e : x = k
    · simp [e]
    · simp [e]
  · rcases (k3 x).1 hx with h | h
    · obtain ⟨a, b, c⟩ := h2 x h
      refine ⟨a, b, ?_⟩
      show 0 < if x = k then n else f x
      by_cases e : x = k
      · rw [if_pos e]; exact hn
      · rw [if_neg e]; exact c
    · subst h; simp only [if_true]; omega
  · by_cases e : x = k
    · have : x ∈ zs' := (k3 x).2 (.inr e)
      simp [e] at this ⊢
      simp [this]
    · have : x ∈ zs' ↔ x ∈ zs := ⟨fun h => ((k3 x).1 h).elim id fun h => (e h).elim, fun h => (k3 x).2 (.inl h)⟩
      simp [e, this, h3]
/-! sorted keys -/
set_option maxRecDepth 100000 in
theorem sorted_eq {args : List Value} {H : AH} : (evalN Ee 1).call F_slices_Sorted_int args H = keysW [F_maps_Keys_map_int_int_int_int_1, F_maps_Keys_map_int_P_master_job_int_P_master_job_1, F_maps_Keys_map_int_api_Report_int_api_Report_1] args H := by kernel_rfl
theorem sorted_ok {H : AH} {B m g : Nat} {zs : List Int} {val : Int → Value} (ok : Ok H) (hg : g ∈ [F_maps_Keys_map_int_int_int_int_1, F_maps_Keys_map_int_P_master_job_int_P_master_job_1, F_maps_Keys_map_int_api_Report_int_api_Report_1])
    (hB : H.get B = some (.cells [.map (some m)] 0)) (hm : MapV H m zs val) :
    FW Ee F_slices_Sorted_int [.func (.func g) ⟨[]⟩ ⟨[.pointer (some ⟨B, 0, none⟩)]⟩] H fun r H' => ∃ a c, r = .slice a zs.length c ∧ Own H' 1 a zs.length c ((sortI zs).map iv) ∧ (∀ x, a = some x → H.next ≤ x.block) ∧ Grow H H' ∧ H'.next ≤ H.next + 1 := by
  obtain ⟨es, clock, h1, h2, _⟩ := hm
  have hc : List.contains [F_maps_Keys_map_int_int_int_int_1, F_maps_Keys_map_int_P_master_job_int_P_master_job_1, F_maps_Keys_map_int_api_Report_int_api_Report_1] g = true := List.contains_iff_mem.2 hg
  by_cases hz : zs = []
  · refine ⟨1, .slice none 0 0, H, ?_, none, 0, by rw [hz]; rfl, ?_, fun x e => (by cases e), .refl ok, by omega⟩
    · rw [sorted_eq]
      simp only [keysW, hc, cond_true, hB, h1, h2.keys, if_pos h2, if_pos hz]
    · have e : (sortI []).map iv = [] := by simp [sortI]
      rw [hz, e]; exact Own.nil _ _
  · refine ⟨1, .slice (some ⟨H.next, 0, none⟩) zs.length (2 * zs.length + 1), H.new (.cells ((sortI zs).map iv) 1), ?_, _, _, rfl, ?_, fun x e => (by cases e; exact Nat.le_refl _), Grow.new ok _, Nat.le_refl _⟩
    · rw [sorted_eq]
      simp only [keysW, hc, cond_true, hB, h1, h2.keys, if_pos h2, if_neg hz]
    · have hl : (sortI zs).length = zs.length := List.length_mergeSort _
      exact ⟨by simp [hl], by simp [iv, oneCell], .inr (.inr ⟨H.next, rfl, rfl, get_new_self _ _⟩)⟩

/-! the master -/
structure M0 (H : AH) (mb wb : Nat) (g : Int → Int) : Prop where
  row : ∃ sp jb la ep, H.get mb = some (.cells [.pointer sp, .map (some jb), .map (some wb), .int .i64 la, .int .i64 ep] 0) ∧ H.get jb = some (.map [] 0) ∧ jb ≠ wb
  ne : mb ≠ wb
  lives : LV H wb g
theorem M0.grow {H H' : AH} {mb wb : Nat} {g : Int → Int} (h : M0 H mb wb g) (k : Grow H H') : M0 H' mb wb g := by
  obtain ⟨⟨sp, jb, la, ep, h1, h2, h3⟩, h4, h5⟩ := h
  exact ⟨⟨sp, jb, la, ep, k.get _ _ id h1, k.get _ _ id h2, h3⟩, h4, h5.mod k id⟩
section
variable {H : AH} {mb wb : Nat} {g : Int → Int}
theorem keys_ok {m : Option Nat} (ok : Ok H) : FW Ee F_maps_Keys_map_int_int_int_int [.map m] H fun r H' => r = .func (.func F_maps_Keys_map_int_int_int_int_1) ⟨[]⟩ ⟨[.pointer (some ⟨H.next, 0, none⟩)]⟩ ∧ H'.get H.next = some (.cells [.map m] 0) ∧ Grow H H' := by
  refine fw_maps_Keys_map_int_int_int_int ?_
  intro H1 e1
  exact ⟨rfl, e1 ▸ get_new_self _ _, e1 ▸ Grow.new ok _⟩
theorem keysj_ok {m : Option Nat} (ok : Ok H) : FW Ee F_maps_Keys_map_int_P_master_job_int_P_master_job [.map m] H fun r H' => r = .func (.func F_maps_Keys_map_int_P_master_job_int_P_master_job_1) ⟨[]⟩ ⟨[.pointer (some ⟨H.next, 0, none⟩)]⟩ ∧ H'.get H.next = some (.cells [.map m] 0) ∧ Grow H H' := by
  refine fw_maps_Keys_map_int_P_master_job_int_P_master_job ?_
  intro H1 e1
  exact ⟨rfl, e1 ▸ get_new_self _ _, e1 ▸ Grow.new ok _⟩
end
end Go.Proofs.Cx

namespace Go.Ev
open Go
def cmdV (kd se sq : Int) (s : List UInt8) (id wk li : Int) (f : Nat → Int) (h : Nat → Bool) (v : Nat → Int) (a : Option Addr) (l c : Nat) : List Value :=
  [.int .i64 kd, .int .i64 se, .int .i64 sq, .string ⟨⟨s⟩⟩, .int .i64 id, .int .i64 wk, .int .i64 li] ++ repC f h v a l c
/-- a master that is new: its blocks -/
structure FM (H : AH) (n0 : Nat) : Prop where
  t : H.get n0 = some (.map [] 0)
  s : H.get (n0 + 1) = some (.cells [.map (some n0)] 0)
  j : H.get (n0 + 2) = some (.map [] 0)
  w : H.get (n0 + 3) = some (.map [] 0)
  m : H.get (n0 + 4) = some (.cells [.pointer (some ⟨n0 + 1, 0, none⟩), .map (some (n0 + 2)), .map (some (n0 + 3)), .int .i64 0, .int .i64 0] 0)
theorem FM.grow {H H' : AH} {n0 : Nat} (h : FM H n0) (g : Grow H H') : FM H' n0 := ⟨g.get _ _ id h.t, g.get _ _ id h.s, g.get _ _ id h.j, g.get _ _ id h.w, g.get _ _ id h.m⟩
/-- a master of whose jobs none runs -/
def NRun (H : AH) (n0 L : Nat) : Prop := ∃ sp wb la ep zs val, H.get (n0 + 4) = some (.cells [.pointer sp, .map (some (n0 + 2)), .map (some wb), .int .i64 la, .int .i64 ep] 0) ∧
  MapV H (n0 + 2) zs val ∧ zs.length ≤ 1 ∧ ∀ x ∈ zs, ∃ pb s, val x = .pointer (some ⟨pb, 0, none⟩) ∧ H.cell pb 7 = some (.int .i64 s) ∧ s ≠ 2 ∧ L ≤ pb
theorem NRun.mod {S : Nat → Prop} {H H' : AH} {n0 L : Nat} (h : NRun H n0 L) (m : Mod S H H') (h1 : ¬ S (n0 + 4)) (h2 : ¬ S (n0 + 2)) (h3 : ∀ x, L ≤ x → ¬ S x) : NRun H' n0 L := by
  obtain ⟨sp, wb, la, ep, zs, val, k1, k2, k3, k4⟩ := h
  refine ⟨sp, wb, la, ep, zs, val, m.get _ _ h1 k1, k2.mod m h2, k3, fun x hx => ?_⟩
  obtain ⟨pb, s, p1, p2, p3, p4⟩ := k4 x hx
  exact ⟨pb, s, p1, loc_cell (F := (· = pb)) (fun b o hb e => m.get _ _ (by rw [hb]; exact h3 _ p4) e) rfl p2, p3, p4⟩
theorem NRun.grow {H H' : AH} {n0 L : Nat} (h : NRun H n0 L) (g : Grow H H') : NRun H' n0 L := h.mod g id id fun _ _ => id
theorem u64_range (x : Int) : ∃ n : Nat, IntKind.u64.wrap x = n ∧ n < 18446744073709551616 := by
  have hb : (2 ^ IntKind.u64.bits : Int) = 18446744073709551616 := by rfl
  have hs : IntKind.u64.signed = false := rfl
  have e : IntKind.u64.wrap x = x % 18446744073709551616 := by
    simp only [IntKind.wrap, hb, hs, Bool.false_and]
    simp
  refine ⟨(IntKind.u64.wrap x).toNat, ?_, ?_⟩ <;> rw [e] <;> omega
end Go.Ev
namespace Go.Proofs.Cx
open Go Go.Ev
section
variable {H : AH} {n0 L : Nat}
set_option maxRecDepth 100000 in
theorem look_ij {H : AH} {m : Value} {c : Int} {ok : Bool} : lookupv Ee H T_M_int_P_master_job m (.int .i64 c) ok = lookX Ee T_int H m c (.pointer none) ok := by kernel_rfl
set_option maxRecDepth 100000 in
theorem upd_ij {H : AH} {r : Nat} {c : Int} {v : Value} : updatev Ee H T_M_int_P_master_job (.map (some r)) (.int .i64 c) v = updX Ee T_int H r c v := by kernel_rfl
set_option maxRecDepth 100000 in
theorem look_is {H : AH} {m : Value} {c : Int} {ok : Bool} : lookupv Ee H T_M_int64_sess_last m (.int .i64 c) ok = lookX Ee T_int64 H m c (.agg ⟨[.int .i64 0, .string ⟨⟨[]⟩⟩]⟩) ok := by kernel_rfl
set_option maxRecDepth 100000 in
theorem upd_is {H : AH} {r : Nat} {c : Int} {v : Value} : updatev Ee H T_M_int64_sess_last (.map (some r)) (.int .i64 c) v = updX Ee T_int64 H r c v := by kernel_rfl
theorem lookX_nil {E : Env} {kt : TypeId} {r cl : Nat} {c : Int} {z : Value} {ok : Bool} (h : H.get r = some (.map [] cl)) : lookX E kt H (.map (some r)) c z ok = some (bif ok then .tuple #[z, .bool false] else z) := by
  unfold lookX; simp only [entriesOf, h, findv]
set_option maxRecDepth 100000 in
theorem open_eq {args : List Value} {H : AH} : (evalN Ee 1).call F_master_Master_Open args H = openW args H := by kernel_rfl

/-! nil -/
abbrev zTask : List Value := tskC (fun _ => 0) (fun _ => nil3) zjw none 0 0 none 0 0 (fun _ => false) (fun _ => 0) false
/-! a new one -/
theorem newfm_ok (ok : Ok H) : FW Ee F_master_New [] H fun r H' => r = .pointer (some ⟨H.next + 4, 0, none⟩) ∧ FM H' H.next ∧ H'.next = H.next + 5 ∧ Grow H H' := by
  refine fw_master_New ?_
  refine FW.mono (Q := fun r H' => r = .pointer (some ⟨H.next + 1, 0, none⟩) ∧ Grow H H' ∧ H'.next = H.next + 2 ∧ H'.get H.next = some (.map [] 0) ∧ H'.get (H.next + 1) = some (.cells [.map (some H.next)] 0)) ?_ ?_
  · refine fw_sess_New ?_
    intro H1 e1 H2 e2
    have g1 : Grow H H1 := e1 ▸ Grow.new ok _
    have g2 : Grow H1 H2 := e2 ▸ Grow.new g1.ok _
    have n1 : H1.next = H.next + 1 := by rw [e1]; rfl
    have t1 : H1.get H.next = some (.map [] 0) := e1 ▸ get_new_self _ _
    have s2 : H2.get H1.next = some (.cells [.map (some H.next)] 0) := e2 ▸ get_new_self _ _
    rw [n1] at s2
    exact ⟨by rw [n1], g1.trans g2, by rw [e2, AH.new_next]; omega, g2.get _ _ id t1, s2⟩
  · rintro _ H1 ⟨rfl, g1, n1, t1, s1⟩
    refine ⟨_, rfl, ?_⟩
    intro H2 e2 H3 e3 H4 e4
    have g2 : Grow H1 H2 := e2 ▸ Grow.new g1.ok _
    have g3 : Grow H2 H3 := e3 ▸ Grow.new g2.ok _
    obtain ⟨g4, b4, n4⟩ := new_job g3.ok e4
    have n2 : H2.next = H1.next + 1 := by rw [e2]; rfl
    have n3 : H3.next = H2.next + 1 := by rw [e3]; rfl
    have j2 : H2.get H1.next = some (.map [] 0) := e2 ▸ get_new_self _ _
    have w3 : H3.get H2.next = some (.map [] 0) := e3 ▸ get_new_self _ _
    have a1 : H1.next = H.next + 2 := n1
    have a2 : H2.next = H.next + 3 := by omega
    have a3 : H3.next = H.next + 4 := by omega
    rw [a1] at j2 b4
    rw [a2] at w3 b4
    rw [a3] at b4
    have g24 := (g2.trans g3).trans g4
    exact ⟨by rw [a3], ⟨g24.get _ _ id t1, g24.get _ _ id s1, (g3.trans g4).get _ _ id j2, g4.get _ _ id w3, b4⟩, by omega, g1.trans g24⟩
theorem flat_iv : ∀ zs : List Int, zs.flatMap intC = zs.map iv
  | [] => rfl
  | z :: zs => by rw [List.flatMap_cons, flat_iv zs]; rfl
theorem idsn_ok {mb jb : Nat} {v0 v2 v3 v4 : Value} {zs : List Int} {val : Int → Value} (ok : Ok H) (hr : H.get mb = some (.cells [v0, .map (some jb), v2, v3, v4] 0)) (hm : MapV H jb zs val) :
    FW Ee F_master_Master_ids [.pointer (some ⟨mb, 0, none⟩)] H fun r H' => ∃ a c, r = .slice a zs.length c ∧ SlI (fun _ => True) H' a zs.length (sortI zs) ∧ Grow H H' := by
  refine fw_master_Master_ids ?_
  refine ⟨_, cell_of hr rfl, (keysj_ok ok).mono ?_⟩
  rintro _ H1 ⟨rfl, b1, g1⟩
  refine ⟨_, rfl, (sorted_ok g1.ok (by simp) b1 (hm.mod g1 id)).mono ?_⟩
  rintro _ H2 ⟨a, c, rfl, ow, _, g2, _⟩
  exact ⟨a, _, c, rfl, a, c, rfl, own_sli (by rw [flat_iv]; exact ow) fun _ _ => trivial, g1.trans g2⟩
/-- with workers, without jobs: nothing starts -/
theorem startn_ok {sp : Option Addr} {jb wb : Nat} {la ep : Int} {mb : Nat} {es : List MapEntry} {c c' : Nat} (ok : Ok H) (hr : H.get mb = some (.cells [.pointer sp, .map (some jb), .map (some wb), .int .i64 la, .int .i64 ep] 0))
    (hj : H.get jb = some (.map [] c)) (hw : H.get wb = some (.map es c')) : FW Ee F_master_Master_start [.pointer (some ⟨mb, 0, none⟩)] H fun r H' => r = .tuple ⟨[]⟩ ∧ Grow H H' := by
  refine fw_master_Master_start ?_
  refine ⟨_, cell_of hr rfl, .inr ⟨wb, es, c', rfl, hw, cond_intro (fun _ => ⟨rfl, .refl ok⟩) (fun _ => ?_)⟩⟩
  refine FW.mono (Q := fun r H' => r = .pointer none ∧ Grow H H') ?_ ?_
  · refine fw_master_Master_current ?_
    refine (idsn_ok ok hr (MapV.empty (val := fun _ => .bool true) hj)).mono ?_
    rintro _ H1 ⟨a, c, rfl, _, g1⟩
    refine ⟨_, _, _, rfl, fun _ _ t Hx => t = 0 ∧ Hx = H1, ⟨0, rfl, rfl⟩, ?_⟩
    rintro n t2 t8 H2 ⟨rfl, rfl⟩
    exact cond_neg (by simp) ⟨rfl, g1⟩
  rintro _ H6 ⟨rfl, g6⟩
  refine ⟨none, rfl, cond_neg rfl ((idsn_ok g6.ok (g6.get _ _ id hr) (MapV.empty (val := fun _ => .bool true) (g6.get _ _ id hj))).mono ?_)⟩
  rintro _ H8 ⟨a, c, rfl, _, g8⟩
  refine ⟨_, _, _, rfl, fun _ t Hx => t = 0 ∧ Hx = H8, ⟨0, rfl, rfl⟩, ?_⟩
  rintro n t H9 ⟨rfl, rfl⟩
  exact cond_neg (by simp) ⟨rfl, g6.trans g8⟩
end
end Go.Proofs.Cx
