/- Tasks: what is put is taken. Tasks that are taken. MasterTexts: small jobs, what comes in. MasterTexts: the law, as formulas have it. MasterTexts: what comes in. -/
import Derived.Test.YtkkcknfeljgdcaaGreatC4
import Derived.Test.YtkkcknfeljgdcaaGreatVc1
import Derived.Test.YtkkcknfeljgdcaaGreatVc2
import Derived.Test.YtkkcknfeljgdcaaGreatB3
namespace Go.Ev
open Go
abbrev Sl3 := Option Addr × Nat × Nat
def sv (x : Sl3) : Value := .slice x.1 x.2.1 x.2.2
def upd {α : Type} (s : Nat → α) (i : Nat) (x : α) : Nat → α := fun k => if k = i then x else s k
structure TaskW where
  f : Nat → Int
  L : Nat → List Int
  h : Nat → Bool
  v : Nat → Int
  j : JobW
  k : Bool
end Go.Ev
namespace Go.Proofs.Cx
open Go Go.Ev
section
variable {H : AH} {b : Nat} {s bs t : List UInt8} {p : Nat}
end
end Go.Proofs.Cx

namespace Go.Proofs.Cx
open Go Go.Ev
section
variable {H : AH} {b : Nat} {s bs t : List UInt8} {p : Nat}
end
end Go.Proofs.Cx

namespace Go.Ev
open Go
theorem Sl.pre {α : Type} {F : Nat → Prop} {H : AH} {sz : Nat} {P : AH → Nat → Nat → α → Prop} {x : Addr} {l k : Nat} {xs : List α} (h : Sl F H sz P (some x) l xs) (hk : k ≤ l) (h0 : 0 < k) : Sl F H sz P (some ⟨x.block, x.off + 0 * sz, none⟩) k (xs.take k) := by
  have hl := h.len
  refine ⟨by rw [List.length_take]; omega, fun _ => ⟨rfl, (h.base (by omega)).2⟩, fun i hi => ?_⟩
  rw [List.length_take] at hi
  rw [List.getElem_take]
  have := h.cells i (by omega)
  simp only [adr] at this ⊢
  rw [show x.off + 0 * sz + i * sz = x.off + i * sz from by omega]
  exact this
def small (j : JobW) : JobW := ⟨j.prog, j.graph.take 30, j.params, if j.steps > 60 then 60 else j.steps, if j.sent > 3000 then 3000 else j.sent, j.parts⟩
def seqB : List Bool → Option Bool
  | [] => some true
  | b :: l => match some b with
    | some true => seqB l
    | r => r
end Go.Ev
namespace Go.Proofs.Cx
open Go Go.Ev
end Go.Proofs.Cx

namespace Go.Ev
open Go
end Go.Ev
namespace Go.Proofs.Cx
open Go Go.Ev
theorem awake17_ok {H : AH} : FW Ee F_cohortlaw17_awake [] H fun v H' => v = .bool true ∧ H = H' := by
  have e : (evalN Ee 1).call F_cohortlaw17_awake [] H = some (.bool true, H) := by kernel_rfl
  exact ⟨1, _, _, e, rfl, rfl⟩
end Go.Proofs.Cx

namespace Go.Proofs.Cx
open Go Go.Ev Go.RowKit
abbrev RI : AH → List Value → Int → Prop := RInt .i64
abbrev R5b : AH → List Value → Bool × Bool × Bool × Bool × Bool × Unit → Prop := RCons RBool (RCons RBool (RCons RBool (RCons RBool (RCons RBool RNil))))
abbrev R5i : AH → List Value → Int × Int × Int × Int × Int × Unit → Prop := RCons RI (RCons RI (RCons RI (RCons RI (RCons RI RNil))))
abbrev RAg : AH → List Value → (Bool × Bool × Bool × Bool × Bool × Unit) × (Int × Int × Int × Int × Int × Unit) × Unit → Prop := RCons R5b (RCons R5i RNil)
abbrev RRep : AH → List Value → Int × Int × Int × Int × Int × Int × Int × Int × Int × ((Bool × Bool × Bool × Bool × Bool × Unit) × (Int × Int × Int × Int × Int × Unit) × Unit) × List (Int × Int × Unit) × Unit → Prop :=
  RCons RI (RCons RI (RCons RI (RCons RI (RCons RI (RCons RI (RCons RI (RCons RI (RCons RI (RCons RAg (RCons (RSl 2 16 RE) RNil))))))))))
theorem stable_5b : Stable R5b := stable_cons stable_bool (stable_cons stable_bool (stable_cons stable_bool (stable_cons stable_bool (stable_cons stable_bool stable_nil))))
theorem stable_5i : Stable R5i := stable_cons stable_ri (stable_cons stable_ri (stable_cons stable_ri (stable_cons stable_ri (stable_cons stable_ri stable_nil))))
theorem stable_rag : Stable RAg := stable_cons stable_5b (stable_cons stable_5i stable_nil)
theorem stable_rrep : Stable RRep := stable_cons stable_ri (stable_cons stable_ri (stable_cons stable_ri (stable_cons stable_ri (stable_cons stable_ri (stable_cons stable_ri (stable_cons stable_ri (stable_cons stable_ri (stable_cons stable_ri (stable_cons stable_rag (stable_cons (stable_slice stable_re) stable_nil))))))))))
section
variable {Hh : Type} {enc : TypeId × Value → Hh} {W : World} [Sy]
theorem lay_5b : LayT enc Tryz.prog W T_5_bool R5b :=
  lay_array (ds := [(T_bool, 0), (T_bool, 1), (T_bool, 2), (T_bool, 3), (T_bool, 4)]) (n := 5) (e := T_bool) (total := 5) (by kernel_rfl) (by kernel_rfl) (by kernel_rfl)
    (lay_fcons (off := 0) (n := 1) rfl (by kernel_rfl) (lay_bool (by kernel_rfl)) stable_bool (lay_fcons (off := 1) (n := 1) rfl (by kernel_rfl) (lay_bool (by kernel_rfl)) stable_bool (lay_fcons (off := 2) (n := 1) rfl (by kernel_rfl) (lay_bool (by kernel_rfl)) stable_bool
      (lay_fcons (off := 3) (n := 1) rfl (by kernel_rfl) (lay_bool (by kernel_rfl)) stable_bool (lay_fcons (off := 4) (n := 1) rfl (by kernel_rfl) (lay_bool (by kernel_rfl)) stable_bool lay_fnil)))))
theorem lay_5i : LayT enc Tryz.prog W T_5_int64 R5i :=
  lay_array (ds := [(T_int64, 0), (T_int64, 1), (T_int64, 2), (T_int64, 3), (T_int64, 4)]) (n := 5) (e := T_int64) (total := 5) (by kernel_rfl) (by kernel_rfl) (by kernel_rfl)
    (lay_fcons (off := 0) (n := 1) rfl (by kernel_rfl) (lay_int (by kernel_rfl)) stable_ri (lay_fcons (off := 1) (n := 1) rfl (by kernel_rfl) (lay_int (by kernel_rfl)) stable_ri (lay_fcons (off := 2) (n := 1) rfl (by kernel_rfl) (lay_int (by kernel_rfl)) stable_ri
      (lay_fcons (off := 3) (n := 1) rfl (by kernel_rfl) (lay_int (by kernel_rfl)) stable_ri (lay_fcons (off := 4) (n := 1) rfl (by kernel_rfl) (lay_int (by kernel_rfl)) stable_ri lay_fnil)))))
theorem lay_agg : LayT enc Tryz.prog W T_api_Aggregate RAg :=
  lay_struct (ds := [(T_5_bool, 0), (T_5_int64, 5)]) (by kernel_rfl) (total := 10) (by kernel_rfl)
    (lay_fcons (off := 0) (n := 5) rfl (by kernel_rfl) lay_5b stable_5b (lay_fcons (off := 5) (n := 5) rfl (by kernel_rfl) lay_5i stable_5i lay_fnil))
theorem lay_val : LayT enc Tryz.prog W T_api_Value RE :=
  lay_struct (ds := [(T_int64, 0), (T_int64, 1)]) (by kernel_rfl) (total := 2) (by kernel_rfl)
    (lay_fcons (off := 0) (n := 1) rfl (by kernel_rfl) (lay_int (by kernel_rfl)) stable_int (lay_fcons (off := 1) (n := 1) rfl (by kernel_rfl) (lay_int (by kernel_rfl)) stable_int lay_fnil))
theorem lay_report : LayT enc Tryz.prog W T_api_Report RRep :=
  lay_struct (ds := [(T_int, 0), (T_int, 1), (T_int, 2), (T_int, 3), (T_int, 4), (T_api_Errno, 5), (T_int, 6), (T_int, 7), (T_int, 8), (T_api_Aggregate, 9), (T_L_api_Value, 19)]) (by kernel_rfl) (total := 20) (by kernel_rfl)
    (lay_fcons (off := 0) (n := 1) rfl (by kernel_rfl) (lay_int (by kernel_rfl)) stable_ri
    (lay_fcons (off := 1) (n := 1) rfl (by kernel_rfl) (lay_int (by kernel_rfl)) stable_ri
    (lay_fcons (off := 2) (n := 1) rfl (by kernel_rfl) (lay_int (by kernel_rfl)) stable_ri
    (lay_fcons (off := 3) (n := 1) rfl (by kernel_rfl) (lay_int (by kernel_rfl)) stable_ri
    (lay_fcons (off := 4) (n := 1) rfl (by kernel_rfl) (lay_int (by kernel_rfl)) stable_ri
    (lay_fcons (off := 5) (n := 1) rfl (by kernel_rfl) (lay_int (by kernel_rfl)) stable_ri
    (lay_fcons (off := 6) (n := 1) rfl (by kernel_rfl) (lay_int (by kernel_rfl)) stable_ri
    (lay_fcons (off := 7) (n := 1) rfl (by kernel_rfl) (lay_int (by kernel_rfl)) stable_ri
    (lay_fcons (off := 8) (n := 1) rfl (by kernel_rfl) (lay_int (by kernel_rfl)) stable_ri
    (lay_fcons (off := 9) (n := 10) rfl (by kernel_rfl) lay_agg stable_rag
    (lay_fcons (off := 19) (n := 1) rfl (by kernel_rfl) (lay_slice (e := T_api_Value) (by kernel_rfl) (by kernel_rfl) (by omega) (by kernel_rfl) lay_val stable_re re_len) (stable_slice stable_re) lay_fnil)))))))))))
end
def fi (l : List Int) (i : Nat) : Int := l.getD i 0
def fb (l : List Bool) (i : Nat) : Bool := l.getD i false
theorem fi_i64 {l : List Int} (h : ∀ x ∈ l, I64 x) (i : Nat) : I64 (fi l i) := by
  unfold fi
  rw [List.getD_eq_getElem?_getD]
  by_cases hi : i < l.length
  · rw [List.getElem?_eq_getElem hi]; exact h _ (List.getElem_mem hi)
  · rw [List.getElem?_eq_none (by omega)]; unfold I64; simp
theorem pairs_in {H : AH} (ok : Ok H) {a : Option Addr} {l : Nat} {xs : List (Int × Int × Unit)} (h : Sl (fun _ => True) H 2 (PCs RE) a l xs) : SlE (fun b => b < H.next) H a l (xs.map toE) ∧ ∀ e ∈ xs.map toE, PairI e := by
  have edge : ∀ b o x, PCs RE H b o x → PEdge H b o (toE x) ∧ PairI (toE x) := by
    rintro b o x ⟨cs, hc, c1, c2, rfl, ⟨rfl, w1⟩, c3, c4, rfl, ⟨rfl, w2⟩, rfl⟩
    exact ⟨⟨by simpa [toE] using hc 0 _ rfl, by simpa [toE] using hc 1 _ rfl⟩, i64_wf w1, i64_wf w2⟩
  refine ⟨Sl.into h (fun b o x hx => lt_of_cell ok (edge b o x hx).1.1) (fun b o x _ hx => (edge b o x hx).1), fun e he => ?_⟩
  obtain ⟨y, hy, rfl⟩ := List.mem_map.1 he
  obtain ⟨i, hi, rfl⟩ := List.getElem_of_mem hy
  exact (edge _ _ _ (h.cells i hi)).2
theorem rep_in {H : AH} (ok : Ok H) {cs : List Value} {x} (h : RRep H cs x) : ∃ f ha v a l c vs, cs = repC f ha v a l c ∧ (∀ i, I64 (v i)) ∧ SlE (fun b => b < H.next) H a l vs ∧ (∀ e ∈ vs, PairI e) ∧ Room l c ∧ (∀ i, I64 (f i)) ∧ vs.length * 16 ≤ 140737488351232 := by
  obtain ⟨d1, e1, rfl, ⟨rfl, w1⟩, d2, e2, rfl, ⟨rfl, w2⟩, d3, e3, rfl, ⟨rfl, w3⟩, d4, e4, rfl, ⟨rfl, w4⟩, d5, e5, rfl, ⟨rfl, w5⟩, d6, e6, rfl, ⟨rfl, w6⟩, d7, e7, rfl, ⟨rfl, w7⟩, d8, e8, rfl, ⟨rfl, w8⟩, d9, e9, rfl, ⟨rfl, w9⟩, d10, e10, rfl, ⟨s1, s2, rfl, ⟨q1, r1, rfl, rfl, q2, r2, rfl, rfl, q3, r3, rfl, rfl, q4, r4, rfl, rfl, q5, r5, rfl, rfl, rfl⟩, s3, s4, rfl, ⟨q1, r1, rfl, ⟨rfl, u1⟩, q2, r2, rfl, ⟨rfl, u2⟩, q3, r3, rfl, ⟨rfl, u3⟩, q4, r4, rfl, ⟨rfl, u4⟩, q5, r5, rfl, ⟨rfl, u5⟩, rfl⟩, rfl⟩, d11, e11, rfl, ⟨a, l, c, rfl, hV, hb, hr⟩, rfl⟩ := h
  obtain ⟨k1, k2⟩ := pairs_in ok hV
  refine ⟨fi [x.1, x.2.1, x.2.2.1, x.2.2.2.1, x.2.2.2.2.1, x.2.2.2.2.2.1, x.2.2.2.2.2.2.1, x.2.2.2.2.2.2.2.1, x.2.2.2.2.2.2.2.2.1], fb [x.2.2.2.2.2.2.2.2.2.1.1.1, x.2.2.2.2.2.2.2.2.2.1.1.2.1, x.2.2.2.2.2.2.2.2.2.1.1.2.2.1, x.2.2.2.2.2.2.2.2.2.1.1.2.2.2.1, x.2.2.2.2.2.2.2.2.2.1.1.2.2.2.2.1],
    fi [x.2.2.2.2.2.2.2.2.2.1.2.1.1, x.2.2.2.2.2.2.2.2.2.1.2.1.2.1, x.2.2.2.2.2.2.2.2.2.1.2.1.2.2.1, x.2.2.2.2.2.2.2.2.2.1.2.1.2.2.2.1, x.2.2.2.2.2.2.2.2.2.1.2.1.2.2.2.2.1], a, l, c, _, rfl, fi_i64 ?_, k1, k2, hr, fi_i64 ?_, by rw [List.length_map]; exact hb⟩
  · intro y hy
    simp only [List.mem_cons, List.not_mem_nil, or_false] at hy
    rcases hy with rfl | rfl | rfl | rfl | rfl
    · exact i64_wf u1
    · exact i64_wf u2
    · exact i64_wf u3
    · exact i64_wf u4
    · exact i64_wf u5
  · intro y hy
    simp only [List.mem_cons, List.not_mem_nil, or_false] at hy
    rcases hy with rfl | rfl | rfl | rfl | rfl | rfl | rfl | rfl | rfl
    · exact i64_wf w1
    · exact i64_wf w2
    · exact i64_wf w3
    · exact i64_wf w4
    · exact i64_wf w5
    · exact i64_wf w6
    · exact i64_wf w7
    · exact i64_wf w8
    · exact i64_wf w9
end Go.Proofs.Cx
