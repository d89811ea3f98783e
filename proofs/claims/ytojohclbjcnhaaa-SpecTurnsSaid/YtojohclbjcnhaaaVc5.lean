/- What calls come to, as formulas: printed by a program. -/
import Derived.Test.YtojohclbjcnhaaaVc0
namespace Go.Proofs.Cx
open Go Go.Ev
set_option linter.unusedVariables false
/-- cmp.Less[int64] -/
def VC_cmp_Less_int64 (x0 : Int) (y1 : Int) (H : AH) (Q : Value → AH → Prop) : Prop :=
  FW Ee F_cmp_isNaN_int64 [.int .i64 x0] H fun v H1 =>
    ∃ (r6 : Bool),
    v = .bool r6 ∧
    cond (r6) (
      FW Ee F_cmp_isNaN_int64 [.int .i64 y1] H1 fun v_1 H2 =>
        ∃ (r9 : Bool),
        v_1 = .bool r9 ∧
        cond (!r9) (
          Q (.bool true) H2) (
          Q (.bool (decide (x0 < y1))) H2)) (
      Q (.bool (decide (x0 < y1))) H1)
set_option maxRecDepth 100000 in
theorem fw_cmp_Less_int64 {x0 : Int} {y1 : Int} {H : AH} {Q : Value → AH → Prop} (h : VC_cmp_Less_int64 x0 y1 H Q) : FW Ee F_cmp_Less_int64 [.int .i64 x0, .int .i64 y1] H Q := by
  have e : VC_cmp_Less_int64 x0 y1 H Q = wpF Ee ⟨[], []⟩ F_cmp_Less_int64 [.int .i64 x0, .int .i64 y1] H Q := by kernel_rfl
  letI : Sy := sy0
  exact wpF_sound (Eq.mp e h)
/-- math/bits.Len64 -/
def VC_math_bits_Len64 (x0 : Int) (H : AH) (Q : Value → AH → Prop) : Prop :=
  cond (decide (x0 ≥ 4294967296)) (
    (0 : Int) ≤ 32 ∧
    ∀ (t6 : Int),
    t6 = (x0 : Int).fdiv (2 ^ (min (32 : Int).toNat IntKind.u64.bits)) →
    cond (decide (t6 ≥ 65536)) (
      (0 : Int) ≤ 16 ∧
      ∀ (t10 : Int),
      t10 = (t6 : Int).fdiv (2 ^ (min (16 : Int).toNat IntKind.u64.bits)) →
      ∀ (t12 : Int),
      t12 = IntKind.i64.wrap ((32 : Int) + 16) →
      cond (decide (t10 ≥ 256)) (
        (0 : Int) ≤ 8 ∧
        ∀ (t16 : Int),
        t16 = (t10 : Int).fdiv (2 ^ (min (8 : Int).toNat IntKind.u64.bits)) →
        ∀ (t18 : Int),
        t18 = IntKind.i64.wrap (t12 + 8) →
        ∀ (t21 : Int),
        t21 = IntKind.u8.wrap (t16) →
        (0 : Int) ≤ t21 ∧
        (t21 : Int) < ((([0, 1, 2, 2, 3, 3, 3, 3, 4, 4, 4, 4, 4, 4, 4, 4, 5, 5, 5, 5, 5, 5, 5, 5, 5, 5, 5, 5, 5, 5, 5, 5, 6, 6, 6, 6, 6, 6, 6, 6, 6, 6, 6, 6, 6, 6, 6, 6, 6, 6, 6, 6, 6, 6, 6, 6, 6, 6, 6, 6, 6, 6, 6, 6, 7, 7, 7, 7, 7, 7, 7, 7, 7, 7, 7, 7, 7, 7, 7, 7, 7, 7, 7, 7, 7, 7, 7, 7, 7, 7, 7, 7, 7, 7, 7, 7, 7, 7, 7, 7, 7, 7, 7, 7, 7, 7, 7, 7, 7, 7, 7, 7, 7, 7, 7, 7, 7, 7, 7, 7, 7, 7, 7, 7, 7, 7, 7, 7, 8, 8, 8, 8, 8, 8, 8, 8, 8, 8, 8, 8, 8, 8, 8, 8, 8, 8, 8, 8, 8, 8, 8, 8, 8, 8, 8, 8, 8, 8, 8, 8, 8, 8, 8, 8, 8, 8, 8, 8, 8, 8, 8, 8, 8, 8, 8, 8, 8, 8, 8, 8, 8, 8, 8, 8, 8, 8, 8, 8, 8, 8, 8, 8, 8, 8, 8, 8, 8, 8, 8, 8, 8, 8, 8, 8, 8, 8, 8, 8, 8, 8, 8, 8, 8, 8, 8, 8, 8, 8, 8, 8, 8, 8, 8, 8, 8, 8, 8, 8, 8, 8, 8, 8, 8, 8, 8, 8, 8, 8, 8, 8, 8, 8, 8, 8, 8, 8, 8, 8, 8, 8, 8, 8, 8, 8, 8, 8] : List UInt8).length : Nat) : Int) ∧
        ∀ (t23 : Int),
        t23 = IntKind.i64.wrap (byteAt [0, 1, 2, 2, 3, 3, 3, 3, 4, 4, 4, 4, 4, 4, 4, 4, 5, 5, 5, 5, 5, 5, 5, 5, 5, 5, 5, 5, 5, 5, 5, 5, 6, 6, 6, 6, 6, 6, 6, 6, 6, 6, 6, 6, 6, 6, 6, 6, 6, 6, 6, 6, 6, 6, 6, 6, 6, 6, 6, 6, 6, 6, 6, 6, 7, 7, 7, 7, 7, 7, 7, 7, 7, 7, 7, 7, 7, 7, 7, 7, 7, 7, 7, 7, 7, 7, 7, 7, 7, 7, 7, 7, 7, 7, 7, 7, 7, 7, 7, 7, 7, 7, 7, 7, 7, 7, 7, 7, 7, 7, 7, 7, 7, 7, 7, 7, 7, 7, 7, 7, 7, 7, 7, 7, 7, 7, 7, 7, 8, 8, 8, 8, 8, 8, 8, 8, 8, 8, 8, 8, 8, 8, 8, 8, 8, 8, 8, 8, 8, 8, 8, 8, 8, 8, 8, 8, 8, 8, 8, 8, 8, 8, 8, 8, 8, 8, 8, 8, 8, 8, 8, 8, 8, 8, 8, 8, 8, 8, 8, 8, 8, 8, 8, 8, 8, 8, 8, 8, 8, 8, 8, 8, 8, 8, 8, 8, 8, 8, 8, 8, 8, 8, 8, 8, 8, 8, 8, 8, 8, 8, 8, 8, 8, 8, 8, 8, 8, 8, 8, 8, 8, 8, 8, 8, 8, 8, 8, 8, 8, 8, 8, 8, 8, 8, 8, 8, 8, 8, 8, 8, 8, 8, 8, 8, 8, 8, 8, 8, 8, 8, 8, 8, 8, 8, 8, 8] t21) →
        ∀ (t24 : Int),
        t24 = IntKind.i64.wrap (t18 + t23) →
        Q (.int .i64 t24) H) (
        ∀ (t21_1 : Int),
        t21_1 = IntKind.u8.wrap (t10) →
        (0 : Int) ≤ t21_1 ∧
        (t21_1 : Int) < ((([0, 1, 2, 2, 3, 3, 3, 3, 4, 4, 4, 4, 4, 4, 4, 4, 5, 5, 5, 5, 5, 5, 5, 5, 5, 5, 5, 5, 5, 5, 5, 5, 6, 6, 6, 6, 6, 6, 6, 6, 6, 6, 6, 6, 6, 6, 6, 6, 6, 6, 6, 6, 6, 6, 6, 6, 6, 6, 6, 6, 6, 6, 6, 6, 7, 7, 7, 7, 7, 7, 7, 7, 7, 7, 7, 7, 7, 7, 7, 7, 7, 7, 7, 7, 7, 7, 7, 7, 7, 7, 7, 7, 7, 7, 7, 7, 7, 7, 7, 7, 7, 7, 7, 7, 7, 7, 7, 7, 7, 7, 7, 7, 7, 7, 7, 7, 7, 7, 7, 7, 7, 7, 7, 7, 7, 7, 7, 7, 8, 8, 8, 8, 8, 8, 8, 8, 8, 8, 8, 8, 8, 8, 8, 8, 8, 8, 8, 8, 8, 8, 8, 8, 8, 8, 8, 8, 8, 8, 8, 8, 8, 8, 8, 8, 8, 8, 8, 8, 8, 8, 8, 8, 8, 8, 8, 8, 8, 8, 8, 8, 8, 8, 8, 8, 8, 8, 8, 8, 8, 8, 8, 8, 8, 8, 8, 8, 8, 8, 8, 8, 8, 8, 8, 8, 8, 8, 8, 8, 8, 8, 8, 8, 8, 8, 8, 8, 8, 8, 8, 8, 8, 8, 8, 8, 8, 8, 8, 8, 8, 8, 8, 8, 8, 8, 8, 8, 8, 8, 8, 8, 8, 8, 8, 8, 8, 8, 8, 8, 8, 8, 8, 8, 8, 8, 8, 8] : List UInt8).length : Nat) : Int) ∧
        ∀ (t23_1 : Int),
        t23_1 = IntKind.i64.wrap (byteAt [0, 1, 2, 2, 3, 3, 3, 3, 4, 4, 4, 4, 4, 4, 4, 4, 5, 5, 5, 5, 5, 5, 5, 5, 5, 5, 5, 5, 5, 5, 5, 5, 6, 6, 6, 6, 6, 6, 6, 6, 6, 6, 6, 6, 6, 6, 6, 6, 6, 6, 6, 6, 6, 6, 6, 6, 6, 6, 6, 6, 6, 6, 6, 6, 7, 7, 7, 7, 7, 7, 7, 7, 7, 7, 7, 7, 7, 7, 7, 7, 7, 7, 7, 7, 7, 7, 7, 7, 7, 7, 7, 7, 7, 7, 7, 7, 7, 7, 7, 7, 7, 7, 7, 7, 7, 7, 7, 7, 7, 7, 7, 7, 7, 7, 7, 7, 7, 7, 7, 7, 7, 7, 7, 7, 7, 7, 7, 7, 8, 8, 8, 8, 8, 8, 8, 8, 8, 8, 8, 8, 8, 8, 8, 8, 8, 8, 8, 8, 8, 8, 8, 8, 8, 8, 8, 8, 8, 8, 8, 8, 8, 8, 8, 8, 8, 8, 8, 8, 8, 8, 8, 8, 8, 8, 8, 8, 8, 8, 8, 8, 8, 8, 8, 8, 8, 8, 8, 8, 8, 8, 8, 8, 8, 8, 8, 8, 8, 8, 8, 8, 8, 8, 8, 8, 8, 8, 8, 8, 8, 8, 8, 8, 8, 8, 8, 8, 8, 8, 8, 8, 8, 8, 8, 8, 8, 8, 8, 8, 8, 8, 8, 8, 8, 8, 8, 8, 8, 8, 8, 8, 8, 8, 8, 8, 8, 8, 8, 8, 8, 8, 8, 8, 8, 8, 8, 8] t21_1) →
        ∀ (t24_1 : Int),
        t24_1 = IntKind.i64.wrap (t12 + t23_1) →
        Q (.int .i64 t24_1) H)) (
      cond (decide (t6 ≥ 256)) (
        (0 : Int) ≤ 8 ∧
        ∀ (t16_1 : Int),
        t16_1 = (t6 : Int).fdiv (2 ^ (min (8 : Int).toNat IntKind.u64.bits)) →
        ∀ (t18_1 : Int),
        t18_1 = IntKind.i64.wrap ((32 : Int) + 8) →
        ∀ (t21_2 : Int),
        t21_2 = IntKind.u8.wrap (t16_1) →
        (0 : Int) ≤ t21_2 ∧
        (t21_2 : Int) < ((([0, 1, 2, 2, 3, 3, 3, 3, 4, 4, 4, 4, 4, 4, 4, 4, 5, 5, 5, 5, 5, 5, 5, 5, 5, 5, 5, 5, 5, 5, 5, 5, 6, 6, 6, 6, 6, 6, 6, 6, 6, 6, 6, 6, 6, 6, 6, 6, 6, 6, 6, 6, 6, 6, 6, 6, 6, 6, 6, 6, 6, 6, 6, 6, 7, 7, 7, 7, 7, 7, 7, 7, 7, 7, 7, 7, 7, 7, 7, 7, 7, 7, 7, 7, 7, 7, 7, 7, 7, 7, 7, 7, 7, 7, 7, 7, 7, 7, 7, 7, 7, 7, 7, 7, 7, 7, 7, 7, 7, 7, 7, 7, 7, 7, 7, 7, 7, 7, 7, 7, 7, 7, 7, 7, 7, 7, 7, 7, 8, 8, 8, 8, 8, 8, 8, 8, 8, 8, 8, 8, 8, 8, 8, 8, 8, 8, 8, 8, 8, 8, 8, 8, 8, 8, 8, 8, 8, 8, 8, 8, 8, 8, 8, 8, 8, 8, 8, 8, 8, 8, 8, 8, 8, 8, 8, 8, 8, 8, 8, 8, 8, 8, 8, 8, 8, 8, 8, 8, 8, 8, 8, 8, 8, 8, 8, 8, 8, 8, 8, 8, 8, 8, 8, 8, 8, 8, 8, 8, 8, 8, 8, 8, 8, 8, 8, 8, 8, 8, 8, 8, 8, 8, 8, 8, 8, 8, 8, 8, 8, 8, 8, 8, 8, 8, 8, 8, 8, 8, 8, 8, 8, 8, 8, 8, 8, 8, 8, 8, 8, 8, 8, 8, 8, 8, 8, 8] : List UInt8).length : Nat) : Int) ∧
        ∀ (t23_2 : Int),
        t23_2 = IntKind.i64.wrap (byteAt [0, 1, 2, 2, 3, 3, 3, 3, 4, 4, 4, 4, 4, 4, 4, 4, 5, 5, 5, 5, 5, 5, 5, 5, 5, 5, 5, 5, 5, 5, 5, 5, 6, 6, 6, 6, 6, 6, 6, 6, 6, 6, 6, 6, 6, 6, 6, 6, 6, 6, 6, 6, 6, 6, 6, 6, 6, 6, 6, 6, 6, 6, 6, 6, 7, 7, 7, 7, 7, 7, 7, 7, 7, 7, 7, 7, 7, 7, 7, 7, 7, 7, 7, 7, 7, 7, 7, 7, 7, 7, 7, 7, 7, 7, 7, 7, 7, 7, 7, 7, 7, 7, 7, 7, 7, 7, 7, 7, 7, 7, 7, 7, 7, 7, 7, 7, 7, 7, 7, 7, 7, 7, 7, 7, 7, 7, 7, 7, 8, 8, 8, 8, 8, 8, 8, 8, 8, 8, 8, 8, 8, 8, 8, 8, 8, 8, 8, 8, 8, 8, 8, 8, 8, 8, 8, 8, 8, 8, 8, 8, 8, 8, 8, 8, 8, 8, 8, 8, 8, 8, 8, 8, 8, 8, 8, 8, 8, 8, 8, 8, 8, 8, 8, 8, 8, 8, 8, 8, 8, 8, 8, 8, 8, 8, 8, 8, 8, 8, 8, 8, 8, 8, 8, 8, 8, 8, 8, 8, 8, 8, 8, 8, 8, 8, 8, 8, 8, 8, 8, 8, 8, 8, 8, 8, 8, 8, 8, 8, 8, 8, 8, 8, 8, 8, 8, 8, 8, 8, 8, 8, 8, 8, 8, 8, 8, 8, 8, 8, 8, 8, 8, 8, 8, 8, 8, 8] t21_2) →
        ∀ (t24_2 : Int),
        t24_2 = IntKind.i64.wrap (t18_1 + t23_2) →
        Q (.int .i64 t24_2) H) (
        ∀ (t21_3 : Int),
        t21_3 = IntKind.u8.wrap (t6) →
        (0 : Int) ≤ t21_3 ∧
        (t21_3 : Int) < ((([0, 1, 2, 2, 3, 3, 3, 3, 4, 4, 4, 4, 4, 4, 4, 4, 5, 5, 5, 5, 5, 5, 5, 5, 5, 5, 5, 5, 5, 5, 5, 5, 6, 6, 6, 6, 6, 6, 6, 6, 6, 6, 6, 6, 6, 6, 6, 6, 6, 6, 6, 6, 6, 6, 6, 6, 6, 6, 6, 6, 6, 6, 6, 6, 7, 7, 7, 7, 7, 7, 7, 7, 7, 7, 7, 7, 7, 7, 7, 7, 7, 7, 7, 7, 7, 7, 7, 7, 7, 7, 7, 7, 7, 7, 7, 7, 7, 7, 7, 7, 7, 7, 7, 7, 7, 7, 7, 7, 7, 7, 7, 7, 7, 7, 7, 7, 7, 7, 7, 7, 7, 7, 7, 7, 7, 7, 7, 7, 8, 8, 8, 8, 8, 8, 8, 8, 8, 8, 8, 8, 8, 8, 8, 8, 8, 8, 8, 8, 8, 8, 8, 8, 8, 8, 8, 8, 8, 8, 8, 8, 8, 8, 8, 8, 8, 8, 8, 8, 8, 8, 8, 8, 8, 8, 8, 8, 8, 8, 8, 8, 8, 8, 8, 8, 8, 8, 8, 8, 8, 8, 8, 8, 8, 8, 8, 8, 8, 8, 8, 8, 8, 8, 8, 8, 8, 8, 8, 8, 8, 8, 8, 8, 8, 8, 8, 8, 8, 8, 8, 8, 8, 8, 8, 8, 8, 8, 8, 8, 8, 8, 8, 8, 8, 8, 8, 8, 8, 8, 8, 8, 8, 8, 8, 8, 8, 8, 8, 8, 8, 8, 8, 8, 8, 8, 8, 8] : List UInt8).length : Nat) : Int) ∧
        ∀ (t23_3 : Int),
        t23_3 = IntKind.i64.wrap (byteAt [0, 1, 2, 2, 3, 3, 3, 3, 4, 4, 4, 4, 4, 4, 4, 4, 5, 5, 5, 5, 5, 5, 5, 5, 5, 5, 5, 5, 5, 5, 5, 5, 6, 6, 6, 6, 6, 6, 6, 6, 6, 6, 6, 6, 6, 6, 6, 6, 6, 6, 6, 6, 6, 6, 6, 6, 6, 6, 6, 6, 6, 6, 6, 6, 7, 7, 7, 7, 7, 7, 7, 7, 7, 7, 7, 7, 7, 7, 7, 7, 7, 7, 7, 7, 7, 7, 7, 7, 7, 7, 7, 7, 7, 7, 7, 7, 7, 7, 7, 7, 7, 7, 7, 7, 7, 7, 7, 7, 7, 7, 7, 7, 7, 7, 7, 7, 7, 7, 7, 7, 7, 7, 7, 7, 7, 7, 7, 7, 8, 8, 8, 8, 8, 8, 8, 8, 8, 8, 8, 8, 8, 8, 8, 8, 8, 8, 8, 8, 8, 8, 8, 8, 8, 8, 8, 8, 8, 8, 8, 8, 8, 8, 8, 8, 8, 8, 8, 8, 8, 8, 8, 8, 8, 8, 8, 8, 8, 8, 8, 8, 8, 8, 8, 8, 8, 8, 8, 8, 8, 8, 8, 8, 8, 8, 8, 8, 8, 8, 8, 8, 8, 8, 8, 8, 8, 8, 8, 8, 8, 8, 8, 8, 8, 8, 8, 8, 8, 8, 8, 8, 8, 8, 8, 8, 8, 8, 8, 8, 8, 8, 8, 8, 8, 8, 8, 8, 8, 8, 8, 8, 8, 8, 8, 8, 8, 8, 8, 8, 8, 8, 8, 8, 8, 8, 8, 8] t21_3) →
        ∀ (t24_3 : Int),
        t24_3 = IntKind.i64.wrap (32 + t23_3) →
        Q (.int .i64 t24_3) H))) (
    cond (decide (x0 ≥ 65536)) (
      (0 : Int) ≤ 16 ∧
      ∀ (t10_1 : Int),
      t10_1 = (x0 : Int).fdiv (2 ^ (min (16 : Int).toNat IntKind.u64.bits)) →
      ∀ (t12_1 : Int),
      t12_1 = IntKind.i64.wrap ((0 : Int) + 16) →
      cond (decide (t10_1 ≥ 256)) (
        (0 : Int) ≤ 8 ∧
        ∀ (t16_2 : Int),
        t16_2 = (t10_1 : Int).fdiv (2 ^ (min (8 : Int).toNat IntKind.u64.bits)) →
        ∀ (t18_2 : Int),
        t18_2 = IntKind.i64.wrap (t12_1 + 8) →
        ∀ (t21_4 : Int),
        t21_4 = IntKind.u8.wrap (t16_2) →
        (0 : Int) ≤ t21_4 ∧
        (t21_4 : Int) < ((([0, 1, 2, 2, 3, 3, 3, 3, 4, 4, 4, 4, 4, 4, 4, 4, 5, 5, 5, 5, 5, 5, 5, 5, 5, 5, 5, 5, 5, 5, 5, 5, 6, 6, 6, 6, 6, 6, 6, 6, 6, 6, 6, 6, 6, 6, 6, 6, 6, 6, 6, 6, 6, 6, 6, 6, 6, 6, 6, 6, 6, 6, 6, 6, 7, 7, 7, 7, 7, 7, 7, 7, 7, 7, 7, 7, 7, 7, 7, 7, 7, 7, 7, 7, 7, 7, 7, 7, 7, 7, 7, 7, 7, 7, 7, 7, 7, 7, 7, 7, 7, 7, 7, 7, 7, 7, 7, 7, 7, 7, 7, 7, 7, 7, 7, 7, 7, 7, 7, 7, 7, 7, 7, 7, 7, 7, 7, 7, 8, 8, 8, 8, 8, 8, 8, 8, 8, 8, 8, 8, 8, 8, 8, 8, 8, 8, 8, 8, 8, 8, 8, 8, 8, 8, 8, 8, 8, 8, 8, 8, 8, 8, 8, 8, 8, 8, 8, 8, 8, 8, 8, 8, 8, 8, 8, 8, 8, 8, 8, 8, 8, 8, 8, 8, 8, 8, 8, 8, 8, 8, 8, 8, 8, 8, 8, 8, 8, 8, 8, 8, 8, 8, 8, 8, 8, 8, 8, 8, 8, 8, 8, 8, 8, 8, 8, 8, 8, 8, 8, 8, 8, 8, 8, 8, 8, 8, 8, 8, 8, 8, 8, 8, 8, 8, 8, 8, 8, 8, 8, 8, 8, 8, 8, 8, 8, 8, 8, 8, 8, 8, 8, 8, 8, 8, 8, 8] : List UInt8).length : Nat) : Int) ∧
        ∀ (t23_4 : Int),
        t23_4 = IntKind.i64.wrap (byteAt [0, 1, 2, 2, 3, 3, 3, 3, 4, 4, 4, 4, 4, 4, 4, 4, 5, 5, 5, 5, 5, 5, 5, 5, 5, 5, 5, 5, 5, 5, 5, 5, 6, 6, 6, 6, 6, 6, 6, 6, 6, 6, 6, 6, 6, 6, 6, 6, 6, 6, 6, 6, 6, 6, 6, 6, 6, 6, 6, 6, 6, 6, 6, 6, 7, 7, 7, 7, 7, 7, 7, 7, 7, 7, 7, 7, 7, 7, 7, 7, 7, 7, 7, 7, 7, 7, 7, 7, 7, 7, 7, 7, 7, 7, 7, 7, 7, 7, 7, 7, 7, 7, 7, 7, 7, 7, 7, 7, 7, 7, 7, 7, 7, 7, 7, 7, 7, 7, 7, 7, 7, 7, 7, 7, 7, 7, 7, 7, 8, 8, 8, 8, 8, 8, 8, 8, 8, 8, 8, 8, 8, 8, 8, 8, 8, 8, 8, 8, 8, 8, 8, 8, 8, 8, 8, 8, 8, 8, 8, 8, 8, 8, 8, 8, 8, 8, 8, 8, 8, 8, 8, 8, 8, 8, 8, 8, 8, 8, 8, 8, 8, 8, 8, 8, 8, 8, 8, 8, 8, 8, 8, 8, 8, 8, 8, 8, 8, 8, 8, 8, 8, 8, 8, 8, 8, 8, 8, 8, 8, 8, 8, 8, 8, 8, 8, 8, 8, 8, 8, 8, 8, 8, 8, 8, 8, 8, 8, 8, 8, 8, 8, 8, 8, 8, 8, 8, 8, 8, 8, 8, 8, 8, 8, 8, 8, 8, 8, 8, 8, 8, 8, 8, 8, 8, 8, 8] t21_4) →
        ∀ (t24_4 : Int),
        t24_4 = IntKind.i64.wrap (t18_2 + t23_4) →
        Q (.int .i64 t24_4) H) (
        ∀ (t21_5 : Int),
        t21_5 = IntKind.u8.wrap (t10_1) →
        (0 : Int) ≤ t21_5 ∧
        (t21_5 : Int) < ((([0, 1, 2, 2, 3, 3, 3, 3, 4, 4, 4, 4, 4, 4, 4, 4, 5, 5, 5, 5, 5, 5, 5, 5, 5, 5, 5, 5, 5, 5, 5, 5, 6, 6, 6, 6, 6, 6, 6, 6, 6, 6, 6, 6, 6, 6, 6, 6, 6, 6, 6, 6, 6, 6, 6, 6, 6, 6, 6, 6, 6, 6, 6, 6, 7, 7, 7, 7, 7, 7, 7, 7, 7, 7, 7, 7, 7, 7, 7, 7, 7, 7, 7, 7, 7, 7, 7, 7, 7, 7, 7, 7, 7, 7, 7, 7, 7, 7, 7, 7, 7, 7, 7, 7, 7, 7, 7, 7, 7, 7, 7, 7, 7, 7, 7, 7, 7, 7, 7, 7, 7, 7, 7, 7, 7, 7, 7, 7, 8, 8, 8, 8, 8, 8, 8, 8, 8, 8, 8, 8, 8, 8, 8, 8, 8, 8, 8, 8, 8, 8, 8, 8, 8, 8, 8, 8, 8, 8, 8, 8, 8, 8, 8, 8, 8, 8, 8, 8, 8, 8, 8, 8, 8, 8, 8, 8, 8, 8, 8, 8, 8, 8, 8, 8, 8, 8, 8, 8, 8, 8, 8, 8, 8, 8, 8, 8, 8, 8, 8, 8, 8, 8, 8, 8, 8, 8, 8, 8, 8, 8, 8, 8, 8, 8, 8, 8, 8, 8, 8, 8, 8, 8, 8, 8, 8, 8, 8, 8, 8, 8, 8, 8, 8, 8, 8, 8, 8, 8, 8, 8, 8, 8, 8, 8, 8, 8, 8, 8, 8, 8, 8, 8, 8, 8, 8, 8] : List UInt8).length : Nat) : Int) ∧
        ∀ (t23_5 : Int),
        t23_5 = IntKind.i64.wrap (byteAt [0, 1, 2, 2, 3, 3, 3, 3, 4, 4, 4, 4, 4, 4, 4, 4, 5, 5, 5, 5, 5, 5, 5, 5, 5, 5, 5, 5, 5, 5, 5, 5, 6, 6, 6, 6, 6, 6, 6, 6, 6, 6, 6, 6, 6, 6, 6, 6, 6, 6, 6, 6, 6, 6, 6, 6, 6, 6, 6, 6, 6, 6, 6, 6, 7, 7, 7, 7, 7, 7, 7, 7, 7, 7, 7, 7, 7, 7, 7, 7, 7, 7, 7, 7, 7, 7, 7, 7, 7, 7, 7, 7, 7, 7, 7, 7, 7, 7, 7, 7, 7, 7, 7, 7, 7, 7, 7, 7, 7, 7, 7, 7, 7, 7, 7, 7, 7, 7, 7, 7, 7, 7, 7, 7, 7, 7, 7, 7, 8, 8, 8, 8, 8, 8, 8, 8, 8, 8, 8, 8, 8, 8, 8, 8, 8, 8, 8, 8, 8, 8, 8, 8, 8, 8, 8, 8, 8, 8, 8, 8, 8, 8, 8, 8, 8, 8, 8, 8, 8, 8, 8, 8, 8, 8, 8, 8, 8, 8, 8, 8, 8, 8, 8, 8, 8, 8, 8, 8, 8, 8, 8, 8, 8, 8, 8, 8, 8, 8, 8, 8, 8, 8, 8, 8, 8, 8, 8, 8, 8, 8, 8, 8, 8, 8, 8, 8, 8, 8, 8, 8, 8, 8, 8, 8, 8, 8, 8, 8, 8, 8, 8, 8, 8, 8, 8, 8, 8, 8, 8, 8, 8, 8, 8, 8, 8, 8, 8, 8, 8, 8, 8, 8, 8, 8, 8, 8] t21_5) →
        ∀ (t24_5 : Int),
        t24_5 = IntKind.i64.wrap (t12_1 + t23_5) →
        Q (.int .i64 t24_5) H)) (
      cond (decide (x0 ≥ 256)) (
        (0 : Int) ≤ 8 ∧
        ∀ (t16_3 : Int),
        t16_3 = (x0 : Int).fdiv (2 ^ (min (8 : Int).toNat IntKind.u64.bits)) →
        ∀ (t18_3 : Int),
        t18_3 = IntKind.i64.wrap ((0 : Int) + 8) →
        ∀ (t21_6 : Int),
        t21_6 = IntKind.u8.wrap (t16_3) →
        (0 : Int) ≤ t21_6 ∧
        (t21_6 : Int) < ((([0, 1, 2, 2, 3, 3, 3, 3, 4, 4, 4, 4, 4, 4, 4, 4, 5, 5, 5, 5, 5, 5, 5, 5, 5, 5, 5, 5, 5, 5, 5, 5, 6, 6, 6, 6, 6, 6, 6, 6, 6, 6, 6, 6, 6, 6, 6, 6, 6, 6, 6, 6, 6, 6, 6, 6, 6, 6, 6, 6, 6, 6, 6, 6, 7, 7, 7, 7, 7, 7, 7, 7, 7, 7, 7, 7, 7, 7, 7, 7, 7, 7, 7, 7, 7, 7, 7, 7, 7, 7, 7, 7, 7, 7, 7, 7, 7, 7, 7, 7, 7, 7, 7, 7, 7, 7, 7, 7, 7, 7, 7, 7, 7, 7, 7, 7, 7, 7, 7, 7, 7, 7, 7, 7, 7, 7, 7, 7, 8, 8, 8, 8, 8, 8, 8, 8, 8, 8, 8, 8, 8, 8, 8, 8, 8, 8, 8, 8, 8, 8, 8, 8, 8, 8, 8, 8, 8, 8, 8, 8, 8, 8, 8, 8, 8, 8, 8, 8, 8, 8, 8, 8, 8, 8, 8, 8, 8, 8, 8, 8, 8, 8, 8, 8, 8, 8, 8, 8, 8, 8, 8, 8, 8, 8, 8, 8, 8, 8, 8, 8, 8, 8, 8, 8, 8, 8, 8, 8, 8, 8, 8, 8, 8, 8, 8, 8, 8, 8, 8, 8, 8, 8, 8, 8, 8, 8, 8, 8, 8, 8, 8, 8, 8, 8, 8, 8, 8, 8, 8, 8, 8, 8, 8, 8, 8, 8, 8, 8, 8, 8, 8, 8, 8, 8, 8, 8] : List UInt8).length : Nat) : Int) ∧
        ∀ (t23_6 : Int),
        t23_6 = IntKind.i64.wrap (byteAt [0, 1, 2, 2, 3, 3, 3, 3, 4, 4, 4, 4, 4, 4, 4, 4, 5, 5, 5, 5, 5, 5, 5, 5, 5, 5, 5, 5, 5, 5, 5, 5, 6, 6, 6, 6, 6, 6, 6, 6, 6, 6, 6, 6, 6, 6, 6, 6, 6, 6, 6, 6, 6, 6, 6, 6, 6, 6, 6, 6, 6, 6, 6, 6, 7, 7, 7, 7, 7, 7, 7, 7, 7, 7, 7, 7, 7, 7, 7, 7, 7, 7, 7, 7, 7, 7, 7, 7, 7, 7, 7, 7, 7, 7, 7, 7, 7, 7, 7, 7, 7, 7, 7, 7, 7, 7, 7, 7, 7, 7, 7, 7, 7, 7, 7, 7, 7, 7, 7, 7, 7, 7, 7, 7, 7, 7, 7, 7, 8, 8, 8, 8, 8, 8, 8, 8, 8, 8, 8, 8, 8, 8, 8, 8, 8, 8, 8, 8, 8, 8, 8, 8, 8, 8, 8, 8, 8, 8, 8, 8, 8, 8, 8, 8, 8, 8, 8, 8, 8, 8, 8, 8, 8, 8, 8, 8, 8, 8, 8, 8, 8, 8, 8, 8, 8, 8, 8, 8, 8, 8, 8, 8, 8, 8, 8, 8, 8, 8, 8, 8, 8, 8, 8, 8, 8, 8, 8, 8, 8, 8, 8, 8, 8, 8, 8, 8, 8, 8, 8, 8, 8, 8, 8, 8, 8, 8, 8, 8, 8, 8, 8, 8, 8, 8, 8, 8, 8, 8, 8, 8, 8, 8, 8, 8, 8, 8, 8, 8, 8, 8, 8, 8, 8, 8, 8, 8] t21_6) →
        ∀ (t24_6 : Int),
        t24_6 = IntKind.i64.wrap (t18_3 + t23_6) →
        Q (.int .i64 t24_6) H) (
        ∀ (t21_7 : Int),
        t21_7 = IntKind.u8.wrap (x0) →
        (0 : Int) ≤ t21_7 ∧
        (t21_7 : Int) < ((([0, 1, 2, 2, 3, 3, 3, 3, 4, 4, 4, 4, 4, 4, 4, 4, 5, 5, 5, 5, 5, 5, 5, 5, 5, 5, 5, 5, 5, 5, 5, 5, 6, 6, 6, 6, 6, 6, 6, 6, 6, 6, 6, 6, 6, 6, 6, 6, 6, 6, 6, 6, 6, 6, 6, 6, 6, 6, 6, 6, 6, 6, 6, 6, 7, 7, 7, 7, 7, 7, 7, 7, 7, 7, 7, 7, 7, 7, 7, 7, 7, 7, 7, 7, 7, 7, 7, 7, 7, 7, 7, 7, 7, 7, 7, 7, 7, 7, 7, 7, 7, 7, 7, 7, 7, 7, 7, 7, 7, 7, 7, 7, 7, 7, 7, 7, 7, 7, 7, 7, 7, 7, 7, 7, 7, 7, 7, 7, 8, 8, 8, 8, 8, 8, 8, 8, 8, 8, 8, 8, 8, 8, 8, 8, 8, 8, 8, 8, 8, 8, 8, 8, 8, 8, 8, 8, 8, 8, 8, 8, 8, 8, 8, 8, 8, 8, 8, 8, 8, 8, 8, 8, 8, 8, 8, 8, 8, 8, 8, 8, 8, 8, 8, 8, 8, 8, 8, 8, 8, 8, 8, 8, 8, 8, 8, 8, 8, 8, 8, 8, 8, 8, 8, 8, 8, 8, 8, 8, 8, 8, 8, 8, 8, 8, 8, 8, 8, 8, 8, 8, 8, 8, 8, 8, 8, 8, 8, 8, 8, 8, 8, 8, 8, 8, 8, 8, 8, 8, 8, 8, 8, 8, 8, 8, 8, 8, 8, 8, 8, 8, 8, 8, 8, 8, 8, 8] : List UInt8).length : Nat) : Int) ∧
        ∀ (t23_7 : Int),
        t23_7 = IntKind.i64.wrap (byteAt [0, 1, 2, 2, 3, 3, 3, 3, 4, 4, 4, 4, 4, 4, 4, 4, 5, 5, 5, 5, 5, 5, 5, 5, 5, 5, 5, 5, 5, 5, 5, 5, 6, 6, 6, 6, 6, 6, 6, 6, 6, 6, 6, 6, 6, 6, 6, 6, 6, 6, 6, 6, 6, 6, 6, 6, 6, 6, 6, 6, 6, 6, 6, 6, 7, 7, 7, 7, 7, 7, 7, 7, 7, 7, 7, 7, 7, 7, 7, 7, 7, 7, 7, 7, 7, 7, 7, 7, 7, 7, 7, 7, 7, 7, 7, 7, 7, 7, 7, 7, 7, 7, 7, 7, 7, 7, 7, 7, 7, 7, 7, 7, 7, 7, 7, 7, 7, 7, 7, 7, 7, 7, 7, 7, 7, 7, 7, 7, 8, 8, 8, 8, 8, 8, 8, 8, 8, 8, 8, 8, 8, 8, 8, 8, 8, 8, 8, 8, 8, 8, 8, 8, 8, 8, 8, 8, 8, 8, 8, 8, 8, 8, 8, 8, 8, 8, 8, 8, 8, 8, 8, 8, 8, 8, 8, 8, 8, 8, 8, 8, 8, 8, 8, 8, 8, 8, 8, 8, 8, 8, 8, 8, 8, 8, 8, 8, 8, 8, 8, 8, 8, 8, 8, 8, 8, 8, 8, 8, 8, 8, 8, 8, 8, 8, 8, 8, 8, 8, 8, 8, 8, 8, 8, 8, 8, 8, 8, 8, 8, 8, 8, 8, 8, 8, 8, 8, 8, 8, 8, 8, 8, 8, 8, 8, 8, 8, 8, 8, 8, 8, 8, 8, 8, 8, 8, 8] t21_7) →
        ∀ (t24_7 : Int),
        t24_7 = IntKind.i64.wrap (0 + t23_7) →
        Q (.int .i64 t24_7) H)))
set_option maxRecDepth 100000 in
theorem fw_math_bits_Len64 {x0 : Int} {H : AH} {Q : Value → AH → Prop} (h : VC_math_bits_Len64 x0 H Q) : FW Ee F_math_bits_Len64 [.int .u64 x0] H Q := by
  have e : VC_math_bits_Len64 x0 H Q = wpF Ee ⟨[], []⟩ F_math_bits_Len64 [.int .u64 x0] H Q := by kernel_rfl
  letI : Sy := sy0
  exact wpF_sound (Eq.mp e h)
/-- math/bits.Len -/
def VC_math_bits_Len (x0 : Int) (H : AH) (Q : Value → AH → Prop) : Prop :=
  FW Ee F_math_bits_Len64 [.int .u64 x0] H fun v H1 =>
    ∃ (r7 : Int),
    v = .int .i64 r7 ∧
    Q (.int .i64 r7) H1
set_option maxRecDepth 100000 in
theorem fw_math_bits_Len {x0 : Int} {H : AH} {Q : Value → AH → Prop} (h : VC_math_bits_Len x0 H Q) : FW Ee F_math_bits_Len [.int .u64 x0] H Q := by
  have e : VC_math_bits_Len x0 H Q = wpF Ee ⟨[], []⟩ F_math_bits_Len [.int .u64 x0] H Q := by kernel_rfl
  letI : Sy := sy0
  exact wpF_sound (Eq.mp e h)
/-- slices.nextPowerOfTwo -/
def VC_slices_nextPowerOfTwo (length0 : Int) (H : AH) (Q : Value → AH → Prop) : Prop :=
  ∀ (t4 : Int),
  t4 = IntKind.u64.wrap (length0) →
  FW Ee F_math_bits_Len [.int .u64 t4] H fun v H1 =>
    ∃ (r5 : Int),
    v = .int .i64 r5 ∧
    (0 : Int) ≤ r5 ∧
    ∀ (t6 : Int),
    t6 = IntKind.u64.wrap ((1 : Int) * 2 ^ (min (r5 : Int).toNat IntKind.u64.bits)) →
    Q (.int .u64 t6) H1
set_option maxRecDepth 100000 in
theorem fw_slices_nextPowerOfTwo {length0 : Int} {H : AH} {Q : Value → AH → Prop} (h : VC_slices_nextPowerOfTwo length0 H Q) : FW Ee F_slices_nextPowerOfTwo [.int .i64 length0] H Q := by
  have e : VC_slices_nextPowerOfTwo length0 H Q = wpF Ee ⟨[], []⟩ F_slices_nextPowerOfTwo [.int .i64 length0] H Q := by kernel_rfl
  letI : Sy := sy0
  exact wpF_sound (Eq.mp e h)
/-- (*slices.xorshift).Next -/
def VC_slices_xorshift_Next (r0b : Nat) (H : AH) (Q : Value → AH → Prop) : Prop :=
  ∃ (t5 : Int),
  H.cell r0b 0 = some (.int .u64 t5) ∧
  ∃ (t8 : Int),
  H.cell r0b 0 = some (.int .u64 t8) ∧
  (0 : Int) ≤ 13 ∧
  ∀ (t9 : Int),
  t9 = IntKind.u64.wrap ((t8 : Int) * 2 ^ (min (13 : Int).toNat IntKind.u64.bits)) →
  ∀ (t10 : Int),
  t10 = ixor .u64 t5 t9 →
  ∃ (H1 : AH),
  storeCellsv H r0b 0 [.int .u64 t10] = some H1 ∧
  ∃ (t14 : Int),
  H1.cell r0b 0 = some (.int .u64 t14) ∧
  ∃ (t17 : Int),
  H1.cell r0b 0 = some (.int .u64 t17) ∧
  (0 : Int) ≤ 7 ∧
  ∀ (t18 : Int),
  t18 = (t17 : Int).fdiv (2 ^ (min (7 : Int).toNat IntKind.u64.bits)) →
  ∀ (t19 : Int),
  t19 = ixor .u64 t14 t18 →
  ∃ (H2 : AH),
  storeCellsv H1 r0b 0 [.int .u64 t19] = some H2 ∧
  ∃ (t23 : Int),
  H2.cell r0b 0 = some (.int .u64 t23) ∧
  ∃ (t26 : Int),
  H2.cell r0b 0 = some (.int .u64 t26) ∧
  (0 : Int) ≤ 17 ∧
  ∀ (t27 : Int),
  t27 = IntKind.u64.wrap ((t26 : Int) * 2 ^ (min (17 : Int).toNat IntKind.u64.bits)) →
  ∀ (t28 : Int),
  t28 = ixor .u64 t23 t27 →
  ∃ (H3 : AH),
  storeCellsv H2 r0b 0 [.int .u64 t28] = some H3 ∧
  ∃ (t32 : Int),
  H3.cell r0b 0 = some (.int .u64 t32) ∧
  Q (.int .u64 t32) H3
set_option maxRecDepth 100000 in
theorem fw_slices_xorshift_Next {r0b : Nat} {H : AH} {Q : Value → AH → Prop} (h : VC_slices_xorshift_Next r0b H Q) : FW Ee F_slices_xorshift_Next [.pointer (some ⟨r0b, 0, none⟩)] H Q := by
  have e : VC_slices_xorshift_Next r0b H Q = wpF Ee ⟨[], []⟩ F_slices_xorshift_Next [.pointer (some ⟨r0b, 0, none⟩)] H Q := by kernel_rfl
  letI : Sy := sy0
  exact wpF_sound (Eq.mp e h)
/-- slices.insertionSortOrdered[int64] -/
def VC_slices_insertionSortOrdered_int64 (data0a : Option Addr) (data0l : Nat) (data0c : Nat) (a1 : Int) (b2 : Int) (H : AH) (Q : Value → AH → Prop) : Prop :=
  ∀ (t9 : Int),
  t9 = IntKind.i64.wrap (a1 + 1) →
  ∃ (Inv : Nat → Int → AH → Prop),
  (
    ∃ (n_1 : Nat),
    Inv n_1 t9 H) ∧
  ∀ (n : Nat),
  ∀ (i6 : Int) (H1 : AH),
  Inv n i6 H1 →
  cond (decide (i6 < b2)) (
    ∃ (Inv_1 : Nat → Int → AH → Prop),
    (
      ∃ (n_3 : Nat),
      Inv_1 n_3 i6 H1) ∧
    ∀ (n_2 : Nat),
    ∀ (j7 : Int) (H2 : AH),
    Inv_1 n_2 j7 H2 →
    cond (decide (j7 > a1)) (
      grd data0a.isSome (
        (0 : Int) ≤ j7 ∧
        (j7 : Int) < ((data0l : Nat) : Int) ∧
        ∃ (t23 : Int),
        H2.cell ((adr data0a).block) ((adr data0a).off + (j7 : Int).toNat * 1) = some (.int .i64 t23) ∧
        ∀ (t26 : Int),
        t26 = IntKind.i64.wrap (j7 - 1) →
        grd data0a.isSome (
          (0 : Int) ≤ t26 ∧
          (t26 : Int) < ((data0l : Nat) : Int) ∧
          ∃ (t28 : Int),
          H2.cell ((adr data0a).block) ((adr data0a).off + (t26 : Int).toNat * 1) = some (.int .i64 t28) ∧
          FW Ee F_cmp_Less_int64 [.int .i64 t23, .int .i64 t28] H2 fun v H3 =>
            ∃ (r29 : Bool),
            v = .bool r29 ∧
            cond (r29) (
              ∀ (t37 : Int),
              t37 = IntKind.i64.wrap (j7 - 1) →
              ∀ (t40 : Int),
              t40 = IntKind.i64.wrap (j7 - 1) →
              grd data0a.isSome (
                (0 : Int) ≤ t40 ∧
                (t40 : Int) < ((data0l : Nat) : Int) ∧
                ∃ (t42 : Int),
                H3.cell ((adr data0a).block) ((adr data0a).off + (t40 : Int).toNat * 1) = some (.int .i64 t42) ∧
                grd data0a.isSome (
                  (0 : Int) ≤ j7 ∧
                  (j7 : Int) < ((data0l : Nat) : Int) ∧
                  ∃ (t46 : Int),
                  H3.cell ((adr data0a).block) ((adr data0a).off + (j7 : Int).toNat * 1) = some (.int .i64 t46) ∧
                  grd data0a.isSome (
                    (0 : Int) ≤ j7 ∧
                    (j7 : Int) < ((data0l : Nat) : Int) ∧
                    ∃ (H4 : AH),
                    storeCellsv H3 ((adr data0a).block) ((adr data0a).off + (j7 : Int).toNat * 1) [.int .i64 t42] = some H4 ∧
                    grd data0a.isSome (
                      (0 : Int) ≤ t37 ∧
                      (t37 : Int) < ((data0l : Nat) : Int) ∧
                      ∃ (H5 : AH),
                      storeCellsv H4 ((adr data0a).block) ((adr data0a).off + (t37 : Int).toNat * 1) [.int .i64 t46] = some H5 ∧
                      ∀ (t32 : Int),
                      t32 = IntKind.i64.wrap (j7 - 1) →
                      ∃ (m_1 : Nat),
                      m_1 < n_2 ∧
                      Inv_1 m_1 t32 H5))))) (
              ∀ (t14 : Int),
              t14 = IntKind.i64.wrap (i6 + 1) →
              ∃ (m : Nat),
              m < n ∧
              Inv m t14 H3)))) (
      ∀ (t14_1 : Int),
      t14_1 = IntKind.i64.wrap (i6 + 1) →
      ∃ (m : Nat),
      m < n ∧
      Inv m t14_1 H2)) (
    Q (.tuple ⟨[]⟩) H1)
set_option maxRecDepth 100000 in
theorem fw_slices_insertionSortOrdered_int64 {data0a : Option Addr} {data0l : Nat} {data0c : Nat} {a1 : Int} {b2 : Int} {H : AH} {Q : Value → AH → Prop} (h : VC_slices_insertionSortOrdered_int64 data0a data0l data0c a1 b2 H Q) : FW Ee F_slices_insertionSortOrdered_int64 [.slice data0a data0l data0c, .int .i64 a1, .int .i64 b2] H Q := by
  have e : VC_slices_insertionSortOrdered_int64 data0a data0l data0c a1 b2 H Q = wpF Ee ⟨[], []⟩ F_slices_insertionSortOrdered_int64 [.slice data0a data0l data0c, .int .i64 a1, .int .i64 b2] H Q := by kernel_rfl
  letI : Sy := sy0
  exact wpF_sound (Eq.mp e h)
/-- slices.siftDownOrdered[int64] -/
def VC_slices_siftDownOrdered_int64 (data0a : Option Addr) (data0l : Nat) (data0c : Nat) (lo1 : Int) (hi2 : Int) (first3 : Int) (H : AH) (Q : Value → AH → Prop) : Prop :=
  ∃ (Inv : Nat → Int → AH → Prop),
  (
    ∃ (n_1 : Nat),
    Inv n_1 lo1 H) ∧
  ∀ (n : Nat),
  ∀ (root8 : Int) (H1 : AH),
  Inv n root8 H1 →
  ∀ (t12 : Int),
  t12 = IntKind.i64.wrap (2 * root8) →
  ∀ (t13 : Int),
  t13 = IntKind.i64.wrap (t12 + 1) →
  cond (decide (t13 ≥ hi2)) (
    Q (.tuple ⟨[]⟩) H1) (
    ∀ (t18 : Int),
    t18 = IntKind.i64.wrap (t13 + 1) →
    cond (decide (t18 < hi2)) (
      ∀ (t25 : Int),
      t25 = IntKind.i64.wrap (first3 + t13) →
      grd data0a.isSome (
        (0 : Int) ≤ t25 ∧
        (t25 : Int) < ((data0l : Nat) : Int) ∧
        ∃ (t27 : Int),
        H1.cell ((adr data0a).block) ((adr data0a).off + (t25 : Int).toNat * 1) = some (.int .i64 t27) ∧
        ∀ (t31 : Int),
        t31 = IntKind.i64.wrap (first3 + t13) →
        ∀ (t32 : Int),
        t32 = IntKind.i64.wrap (t31 + 1) →
        grd data0a.isSome (
          (0 : Int) ≤ t32 ∧
          (t32 : Int) < ((data0l : Nat) : Int) ∧
          ∃ (t34 : Int),
          H1.cell ((adr data0a).block) ((adr data0a).off + (t32 : Int).toNat * 1) = some (.int .i64 t34) ∧
          FW Ee F_cmp_Less_int64 [.int .i64 t27, .int .i64 t34] H1 fun v H2 =>
            ∃ (r35 : Bool),
            v = .bool r35 ∧
            ∃ (J_1 : Int → AH → Prop),
            (
              cond (r35) (
                ∀ (t38 : Int),
                t38 = IntKind.i64.wrap (t13 + 1) →
                J_1 t38 H2) (
                J_1 t13 H2)) ∧
            ∀ (child9 : Int) (H3 : AH),
            J_1 child9 H3 →
            ∀ (t42 : Int),
            t42 = IntKind.i64.wrap (first3 + root8) →
            grd data0a.isSome (
              (0 : Int) ≤ t42 ∧
              (t42 : Int) < ((data0l : Nat) : Int) ∧
              ∃ (t44 : Int),
              H3.cell ((adr data0a).block) ((adr data0a).off + (t42 : Int).toNat * 1) = some (.int .i64 t44) ∧
              ∀ (t48 : Int),
              t48 = IntKind.i64.wrap (first3 + child9) →
              grd data0a.isSome (
                (0 : Int) ≤ t48 ∧
                (t48 : Int) < ((data0l : Nat) : Int) ∧
                ∃ (t50 : Int),
                H3.cell ((adr data0a).block) ((adr data0a).off + (t48 : Int).toNat * 1) = some (.int .i64 t50) ∧
                FW Ee F_cmp_Less_int64 [.int .i64 t44, .int .i64 t50] H3 fun v_1 H4 =>
                  ∃ (r51 : Bool),
                  v_1 = .bool r51 ∧
                  cond (!r51) (
                    Q (.tuple ⟨[]⟩) H4) (
                    ∀ (t56 : Int),
                    t56 = IntKind.i64.wrap (first3 + root8) →
                    ∀ (t60 : Int),
                    t60 = IntKind.i64.wrap (first3 + child9) →
                    ∀ (t64 : Int),
                    t64 = IntKind.i64.wrap (first3 + child9) →
                    grd data0a.isSome (
                      (0 : Int) ≤ t64 ∧
                      (t64 : Int) < ((data0l : Nat) : Int) ∧
                      ∃ (t66 : Int),
                      H4.cell ((adr data0a).block) ((adr data0a).off + (t64 : Int).toNat * 1) = some (.int .i64 t66) ∧
                      ∀ (t70 : Int),
                      t70 = IntKind.i64.wrap (first3 + root8) →
                      grd data0a.isSome (
                        (0 : Int) ≤ t70 ∧
                        (t70 : Int) < ((data0l : Nat) : Int) ∧
                        ∃ (t72 : Int),
                        H4.cell ((adr data0a).block) ((adr data0a).off + (t70 : Int).toNat * 1) = some (.int .i64 t72) ∧
                        grd data0a.isSome (
                          (0 : Int) ≤ t56 ∧
                          (t56 : Int) < ((data0l : Nat) : Int) ∧
                          ∃ (H5 : AH),
                          storeCellsv H4 ((adr data0a).block) ((adr data0a).off + (t56 : Int).toNat * 1) [.int .i64 t66] = some H5 ∧
                          grd data0a.isSome (
                            (0 : Int) ≤ t60 ∧
                            (t60 : Int) < ((data0l : Nat) : Int) ∧
                            ∃ (H6 : AH),
                            storeCellsv H5 ((adr data0a).block) ((adr data0a).off + (t60 : Int).toNat * 1) [.int .i64 t72] = some H6 ∧
                            ∃ (m : Nat),
                            m < n ∧
                            Inv m child9 H6)))))))))) (
      ∃ (J_2 : Int → AH → Prop),
      J_2 t13 H1 ∧
      ∀ (child9_1 : Int) (H7 : AH),
      J_2 child9_1 H7 →
      ∀ (t42_1 : Int),
      t42_1 = IntKind.i64.wrap (first3 + root8) →
      grd data0a.isSome (
        (0 : Int) ≤ t42_1 ∧
        (t42_1 : Int) < ((data0l : Nat) : Int) ∧
        ∃ (t44_1 : Int),
        H7.cell ((adr data0a).block) ((adr data0a).off + (t42_1 : Int).toNat * 1) = some (.int .i64 t44_1) ∧
        ∀ (t48_1 : Int),
        t48_1 = IntKind.i64.wrap (first3 + child9_1) →
        grd data0a.isSome (
          (0 : Int) ≤ t48_1 ∧
          (t48_1 : Int) < ((data0l : Nat) : Int) ∧
          ∃ (t50_1 : Int),
          H7.cell ((adr data0a).block) ((adr data0a).off + (t48_1 : Int).toNat * 1) = some (.int .i64 t50_1) ∧
          FW Ee F_cmp_Less_int64 [.int .i64 t44_1, .int .i64 t50_1] H7 fun v_2 H8 =>
            ∃ (r51_1 : Bool),
            v_2 = .bool r51_1 ∧
            cond (!r51_1) (
              Q (.tuple ⟨[]⟩) H8) (
              ∀ (t56_1 : Int),
              t56_1 = IntKind.i64.wrap (first3 + root8) →
              ∀ (t60_1 : Int),
              t60_1 = IntKind.i64.wrap (first3 + child9_1) →
              ∀ (t64_1 : Int),
              t64_1 = IntKind.i64.wrap (first3 + child9_1) →
              grd data0a.isSome (
                (0 : Int) ≤ t64_1 ∧
                (t64_1 : Int) < ((data0l : Nat) : Int) ∧
                ∃ (t66_1 : Int),
                H8.cell ((adr data0a).block) ((adr data0a).off + (t64_1 : Int).toNat * 1) = some (.int .i64 t66_1) ∧
                ∀ (t70_1 : Int),
                t70_1 = IntKind.i64.wrap (first3 + root8) →
                grd data0a.isSome (
                  (0 : Int) ≤ t70_1 ∧
                  (t70_1 : Int) < ((data0l : Nat) : Int) ∧
                  ∃ (t72_1 : Int),
                  H8.cell ((adr data0a).block) ((adr data0a).off + (t70_1 : Int).toNat * 1) = some (.int .i64 t72_1) ∧
                  grd data0a.isSome (
                    (0 : Int) ≤ t56_1 ∧
                    (t56_1 : Int) < ((data0l : Nat) : Int) ∧
                    ∃ (H9 : AH),
                    storeCellsv H8 ((adr data0a).block) ((adr data0a).off + (t56_1 : Int).toNat * 1) [.int .i64 t66_1] = some H9 ∧
                    grd data0a.isSome (
                      (0 : Int) ≤ t60_1 ∧
                      (t60_1 : Int) < ((data0l : Nat) : Int) ∧
                      ∃ (H10 : AH),
                      storeCellsv H9 ((adr data0a).block) ((adr data0a).off + (t60_1 : Int).toNat * 1) [.int .i64 t72_1] = some H10 ∧
                      ∃ (m : Nat),
                      m < n ∧
                      Inv m child9_1 H10)))))))))
set_option maxRecDepth 100000 in
theorem fw_slices_siftDownOrdered_int64 {data0a : Option Addr} {data0l : Nat} {data0c : Nat} {lo1 : Int} {hi2 : Int} {first3 : Int} {H : AH} {Q : Value → AH → Prop} (h : VC_slices_siftDownOrdered_int64 data0a data0l data0c lo1 hi2 first3 H Q) : FW Ee F_slices_siftDownOrdered_int64 [.slice data0a data0l data0c, .int .i64 lo1, .int .i64 hi2, .int .i64 first3] H Q := by
  have e : VC_slices_siftDownOrdered_int64 data0a data0l data0c lo1 hi2 first3 H Q = wpF Ee ⟨[], [36]⟩ F_slices_siftDownOrdered_int64 [.slice data0a data0l data0c, .int .i64 lo1, .int .i64 hi2, .int .i64 first3] H Q := by kernel_rfl
  letI : Sy := sy0
  exact wpF_sound (Eq.mp e h)
/-- slices.heapSortOrdered[int64] -/
def VC_slices_heapSortOrdered_int64 (data0a : Option Addr) (data0l : Nat) (data0c : Nat) (a1 : Int) (b2 : Int) (H : AH) (Q : Value → AH → Prop) : Prop :=
  ∀ (t14 : Int),
  t14 = IntKind.i64.wrap (b2 - a1) →
  ∀ (t16 : Int),
  t16 = IntKind.i64.wrap (t14 - 1) →
  (2 : Int) ≠ 0 ∧
  ∀ (t17 : Int),
  t17 = IntKind.i64.wrap ((t16 : Int).tdiv 2) →
  ∃ (Inv : Nat → Int → AH → Prop),
  (
    ∃ (n_1 : Nat),
    Inv n_1 t17 H) ∧
  ∀ (n : Nat),
  ∀ (i9 : Int) (H1 : AH),
  Inv n i9 H1 →
  cond (decide (i9 ≥ 0)) (
    FW Ee F_slices_siftDownOrdered_int64 [.slice data0a data0l data0c, .int .i64 i9, .int .i64 t14, .int .i64 a1] H1 fun v H2 =>
      v = .tuple ⟨[]⟩ ∧
      ∀ (t21 : Int),
      t21 = IntKind.i64.wrap (i9 - 1) →
      ∃ (m : Nat),
      m < n ∧
      Inv m t21 H2) (
    ∀ (t28 : Int),
    t28 = IntKind.i64.wrap (t14 - 1) →
    ∃ (Inv_1 : Nat → Int → AH → Prop),
    (
      ∃ (n_3 : Nat),
      Inv_1 n_3 t28 H1) ∧
    ∀ (n_2 : Nat),
    ∀ (i10 : Int) (H3 : AH),
    Inv_1 n_2 i10 H3 →
    cond (decide (i10 ≥ 0)) (
      ∀ (t38 : Int),
      t38 = IntKind.i64.wrap (a1 + i10) →
      ∀ (t42 : Int),
      t42 = IntKind.i64.wrap (a1 + i10) →
      grd data0a.isSome (
        (0 : Int) ≤ t42 ∧
        (t42 : Int) < ((data0l : Nat) : Int) ∧
        ∃ (t44 : Int),
        H3.cell ((adr data0a).block) ((adr data0a).off + (t42 : Int).toNat * 1) = some (.int .i64 t44) ∧
        grd data0a.isSome (
          (0 : Int) ≤ a1 ∧
          (a1 : Int) < ((data0l : Nat) : Int) ∧
          ∃ (t48 : Int),
          H3.cell ((adr data0a).block) ((adr data0a).off + (a1 : Int).toNat * 1) = some (.int .i64 t48) ∧
          grd data0a.isSome (
            (0 : Int) ≤ a1 ∧
            (a1 : Int) < ((data0l : Nat) : Int) ∧
            ∃ (H4 : AH),
            storeCellsv H3 ((adr data0a).block) ((adr data0a).off + (a1 : Int).toNat * 1) [.int .i64 t44] = some H4 ∧
            grd data0a.isSome (
              (0 : Int) ≤ t38 ∧
              (t38 : Int) < ((data0l : Nat) : Int) ∧
              ∃ (H5 : AH),
              storeCellsv H4 ((adr data0a).block) ((adr data0a).off + (t38 : Int).toNat * 1) [.int .i64 t48] = some H5 ∧
              FW Ee F_slices_siftDownOrdered_int64 [.slice data0a data0l data0c, .int .i64 0, .int .i64 i10, .int .i64 a1] H5 fun v_1 H6 =>
                v_1 = .tuple ⟨[]⟩ ∧
                ∀ (t32 : Int),
                t32 = IntKind.i64.wrap (i10 - 1) →
                ∃ (m_1 : Nat),
                m_1 < n_2 ∧
                Inv_1 m_1 t32 H6))))) (
      Q (.tuple ⟨[]⟩) H3))
set_option maxRecDepth 100000 in
theorem fw_slices_heapSortOrdered_int64 {data0a : Option Addr} {data0l : Nat} {data0c : Nat} {a1 : Int} {b2 : Int} {H : AH} {Q : Value → AH → Prop} (h : VC_slices_heapSortOrdered_int64 data0a data0l data0c a1 b2 H Q) : FW Ee F_slices_heapSortOrdered_int64 [.slice data0a data0l data0c, .int .i64 a1, .int .i64 b2] H Q := by
  have e : VC_slices_heapSortOrdered_int64 data0a data0l data0c a1 b2 H Q = wpF Ee ⟨[], []⟩ F_slices_heapSortOrdered_int64 [.slice data0a data0l data0c, .int .i64 a1, .int .i64 b2] H Q := by kernel_rfl
  letI : Sy := sy0
  exact wpF_sound (Eq.mp e h)
/-- slices.breakPatternsOrdered[int64] -/
def VC_slices_breakPatternsOrdered_int64 (data0a : Option Addr) (data0l : Nat) (data0c : Nat) (a1 : Int) (b2 : Int) (H : AH) (Q : Value → AH → Prop) : Prop :=
  ∀ (t13 : Int),
  t13 = IntKind.i64.wrap (b2 - a1) →
  cond (decide (t13 ≥ 8)) (
    ∀ (t17 : Int),
    t17 = IntKind.u64.wrap (t13) →
    ∀ (H1 : AH),
    H1 = H.new (.cells [.int .u64 0] 0) →
    ∃ (H2 : AH),
    storeCellsv H1 H.next 0 [.int .u64 t17] = some H2 ∧
    FW Ee F_slices_nextPowerOfTwo [.int .i64 t13] H2 fun v H3 =>
      ∃ (r19 : Int),
      v = .int .u64 r19 ∧
      (4 : Int) ≠ 0 ∧
      ∀ (t22 : Int),
      t22 = IntKind.i64.wrap ((t13 : Int).tdiv 4) →
      ∀ (t23 : Int),
      t23 = IntKind.i64.wrap (t22 * 2) →
      ∀ (t24 : Int),
      t24 = IntKind.i64.wrap (a1 + t23) →
      ∀ (t25 : Int),
      t25 = IntKind.i64.wrap (t24 - 1) →
      ∃ (Inv : Nat → Int → AH → Prop),
      (
        ∃ (n_1 : Nat),
        Inv n_1 t25 H3) ∧
      ∀ (n : Nat),
      ∀ (idx9 : Int) (H4 : AH),
      Inv n idx9 H4 →
      (4 : Int) ≠ 0 ∧
      ∀ (t29 : Int),
      t29 = IntKind.i64.wrap ((t13 : Int).tdiv 4) →
      ∀ (t30 : Int),
      t30 = IntKind.i64.wrap (t29 * 2) →
      ∀ (t31 : Int),
      t31 = IntKind.i64.wrap (a1 + t30) →
      ∀ (t32 : Int),
      t32 = IntKind.i64.wrap (t31 + 1) →
      cond (decide (idx9 ≤ t32)) (
        FW Ee F_slices_xorshift_Next [.pointer (some ⟨H.next, 0, none⟩)] H4 fun v_1 H5 =>
          ∃ (r36 : Int),
          v_1 = .int .u64 r36 ∧
          ∀ (t38 : Int),
          t38 = IntKind.u64.wrap (r19 - 1) →
          ∀ (t39 : Int),
          t39 = iand .u64 r36 t38 →
          ∀ (t40 : Int),
          t40 = IntKind.i64.wrap (t39) →
          ∃ (J_1 : Int → AH → Prop),
          (
            cond (decide (t40 ≥ t13)) (
              ∀ (t46 : Int),
              t46 = IntKind.i64.wrap (t40 - t13) →
              J_1 t46 H5) (
              J_1 t40 H5)) ∧
          ∀ (other10 : Int) (H6 : AH),
          J_1 other10 H6 →
          ∀ (t52 : Int),
          t52 = IntKind.i64.wrap (a1 + other10) →
          ∀ (t56 : Int),
          t56 = IntKind.i64.wrap (a1 + other10) →
          grd data0a.isSome (
            (0 : Int) ≤ t56 ∧
            (t56 : Int) < ((data0l : Nat) : Int) ∧
            ∃ (t58 : Int),
            H6.cell ((adr data0a).block) ((adr data0a).off + (t56 : Int).toNat * 1) = some (.int .i64 t58) ∧
            grd data0a.isSome (
              (0 : Int) ≤ idx9 ∧
              (idx9 : Int) < ((data0l : Nat) : Int) ∧
              ∃ (t62 : Int),
              H6.cell ((adr data0a).block) ((adr data0a).off + (idx9 : Int).toNat * 1) = some (.int .i64 t62) ∧
              grd data0a.isSome (
                (0 : Int) ≤ idx9 ∧
                (idx9 : Int) < ((data0l : Nat) : Int) ∧
                ∃ (H7 : AH),
                storeCellsv H6 ((adr data0a).block) ((adr data0a).off + (idx9 : Int).toNat * 1) [.int .i64 t58] = some H7 ∧
                grd data0a.isSome (
                  (0 : Int) ≤ t52 ∧
                  (t52 : Int) < ((data0l : Nat) : Int) ∧
                  ∃ (H8 : AH),
                  storeCellsv H7 ((adr data0a).block) ((adr data0a).off + (t52 : Int).toNat * 1) [.int .i64 t62] = some H8 ∧
                  ∀ (t35 : Int),
                  t35 = IntKind.i64.wrap (idx9 + 1) →
                  ∃ (m : Nat),
                  m < n ∧
                  Inv m t35 H8))))) (
        Q (.tuple ⟨[]⟩) H4)) (
    Q (.tuple ⟨[]⟩) H)
set_option maxRecDepth 100000 in
theorem fw_slices_breakPatternsOrdered_int64 {data0a : Option Addr} {data0l : Nat} {data0c : Nat} {a1 : Int} {b2 : Int} {H : AH} {Q : Value → AH → Prop} (h : VC_slices_breakPatternsOrdered_int64 data0a data0l data0c a1 b2 H Q) : FW Ee F_slices_breakPatternsOrdered_int64 [.slice data0a data0l data0c, .int .i64 a1, .int .i64 b2] H Q := by
  have e : VC_slices_breakPatternsOrdered_int64 data0a data0l data0c a1 b2 H Q = wpF Ee ⟨[], [43]⟩ F_slices_breakPatternsOrdered_int64 [.slice data0a data0l data0c, .int .i64 a1, .int .i64 b2] H Q := by kernel_rfl
  letI : Sy := sy0
  exact wpF_sound (Eq.mp e h)
/-- slices.order2Ordered[int64] -/
def VC_slices_order2Ordered_int64 (data0a : Option Addr) (data0l : Nat) (data0c : Nat) (a1 : Int) (b2 : Int) (swaps3b : Nat) (H : AH) (Q : Value → AH → Prop) : Prop :=
  grd data0a.isSome (
    (0 : Int) ≤ b2 ∧
    (b2 : Int) < ((data0l : Nat) : Int) ∧
    ∃ (t13 : Int),
    H.cell ((adr data0a).block) ((adr data0a).off + (b2 : Int).toNat * 1) = some (.int .i64 t13) ∧
    grd data0a.isSome (
      (0 : Int) ≤ a1 ∧
      (a1 : Int) < ((data0l : Nat) : Int) ∧
      ∃ (t17 : Int),
      H.cell ((adr data0a).block) ((adr data0a).off + (a1 : Int).toNat * 1) = some (.int .i64 t17) ∧
      FW Ee F_cmp_Less_int64 [.int .i64 t13, .int .i64 t17] H fun v H1 =>
        ∃ (r18 : Bool),
        v = .bool r18 ∧
        cond (r18) (
          ∃ (t21 : Int),
          H1.cell swaps3b 0 = some (.int .i64 t21) ∧
          ∀ (t22 : Int),
          t22 = IntKind.i64.wrap (t21 + 1) →
          ∃ (H2 : AH),
          storeCellsv H1 swaps3b 0 [.int .i64 t22] = some H2 ∧
          Q (.tuple ⟨[.int .i64 b2, .int .i64 a1]⟩) H2) (
          Q (.tuple ⟨[.int .i64 a1, .int .i64 b2]⟩) H1)))
set_option maxRecDepth 100000 in
theorem fw_slices_order2Ordered_int64 {data0a : Option Addr} {data0l : Nat} {data0c : Nat} {a1 : Int} {b2 : Int} {swaps3b : Nat} {H : AH} {Q : Value → AH → Prop} (h : VC_slices_order2Ordered_int64 data0a data0l data0c a1 b2 swaps3b H Q) : FW Ee F_slices_order2Ordered_int64 [.slice data0a data0l data0c, .int .i64 a1, .int .i64 b2, .pointer (some ⟨swaps3b, 0, none⟩)] H Q := by
  have e : VC_slices_order2Ordered_int64 data0a data0l data0c a1 b2 swaps3b H Q = wpF Ee ⟨[], []⟩ F_slices_order2Ordered_int64 [.slice data0a data0l data0c, .int .i64 a1, .int .i64 b2, .pointer (some ⟨swaps3b, 0, none⟩)] H Q := by kernel_rfl
  letI : Sy := sy0
  exact wpF_sound (Eq.mp e h)
/-- slices.medianOrdered[int64] -/
def VC_slices_medianOrdered_int64 (data0a : Option Addr) (data0l : Nat) (data0c : Nat) (a1 : Int) (b2 : Int) (c3 : Int) (swaps4b : Nat) (H : AH) (Q : Value → AH → Prop) : Prop :=
  FW Ee F_slices_order2Ordered_int64 [.slice data0a data0l data0c, .int .i64 a1, .int .i64 b2, .pointer (some ⟨swaps4b, 0, none⟩)] H fun v H1 =>
    ∃ (r16_0 : Int) (r16_1 : Int),
    v = .tuple ⟨[.int .i64 r16_0, .int .i64 r16_1]⟩ ∧
    FW Ee F_slices_order2Ordered_int64 [.slice data0a data0l data0c, .int .i64 r16_1, .int .i64 c3, .pointer (some ⟨swaps4b, 0, none⟩)] H1 fun v_1 H2 =>
      ∃ (r24_0 : Int) (r24_1 : Int),
      v_1 = .tuple ⟨[.int .i64 r24_0, .int .i64 r24_1]⟩ ∧
      FW Ee F_slices_order2Ordered_int64 [.slice data0a data0l data0c, .int .i64 r16_0, .int .i64 r24_0, .pointer (some ⟨swaps4b, 0, none⟩)] H2 fun v_2 H3 =>
        ∃ (r32_0 : Int) (r32_1 : Int),
        v_2 = .tuple ⟨[.int .i64 r32_0, .int .i64 r32_1]⟩ ∧
        Q (.int .i64 r32_1) H3
set_option maxRecDepth 100000 in
theorem fw_slices_medianOrdered_int64 {data0a : Option Addr} {data0l : Nat} {data0c : Nat} {a1 : Int} {b2 : Int} {c3 : Int} {swaps4b : Nat} {H : AH} {Q : Value → AH → Prop} (h : VC_slices_medianOrdered_int64 data0a data0l data0c a1 b2 c3 swaps4b H Q) : FW Ee F_slices_medianOrdered_int64 [.slice data0a data0l data0c, .int .i64 a1, .int .i64 b2, .int .i64 c3, .pointer (some ⟨swaps4b, 0, none⟩)] H Q := by
  have e : VC_slices_medianOrdered_int64 data0a data0l data0c a1 b2 c3 swaps4b H Q = wpF Ee ⟨[], []⟩ F_slices_medianOrdered_int64 [.slice data0a data0l data0c, .int .i64 a1, .int .i64 b2, .int .i64 c3, .pointer (some ⟨swaps4b, 0, none⟩)] H Q := by kernel_rfl
  letI : Sy := sy0
  exact wpF_sound (Eq.mp e h)
/-- slices.medianAdjacentOrdered[int64] -/
def VC_slices_medianAdjacentOrdered_int64 (data0a : Option Addr) (data0l : Nat) (data0c : Nat) (a1 : Int) (swaps2b : Nat) (H : AH) (Q : Value → AH → Prop) : Prop :=
  ∀ (t9 : Int),
  t9 = IntKind.i64.wrap (a1 - 1) →
  ∀ (t12 : Int),
  t12 = IntKind.i64.wrap (a1 + 1) →
  FW Ee F_slices_medianOrdered_int64 [.slice data0a data0l data0c, .int .i64 t9, .int .i64 a1, .int .i64 t12, .pointer (some ⟨swaps2b, 0, none⟩)] H fun v H1 =>
    ∃ (r14 : Int),
    v = .int .i64 r14 ∧
    Q (.int .i64 r14) H1
set_option maxRecDepth 100000 in
theorem fw_slices_medianAdjacentOrdered_int64 {data0a : Option Addr} {data0l : Nat} {data0c : Nat} {a1 : Int} {swaps2b : Nat} {H : AH} {Q : Value → AH → Prop} (h : VC_slices_medianAdjacentOrdered_int64 data0a data0l data0c a1 swaps2b H Q) : FW Ee F_slices_medianAdjacentOrdered_int64 [.slice data0a data0l data0c, .int .i64 a1, .pointer (some ⟨swaps2b, 0, none⟩)] H Q := by
  have e : VC_slices_medianAdjacentOrdered_int64 data0a data0l data0c a1 swaps2b H Q = wpF Ee ⟨[], []⟩ F_slices_medianAdjacentOrdered_int64 [.slice data0a data0l data0c, .int .i64 a1, .pointer (some ⟨swaps2b, 0, none⟩)] H Q := by kernel_rfl
  letI : Sy := sy0
  exact wpF_sound (Eq.mp e h)
/-- slices.reverseRangeOrdered[int64] -/
def VC_slices_reverseRangeOrdered_int64 (data0a : Option Addr) (data0l : Nat) (data0c : Nat) (a1 : Int) (b2 : Int) (H : AH) (Q : Value → AH → Prop) : Prop :=
  ∀ (t10 : Int),
  t10 = IntKind.i64.wrap (b2 - 1) →
  ∃ (Inv : Nat → Int → Int → AH → Prop),
  (
    ∃ (n_1 : Nat),
    Inv n_1 a1 t10 H) ∧
  ∀ (n : Nat),
  ∀ (i6 : Int) (j7 : Int) (H1 : AH),
  Inv n i6 j7 H1 →
  cond (decide (i6 < j7)) (
    grd data0a.isSome (
      (0 : Int) ≤ j7 ∧
      (j7 : Int) < ((data0l : Nat) : Int) ∧
      ∃ (t21 : Int),
      H1.cell ((adr data0a).block) ((adr data0a).off + (j7 : Int).toNat * 1) = some (.int .i64 t21) ∧
      grd data0a.isSome (
        (0 : Int) ≤ i6 ∧
        (i6 : Int) < ((data0l : Nat) : Int) ∧
        ∃ (t25 : Int),
        H1.cell ((adr data0a).block) ((adr data0a).off + (i6 : Int).toNat * 1) = some (.int .i64 t25) ∧
        grd data0a.isSome (
          (0 : Int) ≤ i6 ∧
          (i6 : Int) < ((data0l : Nat) : Int) ∧
          ∃ (H2 : AH),
          storeCellsv H1 ((adr data0a).block) ((adr data0a).off + (i6 : Int).toNat * 1) [.int .i64 t21] = some H2 ∧
          grd data0a.isSome (
            (0 : Int) ≤ j7 ∧
            (j7 : Int) < ((data0l : Nat) : Int) ∧
            ∃ (H3 : AH),
            storeCellsv H2 ((adr data0a).block) ((adr data0a).off + (j7 : Int).toNat * 1) [.int .i64 t25] = some H3 ∧
            ∀ (t29 : Int),
            t29 = IntKind.i64.wrap (i6 + 1) →
            ∀ (t31 : Int),
            t31 = IntKind.i64.wrap (j7 - 1) →
            ∃ (m : Nat),
            m < n ∧
            Inv m t29 t31 H3))))) (
    Q (.tuple ⟨[]⟩) H1)
set_option maxRecDepth 100000 in
theorem fw_slices_reverseRangeOrdered_int64 {data0a : Option Addr} {data0l : Nat} {data0c : Nat} {a1 : Int} {b2 : Int} {H : AH} {Q : Value → AH → Prop} (h : VC_slices_reverseRangeOrdered_int64 data0a data0l data0c a1 b2 H Q) : FW Ee F_slices_reverseRangeOrdered_int64 [.slice data0a data0l data0c, .int .i64 a1, .int .i64 b2] H Q := by
  have e : VC_slices_reverseRangeOrdered_int64 data0a data0l data0c a1 b2 H Q = wpF Ee ⟨[], []⟩ F_slices_reverseRangeOrdered_int64 [.slice data0a data0l data0c, .int .i64 a1, .int .i64 b2] H Q := by kernel_rfl
  letI : Sy := sy0
  exact wpF_sound (Eq.mp e h)
/-- slices.choosePivotOrdered[int64] -/
def VC_slices_choosePivotOrdered_int64 (data0a : Option Addr) (data0l : Nat) (data0c : Nat) (a1 : Int) (b2 : Int) (H : AH) (Q : Value → AH → Prop) : Prop :=
  ∀ (t15 : Int),
  t15 = IntKind.i64.wrap (b2 - a1) →
  ∀ (H1 : AH),
  H1 = H.new (.cells [.int .i64 0] 0) →
  (4 : Int) ≠ 0 ∧
  ∀ (t18 : Int),
  t18 = IntKind.i64.wrap ((t15 : Int).tdiv 4) →
  ∀ (t19 : Int),
  t19 = IntKind.i64.wrap (t18 * 1) →
  ∀ (t20 : Int),
  t20 = IntKind.i64.wrap (a1 + t19) →
  (4 : Int) ≠ 0 ∧
  ∀ (t23 : Int),
  t23 = IntKind.i64.wrap ((t15 : Int).tdiv 4) →
  ∀ (t24 : Int),
  t24 = IntKind.i64.wrap (t23 * 2) →
  ∀ (t25 : Int),
  t25 = IntKind.i64.wrap (a1 + t24) →
  (4 : Int) ≠ 0 ∧
  ∀ (t28 : Int),
  t28 = IntKind.i64.wrap ((t15 : Int).tdiv 4) →
  ∀ (t29 : Int),
  t29 = IntKind.i64.wrap (t28 * 3) →
  ∀ (t30 : Int),
  t30 = IntKind.i64.wrap (a1 + t29) →
  ∃ (J_1 : Int → Int → Int → AH → Prop),
  (
    cond (decide (t15 ≥ 8)) (
      ∃ (J_2 : Int → Int → Int → AH → Prop),
      (
        cond (decide (t15 ≥ 50)) (
          FW Ee F_slices_medianAdjacentOrdered_int64 [.slice data0a data0l data0c, .int .i64 t20, .pointer (some ⟨H.next, 0, none⟩)] H1 fun v H2 =>
            ∃ (r37 : Int),
            v = .int .i64 r37 ∧
            FW Ee F_slices_medianAdjacentOrdered_int64 [.slice data0a data0l data0c, .int .i64 t25, .pointer (some ⟨H.next, 0, none⟩)] H2 fun v_1 H3 =>
              ∃ (r40 : Int),
              v_1 = .int .i64 r40 ∧
              FW Ee F_slices_medianAdjacentOrdered_int64 [.slice data0a data0l data0c, .int .i64 t30, .pointer (some ⟨H.next, 0, none⟩)] H3 fun v_2 H4 =>
                ∃ (r43 : Int),
                v_2 = .int .i64 r43 ∧
                J_2 r37 r40 r43 H4) (
          J_2 t20 t25 t30 H1)) ∧
      ∀ (i10 : Int) (j11 : Int) (k12 : Int) (H5 : AH),
      J_2 i10 j11 k12 H5 →
      FW Ee F_slices_medianOrdered_int64 [.slice data0a data0l data0c, .int .i64 i10, .int .i64 j11, .int .i64 k12, .pointer (some ⟨H.next, 0, none⟩)] H5 fun v_3 H6 =>
        ∃ (r48 : Int),
        v_3 = .int .i64 r48 ∧
        J_1 i10 r48 k12 H6) (
      J_1 t20 t25 t30 H1)) ∧
  ∀ (i10_1 : Int) (j11_1 : Int) (k12_1 : Int) (H7 : AH),
  J_1 i10_1 j11_1 k12_1 H7 →
  ∃ (t49 : Int),
  H7.cell H.next 0 = some (.int .i64 t49) ∧
  cond (t49 == 0) (
    Q (.tuple ⟨[.int .i64 j11_1, .int .i64 1]⟩) H7) (
    cond (t49 == 12) (
      Q (.tuple ⟨[.int .i64 j11_1, .int .i64 2]⟩) H7) (
      Q (.tuple ⟨[.int .i64 j11_1, .int .i64 0]⟩) H7))
set_option maxRecDepth 100000 in
theorem fw_slices_choosePivotOrdered_int64 {data0a : Option Addr} {data0l : Nat} {data0c : Nat} {a1 : Int} {b2 : Int} {H : AH} {Q : Value → AH → Prop} (h : VC_slices_choosePivotOrdered_int64 data0a data0l data0c a1 b2 H Q) : FW Ee F_slices_choosePivotOrdered_int64 [.slice data0a data0l data0c, .int .i64 a1, .int .i64 b2] H Q := by
  have e : VC_slices_choosePivotOrdered_int64 data0a data0l data0c a1 b2 H Q = wpF Ee ⟨[], [32, 34]⟩ F_slices_choosePivotOrdered_int64 [.slice data0a data0l data0c, .int .i64 a1, .int .i64 b2] H Q := by kernel_rfl
  letI : Sy := sy0
  exact wpF_sound (Eq.mp e h)
/-- slices.partialInsertionSortOrdered[int64] -/
def VC_slices_partialInsertionSortOrdered_int64 (data0a : Option Addr) (data0l : Nat) (data0c : Nat) (a1 : Int) (b2 : Int) (H : AH) (Q : Value → AH → Prop) : Prop :=
  ∀ (t12 : Int),
  t12 = IntKind.i64.wrap (a1 + 1) →
  ∃ (Inv : Nat → Int → Bool → Int → AH → Prop),
  (
    ∃ (n_1 : Nat),
    Inv n_1 t12 false 0 H) ∧
  ∀ (n : Nat),
  ∀ (i7 : Int) (t6 : Bool) (j8 : Int) (H1 : AH),
  Inv n i7 t6 j8 H1 →
  cond (decide (j8 < 5)) (
    ∃ (J_1 : Int → AH → Prop),
    (
      ∃ (Inv_1 : Nat → Int → AH → Prop),
      (
        ∃ (n_3 : Nat),
        Inv_1 n_3 i7 H1) ∧
      ∀ (n_2 : Nat),
      ∀ (i7_1 : Int) (H2 : AH),
      Inv_1 n_2 i7_1 H2 →
      cond (decide (i7_1 < b2)) (
        grd data0a.isSome (
          (0 : Int) ≤ i7_1 ∧
          (i7_1 : Int) < ((data0l : Nat) : Int) ∧
          ∃ (t24 : Int),
          H2.cell ((adr data0a).block) ((adr data0a).off + (i7_1 : Int).toNat * 1) = some (.int .i64 t24) ∧
          ∀ (t27 : Int),
          t27 = IntKind.i64.wrap (i7_1 - 1) →
          grd data0a.isSome (
            (0 : Int) ≤ t27 ∧
            (t27 : Int) < ((data0l : Nat) : Int) ∧
            ∃ (t29 : Int),
            H2.cell ((adr data0a).block) ((adr data0a).off + (t27 : Int).toNat * 1) = some (.int .i64 t29) ∧
            FW Ee F_cmp_Less_int64 [.int .i64 t24, .int .i64 t29] H2 fun v H3 =>
              ∃ (r30 : Bool),
              v = .bool r30 ∧
              cond (!r30) (
                ∀ (t34 : Int),
                t34 = IntKind.i64.wrap (i7_1 + 1) →
                ∃ (m_1 : Nat),
                m_1 < n_2 ∧
                Inv_1 m_1 t34 H3) (
                J_1 i7_1 H3)))) (
        J_1 i7_1 H2)) ∧
    ∀ (i7_2 : Int) (H4 : AH),
    J_1 i7_2 H4 →
    cond (i7_2 == b2) (
      Q (.bool true) H4) (
      ∀ (t40 : Int),
      t40 = IntKind.i64.wrap (b2 - a1) →
      cond (decide (t40 < 50)) (
        Q (.bool false) H4) (
        ∀ (t46 : Int),
        t46 = IntKind.i64.wrap (i7_2 - 1) →
        ∀ (t49 : Int),
        t49 = IntKind.i64.wrap (i7_2 - 1) →
        grd data0a.isSome (
          (0 : Int) ≤ t49 ∧
          (t49 : Int) < ((data0l : Nat) : Int) ∧
          ∃ (t51 : Int),
          H4.cell ((adr data0a).block) ((adr data0a).off + (t49 : Int).toNat * 1) = some (.int .i64 t51) ∧
          grd data0a.isSome (
            (0 : Int) ≤ i7_2 ∧
            (i7_2 : Int) < ((data0l : Nat) : Int) ∧
            ∃ (t55 : Int),
            H4.cell ((adr data0a).block) ((adr data0a).off + (i7_2 : Int).toNat * 1) = some (.int .i64 t55) ∧
            grd data0a.isSome (
              (0 : Int) ≤ i7_2 ∧
              (i7_2 : Int) < ((data0l : Nat) : Int) ∧
              ∃ (H5 : AH),
              storeCellsv H4 ((adr data0a).block) ((adr data0a).off + (i7_2 : Int).toNat * 1) [.int .i64 t51] = some H5 ∧
              grd data0a.isSome (
                (0 : Int) ≤ t46 ∧
                (t46 : Int) < ((data0l : Nat) : Int) ∧
                ∃ (H6 : AH),
                storeCellsv H5 ((adr data0a).block) ((adr data0a).off + (t46 : Int).toNat * 1) [.int .i64 t55] = some H6 ∧
                ∀ (t60 : Int),
                t60 = IntKind.i64.wrap (i7_2 - a1) →
                ∃ (J_2 : AH → Prop),
                (
                  cond (decide (t60 ≥ 2)) (
                    ∀ (t63 : Int),
                    t63 = IntKind.i64.wrap (i7_2 - 1) →
                    ∃ (J_3 : Int → AH → Prop),
                    (
                      ∃ (Inv_2 : Nat → Int → AH → Prop),
                      (
                        ∃ (n_5 : Nat),
                        Inv_2 n_5 t63 H6) ∧
                      ∀ (n_4 : Nat),
                      ∀ (j9 : Int) (H7 : AH),
                      Inv_2 n_4 j9 H7 →
                      cond (decide (j9 ≥ 1)) (
                        grd data0a.isSome (
                          (0 : Int) ≤ j9 ∧
                          (j9 : Int) < ((data0l : Nat) : Int) ∧
                          ∃ (t71 : Int),
                          H7.cell ((adr data0a).block) ((adr data0a).off + (j9 : Int).toNat * 1) = some (.int .i64 t71) ∧
                          ∀ (t74 : Int),
                          t74 = IntKind.i64.wrap (j9 - 1) →
                          grd data0a.isSome (
                            (0 : Int) ≤ t74 ∧
                            (t74 : Int) < ((data0l : Nat) : Int) ∧
                            ∃ (t76 : Int),
                            H7.cell ((adr data0a).block) ((adr data0a).off + (t74 : Int).toNat * 1) = some (.int .i64 t76) ∧
                            FW Ee F_cmp_Less_int64 [.int .i64 t71, .int .i64 t76] H7 fun v_1 H8 =>
                              ∃ (r77 : Bool),
                              v_1 = .bool r77 ∧
                              cond (!r77) (
                                J_3 j9 H8) (
                                ∀ (t83 : Int),
                                t83 = IntKind.i64.wrap (j9 - 1) →
                                ∀ (t86 : Int),
                                t86 = IntKind.i64.wrap (j9 - 1) →
                                grd data0a.isSome (
                                  (0 : Int) ≤ t86 ∧
                                  (t86 : Int) < ((data0l : Nat) : Int) ∧
                                  ∃ (t88 : Int),
                                  H8.cell ((adr data0a).block) ((adr data0a).off + (t86 : Int).toNat * 1) = some (.int .i64 t88) ∧
                                  grd data0a.isSome (
                                    (0 : Int) ≤ j9 ∧
                                    (j9 : Int) < ((data0l : Nat) : Int) ∧
                                    ∃ (t92 : Int),
                                    H8.cell ((adr data0a).block) ((adr data0a).off + (j9 : Int).toNat * 1) = some (.int .i64 t92) ∧
                                    grd data0a.isSome (
                                      (0 : Int) ≤ j9 ∧
                                      (j9 : Int) < ((data0l : Nat) : Int) ∧
                                      ∃ (H9 : AH),
                                      storeCellsv H8 ((adr data0a).block) ((adr data0a).off + (j9 : Int).toNat * 1) [.int .i64 t88] = some H9 ∧
                                      grd data0a.isSome (
                                        (0 : Int) ≤ t83 ∧
                                        (t83 : Int) < ((data0l : Nat) : Int) ∧
                                        ∃ (H10 : AH),
                                        storeCellsv H9 ((adr data0a).block) ((adr data0a).off + (t83 : Int).toNat * 1) [.int .i64 t92] = some H10 ∧
                                        ∀ (t67 : Int),
                                        t67 = IntKind.i64.wrap (j9 - 1) →
                                        ∃ (m_2 : Nat),
                                        m_2 < n_4 ∧
                                        Inv_2 m_2 t67 H10)))))))) (
                        J_3 j9 H7)) ∧
                    ∀ (j9_1 : Int) (H11 : AH),
                    J_3 j9_1 H11 →
                    J_2 H11) (
                    J_2 H6)) ∧
                ∀ (H12 : AH),
                J_2 H12 →
                ∀ (t97 : Int),
                t97 = IntKind.i64.wrap (b2 - i7_2) →
                ∃ (J_4 : AH → Prop),
                (
                  cond (decide (t97 ≥ 2)) (
                    ∀ (t100 : Int),
                    t100 = IntKind.i64.wrap (i7_2 + 1) →
                    ∃ (J_5 : Int → AH → Prop),
                    (
                      ∃ (Inv_3 : Nat → Int → AH → Prop),
                      (
                        ∃ (n_7 : Nat),
                        Inv_3 n_7 t100 H12) ∧
                      ∀ (n_6 : Nat),
                      ∀ (j10 : Int) (H13 : AH),
                      Inv_3 n_6 j10 H13 →
                      cond (decide (j10 < b2)) (
                        grd data0a.isSome (
                          (0 : Int) ≤ j10 ∧
                          (j10 : Int) < ((data0l : Nat) : Int) ∧
                          ∃ (t109 : Int),
                          H13.cell ((adr data0a).block) ((adr data0a).off + (j10 : Int).toNat * 1) = some (.int .i64 t109) ∧
                          ∀ (t112 : Int),
                          t112 = IntKind.i64.wrap (j10 - 1) →
                          grd data0a.isSome (
                            (0 : Int) ≤ t112 ∧
                            (t112 : Int) < ((data0l : Nat) : Int) ∧
                            ∃ (t114 : Int),
                            H13.cell ((adr data0a).block) ((adr data0a).off + (t112 : Int).toNat * 1) = some (.int .i64 t114) ∧
                            FW Ee F_cmp_Less_int64 [.int .i64 t109, .int .i64 t114] H13 fun v_2 H14 =>
                              ∃ (r115 : Bool),
                              v_2 = .bool r115 ∧
                              cond (!r115) (
                                J_5 j10 H14) (
                                ∀ (t121 : Int),
                                t121 = IntKind.i64.wrap (j10 - 1) →
                                ∀ (t124 : Int),
                                t124 = IntKind.i64.wrap (j10 - 1) →
                                grd data0a.isSome (
                                  (0 : Int) ≤ t124 ∧
                                  (t124 : Int) < ((data0l : Nat) : Int) ∧
                                  ∃ (t126 : Int),
                                  H14.cell ((adr data0a).block) ((adr data0a).off + (t124 : Int).toNat * 1) = some (.int .i64 t126) ∧
                                  grd data0a.isSome (
                                    (0 : Int) ≤ j10 ∧
                                    (j10 : Int) < ((data0l : Nat) : Int) ∧
                                    ∃ (t130 : Int),
                                    H14.cell ((adr data0a).block) ((adr data0a).off + (j10 : Int).toNat * 1) = some (.int .i64 t130) ∧
                                    grd data0a.isSome (
                                      (0 : Int) ≤ j10 ∧
                                      (j10 : Int) < ((data0l : Nat) : Int) ∧
                                      ∃ (H15 : AH),
                                      storeCellsv H14 ((adr data0a).block) ((adr data0a).off + (j10 : Int).toNat * 1) [.int .i64 t126] = some H15 ∧
                                      grd data0a.isSome (
                                        (0 : Int) ≤ t121 ∧
                                        (t121 : Int) < ((data0l : Nat) : Int) ∧
                                        ∃ (H16 : AH),
                                        storeCellsv H15 ((adr data0a).block) ((adr data0a).off + (t121 : Int).toNat * 1) [.int .i64 t130] = some H16 ∧
                                        ∀ (t105 : Int),
                                        t105 = IntKind.i64.wrap (j10 + 1) →
                                        ∃ (m_3 : Nat),
                                        m_3 < n_6 ∧
                                        Inv_3 m_3 t105 H16)))))))) (
                        J_5 j10 H13)) ∧
                    ∀ (j10_1 : Int) (H17 : AH),
                    J_5 j10_1 H17 →
                    J_4 H17) (
                    J_4 H12)) ∧
                ∀ (H18 : AH),
                J_4 H18 →
                ∀ (t16 : Int),
                t16 = IntKind.i64.wrap (j8 + 1) →
                ∃ (m : Nat),
                m < n ∧
                Inv m i7_2 t6 t16 H18))))))) (
    Q (.bool false) H1)
set_option maxRecDepth 100000 in
theorem fw_slices_partialInsertionSortOrdered_int64 {data0a : Option Addr} {data0l : Nat} {data0c : Nat} {a1 : Int} {b2 : Int} {H : AH} {Q : Value → AH → Prop} (h : VC_slices_partialInsertionSortOrdered_int64 data0a data0l data0c a1 b2 H Q) : FW Ee F_slices_partialInsertionSortOrdered_int64 [.slice data0a data0l data0c, .int .i64 a1, .int .i64 b2] H Q := by
  have e : VC_slices_partialInsertionSortOrdered_int64 data0a data0l data0c a1 b2 H Q = wpF Ee ⟨[2, 4, 6], [61, 98]⟩ F_slices_partialInsertionSortOrdered_int64 [.slice data0a data0l data0c, .int .i64 a1, .int .i64 b2] H Q := by kernel_rfl
  letI : Sy := sy0
  exact wpF_sound (Eq.mp e h)
/-- slices.partitionEqualOrdered[int64] -/
def VC_slices_partitionEqualOrdered_int64 (data0a : Option Addr) (data0l : Nat) (data0c : Nat) (a1 : Int) (b2 : Int) (pivot3 : Int) (H : AH) (Q : Value → AH → Prop) : Prop :=
  grd data0a.isSome (
    (0 : Int) ≤ pivot3 ∧
    (pivot3 : Int) < ((data0l : Nat) : Int) ∧
    ∃ (t18 : Int),
    H.cell ((adr data0a).block) ((adr data0a).off + (pivot3 : Int).toNat * 1) = some (.int .i64 t18) ∧
    grd data0a.isSome (
      (0 : Int) ≤ a1 ∧
      (a1 : Int) < ((data0l : Nat) : Int) ∧
      ∃ (t22 : Int),
      H.cell ((adr data0a).block) ((adr data0a).off + (a1 : Int).toNat * 1) = some (.int .i64 t22) ∧
      grd data0a.isSome (
        (0 : Int) ≤ a1 ∧
        (a1 : Int) < ((data0l : Nat) : Int) ∧
        ∃ (H1 : AH),
        storeCellsv H ((adr data0a).block) ((adr data0a).off + (a1 : Int).toNat * 1) [.int .i64 t18] = some H1 ∧
        grd data0a.isSome (
          (0 : Int) ≤ pivot3 ∧
          (pivot3 : Int) < ((data0l : Nat) : Int) ∧
          ∃ (H2 : AH),
          storeCellsv H1 ((adr data0a).block) ((adr data0a).off + (pivot3 : Int).toNat * 1) [.int .i64 t22] = some H2 ∧
          ∀ (t26 : Int),
          t26 = IntKind.i64.wrap (a1 + 1) →
          ∀ (t28 : Int),
          t28 = IntKind.i64.wrap (b2 - 1) →
          ∃ (Inv : Nat → Int → Int → AH → Prop),
          (
            ∃ (n_1 : Nat),
            Inv n_1 t26 t28 H2) ∧
          ∀ (n : Nat),
          ∀ (i9 : Int) (j10 : Int) (H3 : AH),
          Inv n i9 j10 H3 →
          ∃ (J_1 : Int → AH → Prop),
          (
            ∃ (Inv_1 : Nat → Int → AH → Prop),
            (
              ∃ (n_3 : Nat),
              Inv_1 n_3 i9 H3) ∧
            ∀ (n_2 : Nat),
            ∀ (i9_1 : Int) (H4 : AH),
            Inv_1 n_2 i9_1 H4 →
            cond (decide (i9_1 ≤ j10)) (
              grd data0a.isSome (
                (0 : Int) ≤ a1 ∧
                (a1 : Int) < ((data0l : Nat) : Int) ∧
                ∃ (t36 : Int),
                H4.cell ((adr data0a).block) ((adr data0a).off + (a1 : Int).toNat * 1) = some (.int .i64 t36) ∧
                grd data0a.isSome (
                  (0 : Int) ≤ i9_1 ∧
                  (i9_1 : Int) < ((data0l : Nat) : Int) ∧
                  ∃ (t40 : Int),
                  H4.cell ((adr data0a).block) ((adr data0a).off + (i9_1 : Int).toNat * 1) = some (.int .i64 t40) ∧
                  FW Ee F_cmp_Less_int64 [.int .i64 t36, .int .i64 t40] H4 fun v H5 =>
                    ∃ (r41 : Bool),
                    v = .bool r41 ∧
                    cond (!r41) (
                      ∀ (t45 : Int),
                      t45 = IntKind.i64.wrap (i9_1 + 1) →
                      ∃ (m_1 : Nat),
                      m_1 < n_2 ∧
                      Inv_1 m_1 t45 H5) (
                      J_1 i9_1 H5)))) (
              J_1 i9_1 H4)) ∧
          ∀ (i9_2 : Int) (H6 : AH),
          J_1 i9_2 H6 →
          ∃ (J_2 : Int → AH → Prop),
          (
            ∃ (Inv_2 : Nat → Int → AH → Prop),
            (
              ∃ (n_5 : Nat),
              Inv_2 n_5 j10 H6) ∧
            ∀ (n_4 : Nat),
            ∀ (j10_1 : Int) (H7 : AH),
            Inv_2 n_4 j10_1 H7 →
            cond (decide (i9_2 ≤ j10_1)) (
              grd data0a.isSome (
                (0 : Int) ≤ a1 ∧
                (a1 : Int) < ((data0l : Nat) : Int) ∧
                ∃ (t53 : Int),
                H7.cell ((adr data0a).block) ((adr data0a).off + (a1 : Int).toNat * 1) = some (.int .i64 t53) ∧
                grd data0a.isSome (
                  (0 : Int) ≤ j10_1 ∧
                  (j10_1 : Int) < ((data0l : Nat) : Int) ∧
                  ∃ (t57 : Int),
                  H7.cell ((adr data0a).block) ((adr data0a).off + (j10_1 : Int).toNat * 1) = some (.int .i64 t57) ∧
                  FW Ee F_cmp_Less_int64 [.int .i64 t53, .int .i64 t57] H7 fun v_1 H8 =>
                    ∃ (r58 : Bool),
                    v_1 = .bool r58 ∧
                    cond (r58) (
                      ∀ (t61 : Int),
                      t61 = IntKind.i64.wrap (j10_1 - 1) →
                      ∃ (m_2 : Nat),
                      m_2 < n_4 ∧
                      Inv_2 m_2 t61 H8) (
                      J_2 j10_1 H8)))) (
              J_2 j10_1 H7)) ∧
          ∀ (j10_2 : Int) (H9 : AH),
          J_2 j10_2 H9 →
          cond (decide (i9_2 > j10_2)) (
            Q (.int .i64 i9_2) H9) (
            grd data0a.isSome (
              (0 : Int) ≤ j10_2 ∧
              (j10_2 : Int) < ((data0l : Nat) : Int) ∧
              ∃ (t72 : Int),
              H9.cell ((adr data0a).block) ((adr data0a).off + (j10_2 : Int).toNat * 1) = some (.int .i64 t72) ∧
              grd data0a.isSome (
                (0 : Int) ≤ i9_2 ∧
                (i9_2 : Int) < ((data0l : Nat) : Int) ∧
                ∃ (t76 : Int),
                H9.cell ((adr data0a).block) ((adr data0a).off + (i9_2 : Int).toNat * 1) = some (.int .i64 t76) ∧
                grd data0a.isSome (
                  (0 : Int) ≤ i9_2 ∧
                  (i9_2 : Int) < ((data0l : Nat) : Int) ∧
                  ∃ (H10 : AH),
                  storeCellsv H9 ((adr data0a).block) ((adr data0a).off + (i9_2 : Int).toNat * 1) [.int .i64 t72] = some H10 ∧
                  grd data0a.isSome (
                    (0 : Int) ≤ j10_2 ∧
                    (j10_2 : Int) < ((data0l : Nat) : Int) ∧
                    ∃ (H11 : AH),
                    storeCellsv H10 ((adr data0a).block) ((adr data0a).off + (j10_2 : Int).toNat * 1) [.int .i64 t76] = some H11 ∧
                    ∀ (t80 : Int),
                    t80 = IntKind.i64.wrap (i9_2 + 1) →
                    ∀ (t82 : Int),
                    t82 = IntKind.i64.wrap (j10_2 - 1) →
                    ∃ (m : Nat),
                    m < n ∧
                    Inv m t80 t82 H11)))))))))
set_option maxRecDepth 100000 in
theorem fw_slices_partitionEqualOrdered_int64 {data0a : Option Addr} {data0l : Nat} {data0c : Nat} {a1 : Int} {b2 : Int} {pivot3 : Int} {H : AH} {Q : Value → AH → Prop} (h : VC_slices_partitionEqualOrdered_int64 data0a data0l data0c a1 b2 pivot3 H Q) : FW Ee F_slices_partitionEqualOrdered_int64 [.slice data0a data0l data0c, .int .i64 a1, .int .i64 b2, .int .i64 pivot3] H Q := by
  have e : VC_slices_partitionEqualOrdered_int64 data0a data0l data0c a1 b2 pivot3 H Q = wpF Ee ⟨[2, 4], []⟩ F_slices_partitionEqualOrdered_int64 [.slice data0a data0l data0c, .int .i64 a1, .int .i64 b2, .int .i64 pivot3] H Q := by kernel_rfl
  letI : Sy := sy0
  exact wpF_sound (Eq.mp e h)
/-- slices.partitionOrdered[int64] -/
def VC_slices_partitionOrdered_int64 (data0a : Option Addr) (data0l : Nat) (data0c : Nat) (a1 : Int) (b2 : Int) (pivot3 : Int) (H : AH) (Q : Value → AH → Prop) : Prop :=
  grd data0a.isSome (
    (0 : Int) ≤ pivot3 ∧
    (pivot3 : Int) < ((data0l : Nat) : Int) ∧
    ∃ (t19 : Int),
    H.cell ((adr data0a).block) ((adr data0a).off + (pivot3 : Int).toNat * 1) = some (.int .i64 t19) ∧
    grd data0a.isSome (
      (0 : Int) ≤ a1 ∧
      (a1 : Int) < ((data0l : Nat) : Int) ∧
      ∃ (t23 : Int),
      H.cell ((adr data0a).block) ((adr data0a).off + (a1 : Int).toNat * 1) = some (.int .i64 t23) ∧
      grd data0a.isSome (
        (0 : Int) ≤ a1 ∧
        (a1 : Int) < ((data0l : Nat) : Int) ∧
        ∃ (H1 : AH),
        storeCellsv H ((adr data0a).block) ((adr data0a).off + (a1 : Int).toNat * 1) [.int .i64 t19] = some H1 ∧
        grd data0a.isSome (
          (0 : Int) ≤ pivot3 ∧
          (pivot3 : Int) < ((data0l : Nat) : Int) ∧
          ∃ (H2 : AH),
          storeCellsv H1 ((adr data0a).block) ((adr data0a).off + (pivot3 : Int).toNat * 1) [.int .i64 t23] = some H2 ∧
          ∀ (t27 : Int),
          t27 = IntKind.i64.wrap (a1 + 1) →
          ∀ (t29 : Int),
          t29 = IntKind.i64.wrap (b2 - 1) →
          ∃ (J_1 : Int → AH → Prop),
          (
            ∃ (Inv : Nat → Int → AH → Prop),
            (
              ∃ (n_1 : Nat),
              Inv n_1 t27 H2) ∧
            ∀ (n : Nat),
            ∀ (i10 : Int) (H3 : AH),
            Inv n i10 H3 →
            cond (decide (i10 ≤ t29)) (
              grd data0a.isSome (
                (0 : Int) ≤ i10 ∧
                (i10 : Int) < ((data0l : Nat) : Int) ∧
                ∃ (t37 : Int),
                H3.cell ((adr data0a).block) ((adr data0a).off + (i10 : Int).toNat * 1) = some (.int .i64 t37) ∧
                grd data0a.isSome (
                  (0 : Int) ≤ a1 ∧
                  (a1 : Int) < ((data0l : Nat) : Int) ∧
                  ∃ (t41 : Int),
                  H3.cell ((adr data0a).block) ((adr data0a).off + (a1 : Int).toNat * 1) = some (.int .i64 t41) ∧
                  FW Ee F_cmp_Less_int64 [.int .i64 t37, .int .i64 t41] H3 fun v H4 =>
                    ∃ (r42 : Bool),
                    v = .bool r42 ∧
                    cond (r42) (
                      ∀ (t45 : Int),
                      t45 = IntKind.i64.wrap (i10 + 1) →
                      ∃ (m : Nat),
                      m < n ∧
                      Inv m t45 H4) (
                      J_1 i10 H4)))) (
              J_1 i10 H3)) ∧
          ∀ (i10_1 : Int) (H5 : AH),
          J_1 i10_1 H5 →
          ∃ (J_2 : Int → AH → Prop),
          (
            ∃ (Inv_1 : Nat → Int → AH → Prop),
            (
              ∃ (n_3 : Nat),
              Inv_1 n_3 t29 H5) ∧
            ∀ (n_2 : Nat),
            ∀ (j11 : Int) (H6 : AH),
            Inv_1 n_2 j11 H6 →
            cond (decide (i10_1 ≤ j11)) (
              grd data0a.isSome (
                (0 : Int) ≤ j11 ∧
                (j11 : Int) < ((data0l : Nat) : Int) ∧
                ∃ (t53 : Int),
                H6.cell ((adr data0a).block) ((adr data0a).off + (j11 : Int).toNat * 1) = some (.int .i64 t53) ∧
                grd data0a.isSome (
                  (0 : Int) ≤ a1 ∧
                  (a1 : Int) < ((data0l : Nat) : Int) ∧
                  ∃ (t57 : Int),
                  H6.cell ((adr data0a).block) ((adr data0a).off + (a1 : Int).toNat * 1) = some (.int .i64 t57) ∧
                  FW Ee F_cmp_Less_int64 [.int .i64 t53, .int .i64 t57] H6 fun v_1 H7 =>
                    ∃ (r58 : Bool),
                    v_1 = .bool r58 ∧
                    cond (!r58) (
                      ∀ (t62 : Int),
                      t62 = IntKind.i64.wrap (j11 - 1) →
                      ∃ (m_1 : Nat),
                      m_1 < n_2 ∧
                      Inv_1 m_1 t62 H7) (
                      J_2 j11 H7)))) (
              J_2 j11 H6)) ∧
          ∀ (j11_1 : Int) (H8 : AH),
          J_2 j11_1 H8 →
          cond (decide (i10_1 > j11_1)) (
            grd data0a.isSome (
              (0 : Int) ≤ a1 ∧
              (a1 : Int) < ((data0l : Nat) : Int) ∧
              ∃ (t73 : Int),
              H8.cell ((adr data0a).block) ((adr data0a).off + (a1 : Int).toNat * 1) = some (.int .i64 t73) ∧
              grd data0a.isSome (
                (0 : Int) ≤ j11_1 ∧
                (j11_1 : Int) < ((data0l : Nat) : Int) ∧
                ∃ (t77 : Int),
                H8.cell ((adr data0a).block) ((adr data0a).off + (j11_1 : Int).toNat * 1) = some (.int .i64 t77) ∧
                grd data0a.isSome (
                  (0 : Int) ≤ j11_1 ∧
                  (j11_1 : Int) < ((data0l : Nat) : Int) ∧
                  ∃ (H9 : AH),
                  storeCellsv H8 ((adr data0a).block) ((adr data0a).off + (j11_1 : Int).toNat * 1) [.int .i64 t73] = some H9 ∧
                  grd data0a.isSome (
                    (0 : Int) ≤ a1 ∧
                    (a1 : Int) < ((data0l : Nat) : Int) ∧
                    ∃ (H10 : AH),
                    storeCellsv H9 ((adr data0a).block) ((adr data0a).off + (a1 : Int).toNat * 1) [.int .i64 t77] = some H10 ∧
                    Q (.tuple ⟨[.int .i64 j11_1, .bool true]⟩) H10))))) (
            grd data0a.isSome (
              (0 : Int) ≤ j11_1 ∧
              (j11_1 : Int) < ((data0l : Nat) : Int) ∧
              ∃ (t88 : Int),
              H8.cell ((adr data0a).block) ((adr data0a).off + (j11_1 : Int).toNat * 1) = some (.int .i64 t88) ∧
              grd data0a.isSome (
                (0 : Int) ≤ i10_1 ∧
                (i10_1 : Int) < ((data0l : Nat) : Int) ∧
                ∃ (t92 : Int),
                H8.cell ((adr data0a).block) ((adr data0a).off + (i10_1 : Int).toNat * 1) = some (.int .i64 t92) ∧
                grd data0a.isSome (
                  (0 : Int) ≤ i10_1 ∧
                  (i10_1 : Int) < ((data0l : Nat) : Int) ∧
                  ∃ (H11 : AH),
                  storeCellsv H8 ((adr data0a).block) ((adr data0a).off + (i10_1 : Int).toNat * 1) [.int .i64 t88] = some H11 ∧
                  grd data0a.isSome (
                    (0 : Int) ≤ j11_1 ∧
                    (j11_1 : Int) < ((data0l : Nat) : Int) ∧
                    ∃ (H12 : AH),
                    storeCellsv H11 ((adr data0a).block) ((adr data0a).off + (j11_1 : Int).toNat * 1) [.int .i64 t92] = some H12 ∧
                    ∀ (t96 : Int),
                    t96 = IntKind.i64.wrap (i10_1 + 1) →
                    ∀ (t98 : Int),
                    t98 = IntKind.i64.wrap (j11_1 - 1) →
                    ∃ (Inv_2 : Nat → Int → Int → AH → Prop),
                    (
                      ∃ (n_5 : Nat),
                      Inv_2 n_5 t96 t98 H12) ∧
                    ∀ (n_4 : Nat),
                    ∀ (i10_2 : Int) (j11_2 : Int) (H13 : AH),
                    Inv_2 n_4 i10_2 j11_2 H13 →
                    ∃ (J_3 : Int → AH → Prop),
                    (
                      ∃ (Inv_3 : Nat → Int → AH → Prop),
                      (
                        ∃ (n_7 : Nat),
                        Inv_3 n_7 i10_2 H13) ∧
                      ∀ (n_6 : Nat),
                      ∀ (i10_3 : Int) (H14 : AH),
                      Inv_3 n_6 i10_3 H14 →
                      cond (decide (i10_3 ≤ j11_2)) (
                        grd data0a.isSome (
                          (0 : Int) ≤ i10_3 ∧
                          (i10_3 : Int) < ((data0l : Nat) : Int) ∧
                          ∃ (t106 : Int),
                          H14.cell ((adr data0a).block) ((adr data0a).off + (i10_3 : Int).toNat * 1) = some (.int .i64 t106) ∧
                          grd data0a.isSome (
                            (0 : Int) ≤ a1 ∧
                            (a1 : Int) < ((data0l : Nat) : Int) ∧
                            ∃ (t110 : Int),
                            H14.cell ((adr data0a).block) ((adr data0a).off + (a1 : Int).toNat * 1) = some (.int .i64 t110) ∧
                            FW Ee F_cmp_Less_int64 [.int .i64 t106, .int .i64 t110] H14 fun v_2 H15 =>
                              ∃ (r111 : Bool),
                              v_2 = .bool r111 ∧
                              cond (r111) (
                                ∀ (t114 : Int),
                                t114 = IntKind.i64.wrap (i10_3 + 1) →
                                ∃ (m_3 : Nat),
                                m_3 < n_6 ∧
                                Inv_3 m_3 t114 H15) (
                                J_3 i10_3 H15)))) (
                        J_3 i10_3 H14)) ∧
                    ∀ (i10_4 : Int) (H16 : AH),
                    J_3 i10_4 H16 →
                    ∃ (J_4 : Int → AH → Prop),
                    (
                      ∃ (Inv_4 : Nat → Int → AH → Prop),
                      (
                        ∃ (n_9 : Nat),
                        Inv_4 n_9 j11_2 H16) ∧
                      ∀ (n_8 : Nat),
                      ∀ (j11_3 : Int) (H17 : AH),
                      Inv_4 n_8 j11_3 H17 →
                      cond (decide (i10_4 ≤ j11_3)) (
                        grd data0a.isSome (
                          (0 : Int) ≤ j11_3 ∧
                          (j11_3 : Int) < ((data0l : Nat) : Int) ∧
                          ∃ (t122 : Int),
                          H17.cell ((adr data0a).block) ((adr data0a).off + (j11_3 : Int).toNat * 1) = some (.int .i64 t122) ∧
                          grd data0a.isSome (
                            (0 : Int) ≤ a1 ∧
                            (a1 : Int) < ((data0l : Nat) : Int) ∧
                            ∃ (t126 : Int),
                            H17.cell ((adr data0a).block) ((adr data0a).off + (a1 : Int).toNat * 1) = some (.int .i64 t126) ∧
                            FW Ee F_cmp_Less_int64 [.int .i64 t122, .int .i64 t126] H17 fun v_3 H18 =>
                              ∃ (r127 : Bool),
                              v_3 = .bool r127 ∧
                              cond (!r127) (
                                ∀ (t131 : Int),
                                t131 = IntKind.i64.wrap (j11_3 - 1) →
                                ∃ (m_4 : Nat),
                                m_4 < n_8 ∧
                                Inv_4 m_4 t131 H18) (
                                J_4 j11_3 H18)))) (
                        J_4 j11_3 H17)) ∧
                    ∀ (j11_4 : Int) (H19 : AH),
                    J_4 j11_4 H19 →
                    cond (decide (i10_4 > j11_4)) (
                      grd data0a.isSome (
                        (0 : Int) ≤ a1 ∧
                        (a1 : Int) < ((data0l : Nat) : Int) ∧
                        ∃ (t160 : Int),
                        H19.cell ((adr data0a).block) ((adr data0a).off + (a1 : Int).toNat * 1) = some (.int .i64 t160) ∧
                        grd data0a.isSome (
                          (0 : Int) ≤ j11_4 ∧
                          (j11_4 : Int) < ((data0l : Nat) : Int) ∧
                          ∃ (t164 : Int),
                          H19.cell ((adr data0a).block) ((adr data0a).off + (j11_4 : Int).toNat * 1) = some (.int .i64 t164) ∧
                          grd data0a.isSome (
                            (0 : Int) ≤ j11_4 ∧
                            (j11_4 : Int) < ((data0l : Nat) : Int) ∧
                            ∃ (H20 : AH),
                            storeCellsv H19 ((adr data0a).block) ((adr data0a).off + (j11_4 : Int).toNat * 1) [.int .i64 t160] = some H20 ∧
                            grd data0a.isSome (
                              (0 : Int) ≤ a1 ∧
                              (a1 : Int) < ((data0l : Nat) : Int) ∧
                              ∃ (H21 : AH),
                              storeCellsv H20 ((adr data0a).block) ((adr data0a).off + (a1 : Int).toNat * 1) [.int .i64 t164] = some H21 ∧
                              Q (.tuple ⟨[.int .i64 j11_4, .bool false]⟩) H21))))) (
                      grd data0a.isSome (
                        (0 : Int) ≤ j11_4 ∧
                        (j11_4 : Int) < ((data0l : Nat) : Int) ∧
                        ∃ (t142 : Int),
                        H19.cell ((adr data0a).block) ((adr data0a).off + (j11_4 : Int).toNat * 1) = some (.int .i64 t142) ∧
                        grd data0a.isSome (
                          (0 : Int) ≤ i10_4 ∧
                          (i10_4 : Int) < ((data0l : Nat) : Int) ∧
                          ∃ (t146 : Int),
                          H19.cell ((adr data0a).block) ((adr data0a).off + (i10_4 : Int).toNat * 1) = some (.int .i64 t146) ∧
                          grd data0a.isSome (
                            (0 : Int) ≤ i10_4 ∧
                            (i10_4 : Int) < ((data0l : Nat) : Int) ∧
                            ∃ (H22 : AH),
                            storeCellsv H19 ((adr data0a).block) ((adr data0a).off + (i10_4 : Int).toNat * 1) [.int .i64 t142] = some H22 ∧
                            grd data0a.isSome (
                              (0 : Int) ≤ j11_4 ∧
                              (j11_4 : Int) < ((data0l : Nat) : Int) ∧
                              ∃ (H23 : AH),
                              storeCellsv H22 ((adr data0a).block) ((adr data0a).off + (j11_4 : Int).toNat * 1) [.int .i64 t146] = some H23 ∧
                              ∀ (t150 : Int),
                              t150 = IntKind.i64.wrap (i10_4 + 1) →
                              ∀ (t152 : Int),
                              t152 = IntKind.i64.wrap (j11_4 - 1) →
                              ∃ (m_2 : Nat),
                              m_2 < n_4 ∧
                              Inv_2 m_2 t150 t152 H23))))))))))))))
set_option maxRecDepth 100000 in
theorem fw_slices_partitionOrdered_int64 {data0a : Option Addr} {data0l : Nat} {data0c : Nat} {a1 : Int} {b2 : Int} {pivot3 : Int} {H : AH} {Q : Value → AH → Prop} (h : VC_slices_partitionOrdered_int64 data0a data0l data0c a1 b2 pivot3 H Q) : FW Ee F_slices_partitionOrdered_int64 [.slice data0a data0l data0c, .int .i64 a1, .int .i64 b2, .int .i64 pivot3] H Q := by
  have e : VC_slices_partitionOrdered_int64 data0a data0l data0c a1 b2 pivot3 H Q = wpF Ee ⟨[0, 2, 6, 8], []⟩ F_slices_partitionOrdered_int64 [.slice data0a data0l data0c, .int .i64 a1, .int .i64 b2, .int .i64 pivot3] H Q := by kernel_rfl
  letI : Sy := sy0
  exact wpF_sound (Eq.mp e h)
/-- slices.pdqsortOrdered[int64] -/
def VC_slices_pdqsortOrdered_int64 (data0a : Option Addr) (data0l : Nat) (data0c : Nat) (a1 : Int) (b2 : Int) (limit3 : Int) (H : AH) (Q : Value → AH → Prop) : Prop :=
  ∃ (Inv : Nat → Int → Int → Bool → Bool → Int → AH → Prop),
  (
    ∃ (n_1 : Nat),
    Inv n_1 limit3 a1 true true b2 H) ∧
  ∀ (n : Nat),
  ∀ (limit3_1 : Int) (a1_1 : Int) (wasPartitioned9 : Bool) (wasBalanced8 : Bool) (b2_1 : Int) (H1 : AH),
  Inv n limit3_1 a1_1 wasPartitioned9 wasBalanced8 b2_1 H1 →
  ∀ (t21 : Int),
  t21 = IntKind.i64.wrap (b2_1 - a1_1) →
  cond (decide (t21 ≤ 12)) (
    FW Ee F_slices_insertionSortOrdered_int64 [.slice data0a data0l data0c, .int .i64 a1_1, .int .i64 b2_1] H1 fun v H2 =>
      v = .tuple ⟨[]⟩ ∧
      Q (.tuple ⟨[]⟩) H2) (
    cond (limit3_1 == 0) (
      FW Ee F_slices_heapSortOrdered_int64 [.slice data0a data0l data0c, .int .i64 a1_1, .int .i64 b2_1] H1 fun v_1 H3 =>
        v_1 = .tuple ⟨[]⟩ ∧
        Q (.tuple ⟨[]⟩) H3) (
      ∃ (J_1 : Int → AH → Prop),
      (
        cond (!wasBalanced8) (
          FW Ee F_slices_breakPatternsOrdered_int64 [.slice data0a data0l data0c, .int .i64 a1_1, .int .i64 b2_1] H1 fun v_2 H4 =>
            v_2 = .tuple ⟨[]⟩ ∧
            ∀ (t41 : Int),
            t41 = IntKind.i64.wrap (limit3_1 - 1) →
            J_1 t41 H4) (
          J_1 limit3_1 H1)) ∧
      ∀ (limit3_2 : Int) (H5 : AH),
      J_1 limit3_2 H5 →
      FW Ee F_slices_choosePivotOrdered_int64 [.slice data0a data0l data0c, .int .i64 a1_1, .int .i64 b2_1] H5 fun v_3 H6 =>
        ∃ (r46_0 : Int) (r46_1 : Int),
        v_3 = .tuple ⟨[.int .i64 r46_0, .int .i64 r46_1]⟩ ∧
        ∃ (J_2 : Int → Int → AH → Prop),
        (
          cond (r46_1 == 2) (
            FW Ee F_slices_reverseRangeOrdered_int64 [.slice data0a data0l data0c, .int .i64 a1_1, .int .i64 b2_1] H6 fun v_4 H7 =>
              v_4 = .tuple ⟨[]⟩ ∧
              ∀ (t56 : Int),
              t56 = IntKind.i64.wrap (b2_1 - 1) →
              ∀ (t59 : Int),
              t59 = IntKind.i64.wrap (r46_0 - a1_1) →
              ∀ (t60 : Int),
              t60 = IntKind.i64.wrap (t56 - t59) →
              J_2 t60 1 H7) (
            J_2 r46_0 r46_1 H6)) ∧
        ∀ (pivot11 : Int) (hint12 : Int) (H8 : AH),
        J_2 pivot11 hint12 H8 →
        cond (wasBalanced8) (
          cond (wasPartitioned9) (
            ∃ (J_3 : AH → Prop),
            (
              cond (hint12 == 1) (
                FW Ee F_slices_partialInsertionSortOrdered_int64 [.slice data0a data0l data0c, .int .i64 a1_1, .int .i64 b2_1] H8 fun v_5 H9 =>
                  ∃ (r72 : Bool),
                  v_5 = .bool r72 ∧
                  cond (r72) (
                    Q (.tuple ⟨[]⟩) H9) (
                    J_3 H9)) (
                J_3 H8)) ∧
            ∀ (H10 : AH),
            J_3 H10 →
            cond (decide (a1_1 > 0)) (
              ∀ (t78 : Int),
              t78 = IntKind.i64.wrap (a1_1 - 1) →
              grd data0a.isSome (
                (0 : Int) ≤ t78 ∧
                (t78 : Int) < ((data0l : Nat) : Int) ∧
                ∃ (t80 : Int),
                H10.cell ((adr data0a).block) ((adr data0a).off + (t78 : Int).toNat * 1) = some (.int .i64 t80) ∧
                grd data0a.isSome (
                  (0 : Int) ≤ pivot11 ∧
                  (pivot11 : Int) < ((data0l : Nat) : Int) ∧
                  ∃ (t84 : Int),
                  H10.cell ((adr data0a).block) ((adr data0a).off + (pivot11 : Int).toNat * 1) = some (.int .i64 t84) ∧
                  FW Ee F_cmp_Less_int64 [.int .i64 t80, .int .i64 t84] H10 fun v_6 H11 =>
                    ∃ (r85 : Bool),
                    v_6 = .bool r85 ∧
                    cond (!r85) (
                      FW Ee F_slices_partitionEqualOrdered_int64 [.slice data0a data0l data0c, .int .i64 a1_1, .int .i64 b2_1, .int .i64 pivot11] H11 fun v_7 H12 =>
                        ∃ (r92 : Int),
                        v_7 = .int .i64 r92 ∧
                        ∃ (m : Nat),
                        m < n ∧
                        Inv m limit3_2 r92 wasPartitioned9 wasBalanced8 b2_1 H12) (
                      FW Ee F_slices_partitionOrdered_int64 [.slice data0a data0l data0c, .int .i64 a1_1, .int .i64 b2_1, .int .i64 pivot11] H11 fun v_8 H13 =>
                        ∃ (r99_0 : Int) (r99_1 : Bool),
                        v_8 = .tuple ⟨[.int .i64 r99_0, .bool r99_1]⟩ ∧
                        ∀ (t105 : Int),
                        t105 = IntKind.i64.wrap (r99_0 - a1_1) →
                        ∀ (t108 : Int),
                        t108 = IntKind.i64.wrap (b2_1 - r99_0) →
                        (8 : Int) ≠ 0 ∧
                        ∀ (t110 : Int),
                        t110 = IntKind.i64.wrap ((t21 : Int).tdiv 8) →
                        cond (decide (t105 < t108)) (
                          FW Ee F_slices_pdqsortOrdered_int64 [.slice data0a data0l data0c, .int .i64 a1_1, .int .i64 r99_0, .int .i64 limit3_2] H13 fun v_9 H14 =>
                            v_9 = .tuple ⟨[]⟩ ∧
                            ∀ (t123 : Int),
                            t123 = IntKind.i64.wrap (r99_0 + 1) →
                            ∃ (m : Nat),
                            m < n ∧
                            Inv m limit3_2 t123 r99_1 (decide (t105 ≥ t110)) b2_1 H14) (
                          ∀ (t129 : Int),
                          t129 = IntKind.i64.wrap (r99_0 + 1) →
                          FW Ee F_slices_pdqsortOrdered_int64 [.slice data0a data0l data0c, .int .i64 t129, .int .i64 b2_1, .int .i64 limit3_2] H13 fun v_10 H15 =>
                            v_10 = .tuple ⟨[]⟩ ∧
                            ∃ (m : Nat),
                            m < n ∧
                            Inv m limit3_2 a1_1 r99_1 (decide (t108 ≥ t110)) r99_0 H15))))) (
              FW Ee F_slices_partitionOrdered_int64 [.slice data0a data0l data0c, .int .i64 a1_1, .int .i64 b2_1, .int .i64 pivot11] H10 fun v_11 H16 =>
                ∃ (r99_0_1 : Int) (r99_1_1 : Bool),
                v_11 = .tuple ⟨[.int .i64 r99_0_1, .bool r99_1_1]⟩ ∧
                ∀ (t105_1 : Int),
                t105_1 = IntKind.i64.wrap (r99_0_1 - a1_1) →
                ∀ (t108_1 : Int),
                t108_1 = IntKind.i64.wrap (b2_1 - r99_0_1) →
                (8 : Int) ≠ 0 ∧
                ∀ (t110_1 : Int),
                t110_1 = IntKind.i64.wrap ((t21 : Int).tdiv 8) →
                cond (decide (t105_1 < t108_1)) (
                  FW Ee F_slices_pdqsortOrdered_int64 [.slice data0a data0l data0c, .int .i64 a1_1, .int .i64 r99_0_1, .int .i64 limit3_2] H16 fun v_12 H17 =>
                    v_12 = .tuple ⟨[]⟩ ∧
                    ∀ (t123_1 : Int),
                    t123_1 = IntKind.i64.wrap (r99_0_1 + 1) →
                    ∃ (m : Nat),
                    m < n ∧
                    Inv m limit3_2 t123_1 r99_1_1 (decide (t105_1 ≥ t110_1)) b2_1 H17) (
                  ∀ (t129_1 : Int),
                  t129_1 = IntKind.i64.wrap (r99_0_1 + 1) →
                  FW Ee F_slices_pdqsortOrdered_int64 [.slice data0a data0l data0c, .int .i64 t129_1, .int .i64 b2_1, .int .i64 limit3_2] H16 fun v_13 H18 =>
                    v_13 = .tuple ⟨[]⟩ ∧
                    ∃ (m : Nat),
                    m < n ∧
                    Inv m limit3_2 a1_1 r99_1_1 (decide (t108_1 ≥ t110_1)) r99_0_1 H18))) (
            ∃ (J_4 : AH → Prop),
            J_4 H8 ∧
            ∀ (H19 : AH),
            J_4 H19 →
            cond (decide (a1_1 > 0)) (
              ∀ (t78_1 : Int),
              t78_1 = IntKind.i64.wrap (a1_1 - 1) →
              grd data0a.isSome (
                (0 : Int) ≤ t78_1 ∧
                (t78_1 : Int) < ((data0l : Nat) : Int) ∧
                ∃ (t80_1 : Int),
                H19.cell ((adr data0a).block) ((adr data0a).off + (t78_1 : Int).toNat * 1) = some (.int .i64 t80_1) ∧
                grd data0a.isSome (
                  (0 : Int) ≤ pivot11 ∧
                  (pivot11 : Int) < ((data0l : Nat) : Int) ∧
                  ∃ (t84_1 : Int),
                  H19.cell ((adr data0a).block) ((adr data0a).off + (pivot11 : Int).toNat * 1) = some (.int .i64 t84_1) ∧
                  FW Ee F_cmp_Less_int64 [.int .i64 t80_1, .int .i64 t84_1] H19 fun v_14 H20 =>
                    ∃ (r85_1 : Bool),
                    v_14 = .bool r85_1 ∧
                    cond (!r85_1) (
                      FW Ee F_slices_partitionEqualOrdered_int64 [.slice data0a data0l data0c, .int .i64 a1_1, .int .i64 b2_1, .int .i64 pivot11] H20 fun v_15 H21 =>
                        ∃ (r92_1 : Int),
                        v_15 = .int .i64 r92_1 ∧
                        ∃ (m : Nat),
                        m < n ∧
                        Inv m limit3_2 r92_1 wasPartitioned9 wasBalanced8 b2_1 H21) (
                      FW Ee F_slices_partitionOrdered_int64 [.slice data0a data0l data0c, .int .i64 a1_1, .int .i64 b2_1, .int .i64 pivot11] H20 fun v_16 H22 =>
                        ∃ (r99_0_2 : Int) (r99_1_2 : Bool),
                        v_16 = .tuple ⟨[.int .i64 r99_0_2, .bool r99_1_2]⟩ ∧
                        ∀ (t105_2 : Int),
                        t105_2 = IntKind.i64.wrap (r99_0_2 - a1_1) →
                        ∀ (t108_2 : Int),
                        t108_2 = IntKind.i64.wrap (b2_1 - r99_0_2) →
                        (8 : Int) ≠ 0 ∧
                        ∀ (t110_2 : Int),
                        t110_2 = IntKind.i64.wrap ((t21 : Int).tdiv 8) →
                        cond (decide (t105_2 < t108_2)) (
                          FW Ee F_slices_pdqsortOrdered_int64 [.slice data0a data0l data0c, .int .i64 a1_1, .int .i64 r99_0_2, .int .i64 limit3_2] H22 fun v_17 H23 =>
                            v_17 = .tuple ⟨[]⟩ ∧
                            ∀ (t123_2 : Int),
                            t123_2 = IntKind.i64.wrap (r99_0_2 + 1) →
                            ∃ (m : Nat),
                            m < n ∧
                            Inv m limit3_2 t123_2 r99_1_2 (decide (t105_2 ≥ t110_2)) b2_1 H23) (
                          ∀ (t129_2 : Int),
                          t129_2 = IntKind.i64.wrap (r99_0_2 + 1) →
                          FW Ee F_slices_pdqsortOrdered_int64 [.slice data0a data0l data0c, .int .i64 t129_2, .int .i64 b2_1, .int .i64 limit3_2] H22 fun v_18 H24 =>
                            v_18 = .tuple ⟨[]⟩ ∧
                            ∃ (m : Nat),
                            m < n ∧
                            Inv m limit3_2 a1_1 r99_1_2 (decide (t108_2 ≥ t110_2)) r99_0_2 H24))))) (
              FW Ee F_slices_partitionOrdered_int64 [.slice data0a data0l data0c, .int .i64 a1_1, .int .i64 b2_1, .int .i64 pivot11] H19 fun v_19 H25 =>
                ∃ (r99_0_3 : Int) (r99_1_3 : Bool),
                v_19 = .tuple ⟨[.int .i64 r99_0_3, .bool r99_1_3]⟩ ∧
                ∀ (t105_3 : Int),
                t105_3 = IntKind.i64.wrap (r99_0_3 - a1_1) →
                ∀ (t108_3 : Int),
                t108_3 = IntKind.i64.wrap (b2_1 - r99_0_3) →
                (8 : Int) ≠ 0 ∧
                ∀ (t110_3 : Int),
                t110_3 = IntKind.i64.wrap ((t21 : Int).tdiv 8) →
                cond (decide (t105_3 < t108_3)) (
                  FW Ee F_slices_pdqsortOrdered_int64 [.slice data0a data0l data0c, .int .i64 a1_1, .int .i64 r99_0_3, .int .i64 limit3_2] H25 fun v_20 H26 =>
                    v_20 = .tuple ⟨[]⟩ ∧
                    ∀ (t123_3 : Int),
                    t123_3 = IntKind.i64.wrap (r99_0_3 + 1) →
                    ∃ (m : Nat),
                    m < n ∧
                    Inv m limit3_2 t123_3 r99_1_3 (decide (t105_3 ≥ t110_3)) b2_1 H26) (
                  ∀ (t129_3 : Int),
                  t129_3 = IntKind.i64.wrap (r99_0_3 + 1) →
                  FW Ee F_slices_pdqsortOrdered_int64 [.slice data0a data0l data0c, .int .i64 t129_3, .int .i64 b2_1, .int .i64 limit3_2] H25 fun v_21 H27 =>
                    v_21 = .tuple ⟨[]⟩ ∧
                    ∃ (m : Nat),
                    m < n ∧
                    Inv m limit3_2 a1_1 r99_1_3 (decide (t108_3 ≥ t110_3)) r99_0_3 H27)))) (
          ∃ (J_5 : AH → Prop),
          J_5 H8 ∧
          ∀ (H28 : AH),
          J_5 H28 →
          cond (decide (a1_1 > 0)) (
            ∀ (t78_2 : Int),
            t78_2 = IntKind.i64.wrap (a1_1 - 1) →
            grd data0a.isSome (
              (0 : Int) ≤ t78_2 ∧
              (t78_2 : Int) < ((data0l : Nat) : Int) ∧
              ∃ (t80_2 : Int),
              H28.cell ((adr data0a).block) ((adr data0a).off + (t78_2 : Int).toNat * 1) = some (.int .i64 t80_2) ∧
              grd data0a.isSome (
                (0 : Int) ≤ pivot11 ∧
                (pivot11 : Int) < ((data0l : Nat) : Int) ∧
                ∃ (t84_2 : Int),
                H28.cell ((adr data0a).block) ((adr data0a).off + (pivot11 : Int).toNat * 1) = some (.int .i64 t84_2) ∧
                FW Ee F_cmp_Less_int64 [.int .i64 t80_2, .int .i64 t84_2] H28 fun v_22 H29 =>
                  ∃ (r85_2 : Bool),
                  v_22 = .bool r85_2 ∧
                  cond (!r85_2) (
                    FW Ee F_slices_partitionEqualOrdered_int64 [.slice data0a data0l data0c, .int .i64 a1_1, .int .i64 b2_1, .int .i64 pivot11] H29 fun v_23 H30 =>
                      ∃ (r92_2 : Int),
                      v_23 = .int .i64 r92_2 ∧
                      ∃ (m : Nat),
                      m < n ∧
                      Inv m limit3_2 r92_2 wasPartitioned9 wasBalanced8 b2_1 H30) (
                    FW Ee F_slices_partitionOrdered_int64 [.slice data0a data0l data0c, .int .i64 a1_1, .int .i64 b2_1, .int .i64 pivot11] H29 fun v_24 H31 =>
                      ∃ (r99_0_4 : Int) (r99_1_4 : Bool),
                      v_24 = .tuple ⟨[.int .i64 r99_0_4, .bool r99_1_4]⟩ ∧
                      ∀ (t105_4 : Int),
                      t105_4 = IntKind.i64.wrap (r99_0_4 - a1_1) →
                      ∀ (t108_4 : Int),
                      t108_4 = IntKind.i64.wrap (b2_1 - r99_0_4) →
                      (8 : Int) ≠ 0 ∧
                      ∀ (t110_4 : Int),
                      t110_4 = IntKind.i64.wrap ((t21 : Int).tdiv 8) →
                      cond (decide (t105_4 < t108_4)) (
                        FW Ee F_slices_pdqsortOrdered_int64 [.slice data0a data0l data0c, .int .i64 a1_1, .int .i64 r99_0_4, .int .i64 limit3_2] H31 fun v_25 H32 =>
                          v_25 = .tuple ⟨[]⟩ ∧
                          ∀ (t123_4 : Int),
                          t123_4 = IntKind.i64.wrap (r99_0_4 + 1) →
                          ∃ (m : Nat),
                          m < n ∧
                          Inv m limit3_2 t123_4 r99_1_4 (decide (t105_4 ≥ t110_4)) b2_1 H32) (
                        ∀ (t129_4 : Int),
                        t129_4 = IntKind.i64.wrap (r99_0_4 + 1) →
                        FW Ee F_slices_pdqsortOrdered_int64 [.slice data0a data0l data0c, .int .i64 t129_4, .int .i64 b2_1, .int .i64 limit3_2] H31 fun v_26 H33 =>
                          v_26 = .tuple ⟨[]⟩ ∧
                          ∃ (m : Nat),
                          m < n ∧
                          Inv m limit3_2 a1_1 r99_1_4 (decide (t108_4 ≥ t110_4)) r99_0_4 H33))))) (
            FW Ee F_slices_partitionOrdered_int64 [.slice data0a data0l data0c, .int .i64 a1_1, .int .i64 b2_1, .int .i64 pivot11] H28 fun v_27 H34 =>
              ∃ (r99_0_5 : Int) (r99_1_5 : Bool),
              v_27 = .tuple ⟨[.int .i64 r99_0_5, .bool r99_1_5]⟩ ∧
              ∀ (t105_5 : Int),
              t105_5 = IntKind.i64.wrap (r99_0_5 - a1_1) →
              ∀ (t108_5 : Int),
              t108_5 = IntKind.i64.wrap (b2_1 - r99_0_5) →
              (8 : Int) ≠ 0 ∧
              ∀ (t110_5 : Int),
              t110_5 = IntKind.i64.wrap ((t21 : Int).tdiv 8) →
              cond (decide (t105_5 < t108_5)) (
                FW Ee F_slices_pdqsortOrdered_int64 [.slice data0a data0l data0c, .int .i64 a1_1, .int .i64 r99_0_5, .int .i64 limit3_2] H34 fun v_28 H35 =>
                  v_28 = .tuple ⟨[]⟩ ∧
                  ∀ (t123_5 : Int),
                  t123_5 = IntKind.i64.wrap (r99_0_5 + 1) →
                  ∃ (m : Nat),
                  m < n ∧
                  Inv m limit3_2 t123_5 r99_1_5 (decide (t105_5 ≥ t110_5)) b2_1 H35) (
                ∀ (t129_5 : Int),
                t129_5 = IntKind.i64.wrap (r99_0_5 + 1) →
                FW Ee F_slices_pdqsortOrdered_int64 [.slice data0a data0l data0c, .int .i64 t129_5, .int .i64 b2_1, .int .i64 limit3_2] H34 fun v_29 H36 =>
                  v_29 = .tuple ⟨[]⟩ ∧
                  ∃ (m : Nat),
                  m < n ∧
                  Inv m limit3_2 a1_1 r99_1_5 (decide (t108_5 ≥ t110_5)) r99_0_5 H36)))))
set_option maxRecDepth 100000 in
theorem fw_slices_pdqsortOrdered_int64 {data0a : Option Addr} {data0l : Nat} {data0c : Nat} {a1 : Int} {b2 : Int} {limit3 : Int} {H : AH} {Q : Value → AH → Prop} (h : VC_slices_pdqsortOrdered_int64 data0a data0l data0c a1 b2 limit3 H Q) : FW Ee F_slices_pdqsortOrdered_int64 [.slice data0a data0l data0c, .int .i64 a1, .int .i64 b2, .int .i64 limit3] H Q := by
  have e : VC_slices_pdqsortOrdered_int64 data0a data0l data0c a1 b2 limit3 H Q = wpF Ee ⟨[], [35, 50, 68]⟩ F_slices_pdqsortOrdered_int64 [.slice data0a data0l data0c, .int .i64 a1, .int .i64 b2, .int .i64 limit3] H Q := by kernel_rfl
  letI : Sy := sy0
  exact wpF_sound (Eq.mp e h)
/-- slices.Sort[[]int64,int64] -/
def VC_slices_Sort_L_int64_int64 (x0a : Option Addr) (x0l : Nat) (x0c : Nat) (H : AH) (Q : Value → AH → Prop) : Prop :=
  ∀ (t8 : Int),
  t8 = IntKind.u64.wrap (((x0l : Nat) : Int)) →
  FW Ee F_math_bits_Len [.int .u64 t8] H fun v H1 =>
    ∃ (r9 : Int),
    v = .int .i64 r9 ∧
    FW Ee F_slices_pdqsortOrdered_int64 [.slice x0a x0l x0c, .int .i64 0, .int .i64 (((x0l : Nat) : Int)), .int .i64 r9] H1 fun v_1 H2 =>
      v_1 = .tuple ⟨[]⟩ ∧
      Q (.tuple ⟨[]⟩) H2
set_option maxRecDepth 100000 in
theorem fw_slices_Sort_L_int64_int64 {x0a : Option Addr} {x0l : Nat} {x0c : Nat} {H : AH} {Q : Value → AH → Prop} (h : VC_slices_Sort_L_int64_int64 x0a x0l x0c H Q) : FW Ee F_slices_Sort_L_int64_int64 [.slice x0a x0l x0c] H Q := by
  have e : VC_slices_Sort_L_int64_int64 x0a x0l x0c H Q = wpF Ee ⟨[], []⟩ F_slices_Sort_L_int64_int64 [.slice x0a x0l x0c] H Q := by kernel_rfl
  letI : Sy := sy0
  exact wpF_sound (Eq.mp e h)
end Go.Proofs.Cx
