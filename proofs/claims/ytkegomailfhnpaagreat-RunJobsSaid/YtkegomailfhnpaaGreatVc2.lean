/- What calls come to, as formulas: printed by a program. -/
import Derived.Test.YtkegomailfhnpaaGreatVc0
namespace Go.Proofs.Cx
open Go Go.Ev
set_option linter.unusedVariables false
set_option maxRecDepth 100000
/-- (*cohort/wire.Writer).Text -/
def VC_wire_Writer_Text (w0b : Nat) (s1 : List UInt8) (H : AH) (Q : Value → AH → Prop) : Prop :=
  ∀ (t7 : Int),
  t7 = IntKind.u64.wrap ((((s1 : List UInt8).length : Nat) : Int)) →
  FW Ee F_wire_Writer_Number [.pointer (some ⟨w0b, 0, none⟩), .int .u64 t7] H fun v H1 =>
    v = .tuple ⟨[]⟩ ∧
    FW Ee F_wire_Writer_Bytes [.pointer (some ⟨w0b, 0, none⟩), .string ⟨⟨s1⟩⟩] H1 fun v_1 H2 =>
      v_1 = .tuple ⟨[]⟩ ∧
      Q (.tuple ⟨[]⟩) H2
set_option maxRecDepth 100000 in
theorem fw_wire_Writer_Text {w0b : Nat} {s1 : List UInt8} {H : AH} {Q : Value → AH → Prop} (h : VC_wire_Writer_Text w0b s1 H Q) : FW Ee F_wire_Writer_Text [.pointer (some ⟨w0b, 0, none⟩), .string ⟨⟨s1⟩⟩] H Q := by
  have e : VC_wire_Writer_Text w0b s1 H Q = wpF Ee ⟨[], []⟩ F_wire_Writer_Text [.pointer (some ⟨w0b, 0, none⟩), .string ⟨⟨s1⟩⟩] H Q := by kernel_rfl
  letI : Sy := sy0
  exact wpF_sound (Eq.mp e h)
/-- (*cohort/wire.Reader).Bytes -/
def VC_wire_Reader_Bytes (r0b : Nat) (n1 : Int) (H : AH) (Q : Value → AH → Prop) : Prop :=
  FW Ee F_wire_Reader_Err [.pointer (some ⟨r0b, 0, none⟩)] H fun v H1 =>
    ∃ (r7 : Int),
    v = .int .i64 r7 ∧
    cond (r7 != 0) (
      Q (.string ⟨⟨[]⟩⟩) H1) (
      cond (decide (n1 < 0)) (
        ∃ (H2 : AH),
        storeCellsv H1 r0b 2 [.int .i64 1] = some H2 ∧
        Q (.string ⟨⟨[]⟩⟩) H2) (
        ∃ (t19 : List UInt8),
        H1.cell r0b 0 = some (.string ⟨⟨t19⟩⟩) ∧
        ∃ (t24 : Int),
        H1.cell r0b 1 = some (.int .i64 t24) ∧
        ∀ (t25 : Int),
        t25 = IntKind.i64.wrap (((((t19 : List UInt8).length : Nat) : Int)) - t24) →
        cond (decide (t25 < n1)) (
          ∃ (H3 : AH),
          storeCellsv H1 r0b 2 [.int .i64 4] = some H3 ∧
          Q (.string ⟨⟨[]⟩⟩) H3) (
          ∃ (t34 : Int),
          H1.cell r0b 1 = some (.int .i64 t34) ∧
          ∀ (t36 : Int),
          t36 = IntKind.i64.wrap (t34 + n1) →
          ∃ (H4 : AH),
          storeCellsv H1 r0b 1 [.int .i64 t36] = some H4 ∧
          ∃ (t42 : List UInt8),
          H4.cell r0b 0 = some (.string ⟨⟨t42⟩⟩) ∧
          ∃ (t46 : Int),
          H4.cell r0b 1 = some (.int .i64 t46) ∧
          ∀ (t48 : Int),
          t48 = IntKind.i64.wrap (t46 - n1) →
          ∃ (t52 : Int),
          H4.cell r0b 1 = some (.int .i64 t52) ∧
          ∃ (t53 : List UInt8),
          strv t42 (some (.int .i64 t48)) (some (.int .i64 t52)) = some (.string ⟨⟨t53⟩⟩) ∧
          Q (.string ⟨⟨t53⟩⟩) H4)))
set_option maxRecDepth 100000 in
theorem fw_wire_Reader_Bytes {r0b : Nat} {n1 : Int} {H : AH} {Q : Value → AH → Prop} (h : VC_wire_Reader_Bytes r0b n1 H Q) : FW Ee F_wire_Reader_Bytes [.pointer (some ⟨r0b, 0, none⟩), .int .i64 n1] H Q := by
  have e : VC_wire_Reader_Bytes r0b n1 H Q = wpF Ee ⟨[], []⟩ F_wire_Reader_Bytes [.pointer (some ⟨r0b, 0, none⟩), .int .i64 n1] H Q := by kernel_rfl
  letI : Sy := sy0
  exact wpF_sound (Eq.mp e h)
/-- (*cohort/wire.Reader).Text -/
def VC_wire_Reader_Text (r0b : Nat) (H : AH) (Q : Value → AH → Prop) : Prop :=
  FW Ee F_wire_Reader_At [.pointer (some ⟨r0b, 0, none⟩)] H fun v H1 =>
    ∃ (r6 : Int),
    v = .int .i64 r6 ∧
    FW Ee F_wire_Reader_Number [.pointer (some ⟨r0b, 0, none⟩)] H1 fun v_1 H2 =>
      ∃ (r8 : Int),
      v_1 = .int .u64 r8 ∧
      FW Ee F_wire_Reader_Err [.pointer (some ⟨r0b, 0, none⟩)] H2 fun v_2 H3 =>
        ∃ (r10 : Int),
        v_2 = .int .i64 r10 ∧
        cond (r10 != 0) (
          Q (.string ⟨⟨[]⟩⟩) H3) (
          FW Ee F_wire_Reader_Left [.pointer (some ⟨r0b, 0, none⟩)] H3 fun v_3 H4 =>
            ∃ (r14 : Int),
            v_3 = .int .i64 r14 ∧
            ∀ (t15 : Int),
            t15 = IntKind.u64.wrap (r14) →
            cond (decide (r8 > t15)) (
              ∃ (H5 : AH),
              storeCellsv H4 r0b 1 [.int .i64 r6] = some H5 ∧
              ∃ (H6 : AH),
              storeCellsv H5 r0b 2 [.int .i64 4] = some H6 ∧
              Q (.string ⟨⟨[]⟩⟩) H6) (
              ∀ (t26 : Int),
              t26 = IntKind.i64.wrap (r8) →
              FW Ee F_wire_Reader_Bytes [.pointer (some ⟨r0b, 0, none⟩), .int .i64 t26] H4 fun v_4 H7 =>
                ∃ (r27 : List UInt8),
                v_4 = .string ⟨⟨r27⟩⟩ ∧
                Q (.string ⟨⟨r27⟩⟩) H7))
set_option maxRecDepth 100000 in
theorem fw_wire_Reader_Text {r0b : Nat} {H : AH} {Q : Value → AH → Prop} (h : VC_wire_Reader_Text r0b H Q) : FW Ee F_wire_Reader_Text [.pointer (some ⟨r0b, 0, none⟩)] H Q := by
  have e : VC_wire_Reader_Text r0b H Q = wpF Ee ⟨[], []⟩ F_wire_Reader_Text [.pointer (some ⟨r0b, 0, none⟩)] H Q := by kernel_rfl
  letI : Sy := sy0
  exact wpF_sound (Eq.mp e h)
/-- cohort/cohortref01.Text -/
def VC_cohortref01_Text (s0 : List UInt8) (H : AH) (Q : Value → AH → Prop) : Prop :=
  ∀ (t5 : Int),
  t5 = IntKind.u64.wrap ((((s0 : List UInt8).length : Nat) : Int)) →
  FW Ee F_cohortref01_Number [.int .u64 t5] H fun v H1 =>
    ∃ (r6 : List UInt8),
    v = .string ⟨⟨r6⟩⟩ ∧
    (r6 : List UInt8).length + (s0 : List UInt8).length < 4611686018427387904 ∧
    Q (.string ⟨⟨r6 ++ s0⟩⟩) H1
set_option maxRecDepth 100000 in
theorem fw_cohortref01_Text {s0 : List UInt8} {H : AH} {Q : Value → AH → Prop} (h : VC_cohortref01_Text s0 H Q) : FW Ee F_cohortref01_Text [.string ⟨⟨s0⟩⟩] H Q := by
  have e : VC_cohortref01_Text s0 H Q = wpF Ee ⟨[], []⟩ F_cohortref01_Text [.string ⟨⟨s0⟩⟩] H Q := by kernel_rfl
  letI : Sy := sy0
  exact wpF_sound (Eq.mp e h)
/-- cohort/cohortref01.Unfold -/
def VC_cohortref01_Unfold (n0 : Int) (H : AH) (Q : Value → AH → Prop) : Prop :=
  (2 : Int) ≠ 0 ∧
  ∀ (t4 : Int),
  t4 = (n0 : Int).tmod 2 →
  cond (t4 == 1) (
    (2 : Int) ≠ 0 ∧
    ∀ (t7 : Int),
    t7 = IntKind.u64.wrap ((n0 : Int).tdiv 2) →
    ∀ (t8 : Int),
    t8 = IntKind.i64.wrap (t7) →
    ∀ (t9 : Int),
    t9 = IntKind.i64.wrap ((-1) - t8) →
    Q (.int .i64 t9) H) (
    (2 : Int) ≠ 0 ∧
    ∀ (t11 : Int),
    t11 = IntKind.u64.wrap ((n0 : Int).tdiv 2) →
    ∀ (t12 : Int),
    t12 = IntKind.i64.wrap (t11) →
    Q (.int .i64 t12) H)
set_option maxRecDepth 100000 in
theorem fw_cohortref01_Unfold {n0 : Int} {H : AH} {Q : Value → AH → Prop} (h : VC_cohortref01_Unfold n0 H Q) : FW Ee F_cohortref01_Unfold [.int .u64 n0] H Q := by
  have e : VC_cohortref01_Unfold n0 H Q = wpF Ee ⟨[], []⟩ F_cohortref01_Unfold [.int .u64 n0] H Q := by kernel_rfl
  letI : Sy := sy0
  exact wpF_sound (Eq.mp e h)
/-- (cohort/cohortref01.Reader).Number -/
def VC_cohortref01_Reader_Number (r0_S : List UInt8) (r0_At : Int) (r0_Err : Int) (H : AH) (Q : Value → AH → Prop) : Prop :=
  ∀ (H1 : AH),
  H1 = H.new (.cells [.string ⟨⟨r0_S⟩⟩, .int .i64 r0_At, .int .i64 r0_Err] 0) →
  ∀ (H2 : AH),
  H2 = H1.new (.cells [.string ⟨⟨[]⟩⟩, .int .i64 0, .int .i64 0] 0) →
  ∃ (t9 : Int),
  H2.cell H.next 2 = some (.int .i64 t9) ∧
  cond (t9 != 0) (
    ∃ (t11_S : List UInt8) (t11_At : Int) (t11_Err : Int),
    H2.cell H.next (0 + 0) = some (.string ⟨⟨t11_S⟩⟩) ∧
    H2.cell H.next (0 + 1) = some (.int .i64 t11_At) ∧
    H2.cell H.next (0 + 2) = some (.int .i64 t11_Err) ∧
    ∃ (H3 : AH),
    storeCellsv H2 H1.next 0 [.string ⟨⟨t11_S⟩⟩, .int .i64 t11_At, .int .i64 t11_Err] = some H3 ∧
    ∃ (r2_S : List UInt8) (r2_At : Int) (r2_Err : Int),
    H3.cell H1.next (0 + 0) = some (.string ⟨⟨r2_S⟩⟩) ∧
    H3.cell H1.next (0 + 1) = some (.int .i64 r2_At) ∧
    H3.cell H1.next (0 + 2) = some (.int .i64 r2_Err) ∧
    Q (.tuple ⟨[.agg ⟨[.string ⟨⟨r2_S⟩⟩, .int .i64 r2_At, .int .i64 r2_Err]⟩, .int .u64 0]⟩) H3) (
    ∃ (Inv : Nat → Int → Int → Int → Int → AH → Prop),
    (
      ∃ (n_1 : Nat),
      Inv n_1 0 0 1 0 H2) ∧
    ∀ (n : Nat),
    ∀ (t3 : Int) (n4 : Int) (unit5 : Int) (i6 : Int) (H4 : AH),
    Inv n t3 n4 unit5 i6 H4 →
    cond (decide (i6 < 10)) (
      ∃ (t17 : Int),
      H4.cell H.next 1 = some (.int .i64 t17) ∧
      ∀ (t19 : Int),
      t19 = IntKind.i64.wrap (t17 + i6) →
      ∃ (t21 : List UInt8),
      H4.cell H.next 0 = some (.string ⟨⟨t21⟩⟩) ∧
      cond (decide (t19 ≥ ((((t21 : List UInt8).length : Nat) : Int)))) (
        ∃ (H5 : AH),
        storeCellsv H4 H.next 2 [.int .i64 4] = some H5 ∧
        ∃ (t25_S : List UInt8) (t25_At : Int) (t25_Err : Int),
        H5.cell H.next (0 + 0) = some (.string ⟨⟨t25_S⟩⟩) ∧
        H5.cell H.next (0 + 1) = some (.int .i64 t25_At) ∧
        H5.cell H.next (0 + 2) = some (.int .i64 t25_Err) ∧
        ∃ (H6 : AH),
        storeCellsv H5 H1.next 0 [.string ⟨⟨t25_S⟩⟩, .int .i64 t25_At, .int .i64 t25_Err] = some H6 ∧
        ∃ (r2_S_1 : List UInt8) (r2_At_1 : Int) (r2_Err_1 : Int),
        H6.cell H1.next (0 + 0) = some (.string ⟨⟨r2_S_1⟩⟩) ∧
        H6.cell H1.next (0 + 1) = some (.int .i64 r2_At_1) ∧
        H6.cell H1.next (0 + 2) = some (.int .i64 r2_Err_1) ∧
        Q (.tuple ⟨[.agg ⟨[.string ⟨⟨r2_S_1⟩⟩, .int .i64 r2_At_1, .int .i64 r2_Err_1]⟩, .int .u64 0]⟩) H6) (
        ∃ (t27 : List UInt8),
        H4.cell H.next 0 = some (.string ⟨⟨t27⟩⟩) ∧
        ∃ (t29 : Int),
        H4.cell H.next 1 = some (.int .i64 t29) ∧
        ∀ (t31 : Int),
        t31 = IntKind.i64.wrap (t29 + i6) →
        (0 : Int) ≤ t31 ∧
        (t31 : Int) < (((t27 : List UInt8).length : Nat) : Int) ∧
        ∀ (t33 : Int),
        t33 = IntKind.u64.wrap (byteAt t27 t31) →
        cond (i6 == 9) (
          cond (decide (t33 > 1)) (
            ∃ (H7 : AH),
            storeCellsv H4 H.next 2 [.int .i64 6] = some H7 ∧
            ∃ (t49_S : List UInt8) (t49_At : Int) (t49_Err : Int),
            H7.cell H.next (0 + 0) = some (.string ⟨⟨t49_S⟩⟩) ∧
            H7.cell H.next (0 + 1) = some (.int .i64 t49_At) ∧
            H7.cell H.next (0 + 2) = some (.int .i64 t49_Err) ∧
            ∃ (H8 : AH),
            storeCellsv H7 H1.next 0 [.string ⟨⟨t49_S⟩⟩, .int .i64 t49_At, .int .i64 t49_Err] = some H8 ∧
            ∃ (r2_S_2 : List UInt8) (r2_At_2 : Int) (r2_Err_2 : Int),
            H8.cell H1.next (0 + 0) = some (.string ⟨⟨r2_S_2⟩⟩) ∧
            H8.cell H1.next (0 + 1) = some (.int .i64 r2_At_2) ∧
            H8.cell H1.next (0 + 2) = some (.int .i64 r2_Err_2) ∧
            Q (.tuple ⟨[.agg ⟨[.string ⟨⟨r2_S_2⟩⟩, .int .i64 r2_At_2, .int .i64 r2_Err_2]⟩, .int .u64 0]⟩) H8) (
            cond (decide (i6 > 0)) (
              cond (t33 == 0) (
                ∃ (H9 : AH),
                storeCellsv H4 H.next 2 [.int .i64 6] = some H9 ∧
                ∃ (t49_S_1 : List UInt8) (t49_At_1 : Int) (t49_Err_1 : Int),
                H9.cell H.next (0 + 0) = some (.string ⟨⟨t49_S_1⟩⟩) ∧
                H9.cell H.next (0 + 1) = some (.int .i64 t49_At_1) ∧
                H9.cell H.next (0 + 2) = some (.int .i64 t49_Err_1) ∧
                ∃ (H10 : AH),
                storeCellsv H9 H1.next 0 [.string ⟨⟨t49_S_1⟩⟩, .int .i64 t49_At_1, .int .i64 t49_Err_1] = some H10 ∧
                ∃ (r2_S_3 : List UInt8) (r2_At_3 : Int) (r2_Err_3 : Int),
                H10.cell H1.next (0 + 0) = some (.string ⟨⟨r2_S_3⟩⟩) ∧
                H10.cell H1.next (0 + 1) = some (.int .i64 r2_At_3) ∧
                H10.cell H1.next (0 + 2) = some (.int .i64 r2_Err_3) ∧
                Q (.tuple ⟨[.agg ⟨[.string ⟨⟨r2_S_3⟩⟩, .int .i64 r2_At_3, .int .i64 r2_Err_3]⟩, .int .u64 0]⟩) H10) (
                (128 : Int) ≠ 0 ∧
                ∀ (t52 : Int),
                t52 = (t33 : Int).tmod 128 →
                ∀ (t54 : Int),
                t54 = IntKind.u64.wrap (t52 * unit5) →
                ∀ (t55 : Int),
                t55 = IntKind.u64.wrap (n4 + t54) →
                ∀ (t57 : Int),
                t57 = IntKind.u64.wrap (unit5 * 128) →
                cond (decide (t33 < 128)) (
                  ∃ (t61 : Int),
                  H4.cell H.next 1 = some (.int .i64 t61) ∧
                  ∀ (t63 : Int),
                  t63 = IntKind.i64.wrap (i6 + 1) →
                  ∀ (t64 : Int),
                  t64 = IntKind.i64.wrap (t61 + t63) →
                  ∃ (H11 : AH),
                  storeCellsv H4 H.next 1 [.int .i64 t64] = some H11 ∧
                  ∃ (t66_S : List UInt8) (t66_At : Int) (t66_Err : Int),
                  H11.cell H.next (0 + 0) = some (.string ⟨⟨t66_S⟩⟩) ∧
                  H11.cell H.next (0 + 1) = some (.int .i64 t66_At) ∧
                  H11.cell H.next (0 + 2) = some (.int .i64 t66_Err) ∧
                  ∃ (H12 : AH),
                  storeCellsv H11 H1.next 0 [.string ⟨⟨t66_S⟩⟩, .int .i64 t66_At, .int .i64 t66_Err] = some H12 ∧
                  ∃ (r2_S_4 : List UInt8) (r2_At_4 : Int) (r2_Err_4 : Int),
                  H12.cell H1.next (0 + 0) = some (.string ⟨⟨r2_S_4⟩⟩) ∧
                  H12.cell H1.next (0 + 1) = some (.int .i64 r2_At_4) ∧
                  H12.cell H1.next (0 + 2) = some (.int .i64 r2_Err_4) ∧
                  Q (.tuple ⟨[.agg ⟨[.string ⟨⟨r2_S_4⟩⟩, .int .i64 r2_At_4, .int .i64 r2_Err_4]⟩, .int .u64 t55]⟩) H12) (
                  ∀ (t15 : Int),
                  t15 = IntKind.i64.wrap (i6 + 1) →
                  ∃ (m : Nat),
                  m < n ∧
                  Inv m t3 t55 t57 t15 H4))) (
              (128 : Int) ≠ 0 ∧
              ∀ (t52_1 : Int),
              t52_1 = (t33 : Int).tmod 128 →
              ∀ (t54_1 : Int),
              t54_1 = IntKind.u64.wrap (t52_1 * unit5) →
              ∀ (t55_1 : Int),
              t55_1 = IntKind.u64.wrap (n4 + t54_1) →
              ∀ (t57_1 : Int),
              t57_1 = IntKind.u64.wrap (unit5 * 128) →
              cond (decide (t33 < 128)) (
                ∃ (t61_1 : Int),
                H4.cell H.next 1 = some (.int .i64 t61_1) ∧
                ∀ (t63_1 : Int),
                t63_1 = IntKind.i64.wrap (i6 + 1) →
                ∀ (t64_1 : Int),
                t64_1 = IntKind.i64.wrap (t61_1 + t63_1) →
                ∃ (H13 : AH),
                storeCellsv H4 H.next 1 [.int .i64 t64_1] = some H13 ∧
                ∃ (t66_S_1 : List UInt8) (t66_At_1 : Int) (t66_Err_1 : Int),
                H13.cell H.next (0 + 0) = some (.string ⟨⟨t66_S_1⟩⟩) ∧
                H13.cell H.next (0 + 1) = some (.int .i64 t66_At_1) ∧
                H13.cell H.next (0 + 2) = some (.int .i64 t66_Err_1) ∧
                ∃ (H14 : AH),
                storeCellsv H13 H1.next 0 [.string ⟨⟨t66_S_1⟩⟩, .int .i64 t66_At_1, .int .i64 t66_Err_1] = some H14 ∧
                ∃ (r2_S_5 : List UInt8) (r2_At_5 : Int) (r2_Err_5 : Int),
                H14.cell H1.next (0 + 0) = some (.string ⟨⟨r2_S_5⟩⟩) ∧
                H14.cell H1.next (0 + 1) = some (.int .i64 r2_At_5) ∧
                H14.cell H1.next (0 + 2) = some (.int .i64 r2_Err_5) ∧
                Q (.tuple ⟨[.agg ⟨[.string ⟨⟨r2_S_5⟩⟩, .int .i64 r2_At_5, .int .i64 r2_Err_5]⟩, .int .u64 t55_1]⟩) H14) (
                ∀ (t15_1 : Int),
                t15_1 = IntKind.i64.wrap (i6 + 1) →
                ∃ (m : Nat),
                m < n ∧
                Inv m t3 t55_1 t57_1 t15_1 H4)))) (
          cond (decide (i6 > 0)) (
            cond (t33 == 0) (
              ∃ (H15 : AH),
              storeCellsv H4 H.next 2 [.int .i64 6] = some H15 ∧
              ∃ (t49_S_2 : List UInt8) (t49_At_2 : Int) (t49_Err_2 : Int),
              H15.cell H.next (0 + 0) = some (.string ⟨⟨t49_S_2⟩⟩) ∧
              H15.cell H.next (0 + 1) = some (.int .i64 t49_At_2) ∧
              H15.cell H.next (0 + 2) = some (.int .i64 t49_Err_2) ∧
              ∃ (H16 : AH),
              storeCellsv H15 H1.next 0 [.string ⟨⟨t49_S_2⟩⟩, .int .i64 t49_At_2, .int .i64 t49_Err_2] = some H16 ∧
              ∃ (r2_S_6 : List UInt8) (r2_At_6 : Int) (r2_Err_6 : Int),
              H16.cell H1.next (0 + 0) = some (.string ⟨⟨r2_S_6⟩⟩) ∧
              H16.cell H1.next (0 + 1) = some (.int .i64 r2_At_6) ∧
              H16.cell H1.next (0 + 2) = some (.int .i64 r2_Err_6) ∧
              Q (.tuple ⟨[.agg ⟨[.string ⟨⟨r2_S_6⟩⟩, .int .i64 r2_At_6, .int .i64 r2_Err_6]⟩, .int .u64 0]⟩) H16) (
              (128 : Int) ≠ 0 ∧
              ∀ (t52_2 : Int),
              t52_2 = (t33 : Int).tmod 128 →
              ∀ (t54_2 : Int),
              t54_2 = IntKind.u64.wrap (t52_2 * unit5) →
              ∀ (t55_2 : Int),
              t55_2 = IntKind.u64.wrap (n4 + t54_2) →
              ∀ (t57_2 : Int),
              t57_2 = IntKind.u64.wrap (unit5 * 128) →
              cond (decide (t33 < 128)) (
                ∃ (t61_2 : Int),
                H4.cell H.next 1 = some (.int .i64 t61_2) ∧
                ∀ (t63_2 : Int),
                t63_2 = IntKind.i64.wrap (i6 + 1) →
                ∀ (t64_2 : Int),
                t64_2 = IntKind.i64.wrap (t61_2 + t63_2) →
                ∃ (H17 : AH),
                storeCellsv H4 H.next 1 [.int .i64 t64_2] = some H17 ∧
                ∃ (t66_S_2 : List UInt8) (t66_At_2 : Int) (t66_Err_2 : Int),
                H17.cell H.next (0 + 0) = some (.string ⟨⟨t66_S_2⟩⟩) ∧
                H17.cell H.next (0 + 1) = some (.int .i64 t66_At_2) ∧
                H17.cell H.next (0 + 2) = some (.int .i64 t66_Err_2) ∧
                ∃ (H18 : AH),
                storeCellsv H17 H1.next 0 [.string ⟨⟨t66_S_2⟩⟩, .int .i64 t66_At_2, .int .i64 t66_Err_2] = some H18 ∧
                ∃ (r2_S_7 : List UInt8) (r2_At_7 : Int) (r2_Err_7 : Int),
                H18.cell H1.next (0 + 0) = some (.string ⟨⟨r2_S_7⟩⟩) ∧
                H18.cell H1.next (0 + 1) = some (.int .i64 r2_At_7) ∧
                H18.cell H1.next (0 + 2) = some (.int .i64 r2_Err_7) ∧
                Q (.tuple ⟨[.agg ⟨[.string ⟨⟨r2_S_7⟩⟩, .int .i64 r2_At_7, .int .i64 r2_Err_7]⟩, .int .u64 t55_2]⟩) H18) (
                ∀ (t15_2 : Int),
                t15_2 = IntKind.i64.wrap (i6 + 1) →
                ∃ (m : Nat),
                m < n ∧
                Inv m t3 t55_2 t57_2 t15_2 H4))) (
            (128 : Int) ≠ 0 ∧
            ∀ (t52_3 : Int),
            t52_3 = (t33 : Int).tmod 128 →
            ∀ (t54_3 : Int),
            t54_3 = IntKind.u64.wrap (t52_3 * unit5) →
            ∀ (t55_3 : Int),
            t55_3 = IntKind.u64.wrap (n4 + t54_3) →
            ∀ (t57_3 : Int),
            t57_3 = IntKind.u64.wrap (unit5 * 128) →
            cond (decide (t33 < 128)) (
              ∃ (t61_3 : Int),
              H4.cell H.next 1 = some (.int .i64 t61_3) ∧
              ∀ (t63_3 : Int),
              t63_3 = IntKind.i64.wrap (i6 + 1) →
              ∀ (t64_3 : Int),
              t64_3 = IntKind.i64.wrap (t61_3 + t63_3) →
              ∃ (H19 : AH),
              storeCellsv H4 H.next 1 [.int .i64 t64_3] = some H19 ∧
              ∃ (t66_S_3 : List UInt8) (t66_At_3 : Int) (t66_Err_3 : Int),
              H19.cell H.next (0 + 0) = some (.string ⟨⟨t66_S_3⟩⟩) ∧
              H19.cell H.next (0 + 1) = some (.int .i64 t66_At_3) ∧
              H19.cell H.next (0 + 2) = some (.int .i64 t66_Err_3) ∧
              ∃ (H20 : AH),
              storeCellsv H19 H1.next 0 [.string ⟨⟨t66_S_3⟩⟩, .int .i64 t66_At_3, .int .i64 t66_Err_3] = some H20 ∧
              ∃ (r2_S_8 : List UInt8) (r2_At_8 : Int) (r2_Err_8 : Int),
              H20.cell H1.next (0 + 0) = some (.string ⟨⟨r2_S_8⟩⟩) ∧
              H20.cell H1.next (0 + 1) = some (.int .i64 r2_At_8) ∧
              H20.cell H1.next (0 + 2) = some (.int .i64 r2_Err_8) ∧
              Q (.tuple ⟨[.agg ⟨[.string ⟨⟨r2_S_8⟩⟩, .int .i64 r2_At_8, .int .i64 r2_Err_8]⟩, .int .u64 t55_3]⟩) H20) (
              ∀ (t15_3 : Int),
              t15_3 = IntKind.i64.wrap (i6 + 1) →
              ∃ (m : Nat),
              m < n ∧
              Inv m t3 t55_3 t57_3 t15_3 H4))))) (
      ∃ (H21 : AH),
      storeCellsv H4 H.next 2 [.int .i64 6] = some H21 ∧
      ∃ (t69_S : List UInt8) (t69_At : Int) (t69_Err : Int),
      H21.cell H.next (0 + 0) = some (.string ⟨⟨t69_S⟩⟩) ∧
      H21.cell H.next (0 + 1) = some (.int .i64 t69_At) ∧
      H21.cell H.next (0 + 2) = some (.int .i64 t69_Err) ∧
      ∃ (H22 : AH),
      storeCellsv H21 H1.next 0 [.string ⟨⟨t69_S⟩⟩, .int .i64 t69_At, .int .i64 t69_Err] = some H22 ∧
      ∃ (r2_S_9 : List UInt8) (r2_At_9 : Int) (r2_Err_9 : Int),
      H22.cell H1.next (0 + 0) = some (.string ⟨⟨r2_S_9⟩⟩) ∧
      H22.cell H1.next (0 + 1) = some (.int .i64 r2_At_9) ∧
      H22.cell H1.next (0 + 2) = some (.int .i64 r2_Err_9) ∧
      Q (.tuple ⟨[.agg ⟨[.string ⟨⟨r2_S_9⟩⟩, .int .i64 r2_At_9, .int .i64 r2_Err_9]⟩, .int .u64 0]⟩) H22))
set_option maxRecDepth 100000 in
theorem fw_cohortref01_Reader_Number {r0_S : List UInt8} {r0_At : Int} {r0_Err : Int} {H : AH} {Q : Value → AH → Prop} (h : VC_cohortref01_Reader_Number r0_S r0_At r0_Err H Q) : FW Ee F_cohortref01_Reader_Number [.agg ⟨[.string ⟨⟨r0_S⟩⟩, .int .i64 r0_At, .int .i64 r0_Err]⟩] H Q := by
  have e : VC_cohortref01_Reader_Number r0_S r0_At r0_Err H Q = wpF Ee ⟨[], []⟩ F_cohortref01_Reader_Number [.agg ⟨[.string ⟨⟨r0_S⟩⟩, .int .i64 r0_At, .int .i64 r0_Err]⟩] H Q := by kernel_rfl
  letI : Sy := sy0
  exact wpF_sound (Eq.mp e h)
/-- (cohort/cohortref01.Reader).Bytes -/
def VC_cohortref01_Reader_Bytes (r0_S : List UInt8) (r0_At : Int) (r0_Err : Int) (n1 : Int) (H : AH) (Q : Value → AH → Prop) : Prop :=
  ∀ (H1 : AH),
  H1 = H.new (.cells [.string ⟨⟨r0_S⟩⟩, .int .i64 r0_At, .int .i64 r0_Err] 0) →
  ∀ (H2 : AH),
  H2 = H1.new (.cells [.string ⟨⟨[]⟩⟩, .int .i64 0, .int .i64 0] 0) →
  ∃ (t8 : Int),
  H2.cell H.next 2 = some (.int .i64 t8) ∧
  cond (t8 != 0) (
    ∃ (t10_S : List UInt8) (t10_At : Int) (t10_Err : Int),
    H2.cell H.next (0 + 0) = some (.string ⟨⟨t10_S⟩⟩) ∧
    H2.cell H.next (0 + 1) = some (.int .i64 t10_At) ∧
    H2.cell H.next (0 + 2) = some (.int .i64 t10_Err) ∧
    ∃ (H3 : AH),
    storeCellsv H2 H1.next 0 [.string ⟨⟨t10_S⟩⟩, .int .i64 t10_At, .int .i64 t10_Err] = some H3 ∧
    ∃ (r4_S : List UInt8) (r4_At : Int) (r4_Err : Int),
    H3.cell H1.next (0 + 0) = some (.string ⟨⟨r4_S⟩⟩) ∧
    H3.cell H1.next (0 + 1) = some (.int .i64 r4_At) ∧
    H3.cell H1.next (0 + 2) = some (.int .i64 r4_Err) ∧
    Q (.tuple ⟨[.agg ⟨[.string ⟨⟨r4_S⟩⟩, .int .i64 r4_At, .int .i64 r4_Err]⟩, .string ⟨⟨[]⟩⟩]⟩) H3) (
    cond (decide (n1 < 0)) (
      ∃ (H4 : AH),
      storeCellsv H2 H.next 2 [.int .i64 1] = some H4 ∧
      ∃ (t15_S : List UInt8) (t15_At : Int) (t15_Err : Int),
      H4.cell H.next (0 + 0) = some (.string ⟨⟨t15_S⟩⟩) ∧
      H4.cell H.next (0 + 1) = some (.int .i64 t15_At) ∧
      H4.cell H.next (0 + 2) = some (.int .i64 t15_Err) ∧
      ∃ (H5 : AH),
      storeCellsv H4 H1.next 0 [.string ⟨⟨t15_S⟩⟩, .int .i64 t15_At, .int .i64 t15_Err] = some H5 ∧
      ∃ (r4_S_1 : List UInt8) (r4_At_1 : Int) (r4_Err_1 : Int),
      H5.cell H1.next (0 + 0) = some (.string ⟨⟨r4_S_1⟩⟩) ∧
      H5.cell H1.next (0 + 1) = some (.int .i64 r4_At_1) ∧
      H5.cell H1.next (0 + 2) = some (.int .i64 r4_Err_1) ∧
      Q (.tuple ⟨[.agg ⟨[.string ⟨⟨r4_S_1⟩⟩, .int .i64 r4_At_1, .int .i64 r4_Err_1]⟩, .string ⟨⟨[]⟩⟩]⟩) H5) (
      ∃ (t19 : List UInt8),
      H2.cell H.next 0 = some (.string ⟨⟨t19⟩⟩) ∧
      ∃ (t22 : Int),
      H2.cell H.next 1 = some (.int .i64 t22) ∧
      ∀ (t23 : Int),
      t23 = IntKind.i64.wrap (((((t19 : List UInt8).length : Nat) : Int)) - t22) →
      cond (decide (n1 > t23)) (
        ∃ (H6 : AH),
        storeCellsv H2 H.next 2 [.int .i64 4] = some H6 ∧
        ∃ (t26_S : List UInt8) (t26_At : Int) (t26_Err : Int),
        H6.cell H.next (0 + 0) = some (.string ⟨⟨t26_S⟩⟩) ∧
        H6.cell H.next (0 + 1) = some (.int .i64 t26_At) ∧
        H6.cell H.next (0 + 2) = some (.int .i64 t26_Err) ∧
        ∃ (H7 : AH),
        storeCellsv H6 H1.next 0 [.string ⟨⟨t26_S⟩⟩, .int .i64 t26_At, .int .i64 t26_Err] = some H7 ∧
        ∃ (r4_S_2 : List UInt8) (r4_At_2 : Int) (r4_Err_2 : Int),
        H7.cell H1.next (0 + 0) = some (.string ⟨⟨r4_S_2⟩⟩) ∧
        H7.cell H1.next (0 + 1) = some (.int .i64 r4_At_2) ∧
        H7.cell H1.next (0 + 2) = some (.int .i64 r4_Err_2) ∧
        Q (.tuple ⟨[.agg ⟨[.string ⟨⟨r4_S_2⟩⟩, .int .i64 r4_At_2, .int .i64 r4_Err_2]⟩, .string ⟨⟨[]⟩⟩]⟩) H7) (
        ∃ (t28 : Int),
        H2.cell H.next 1 = some (.int .i64 t28) ∧
        ∀ (t30 : Int),
        t30 = IntKind.i64.wrap (t28 + n1) →
        ∃ (H8 : AH),
        storeCellsv H2 H.next 1 [.int .i64 t30] = some H8 ∧
        ∃ (t32_S : List UInt8) (t32_At : Int) (t32_Err : Int),
        H8.cell H.next (0 + 0) = some (.string ⟨⟨t32_S⟩⟩) ∧
        H8.cell H.next (0 + 1) = some (.int .i64 t32_At) ∧
        H8.cell H.next (0 + 2) = some (.int .i64 t32_Err) ∧
        ∃ (t34 : List UInt8),
        H8.cell H.next 0 = some (.string ⟨⟨t34⟩⟩) ∧
        ∃ (t36 : Int),
        H8.cell H.next 1 = some (.int .i64 t36) ∧
        ∀ (t38 : Int),
        t38 = IntKind.i64.wrap (t36 - n1) →
        ∃ (t40 : Int),
        H8.cell H.next 1 = some (.int .i64 t40) ∧
        ∃ (t41 : List UInt8),
        strv t34 (some (.int .i64 t38)) (some (.int .i64 t40)) = some (.string ⟨⟨t41⟩⟩) ∧
        ∃ (H9 : AH),
        storeCellsv H8 H1.next 0 [.string ⟨⟨t32_S⟩⟩, .int .i64 t32_At, .int .i64 t32_Err] = some H9 ∧
        (match strv t34 (some (.int .i64 t38)) (some (.int .i64 t40)) with | some v => some v | none => none) = some (.string ⟨⟨t41⟩⟩) ∧
        H9.cell H.next 1 = some (.int .i64 t40) ∧
        H9.cell H.next 1 = some (.int .i64 t36) ∧
        H9.cell H.next 0 = some (.string ⟨⟨t34⟩⟩) ∧
        ∃ (r4_S_3 : List UInt8) (r4_At_3 : Int) (r4_Err_3 : Int),
        H9.cell H1.next (0 + 0) = some (.string ⟨⟨r4_S_3⟩⟩) ∧
        H9.cell H1.next (0 + 1) = some (.int .i64 r4_At_3) ∧
        H9.cell H1.next (0 + 2) = some (.int .i64 r4_Err_3) ∧
        Q (.tuple ⟨[.agg ⟨[.string ⟨⟨r4_S_3⟩⟩, .int .i64 r4_At_3, .int .i64 r4_Err_3]⟩, .string ⟨⟨t41⟩⟩]⟩) H9)))
set_option maxRecDepth 100000 in
theorem fw_cohortref01_Reader_Bytes {r0_S : List UInt8} {r0_At : Int} {r0_Err : Int} {n1 : Int} {H : AH} {Q : Value → AH → Prop} (h : VC_cohortref01_Reader_Bytes r0_S r0_At r0_Err n1 H Q) : FW Ee F_cohortref01_Reader_Bytes [.agg ⟨[.string ⟨⟨r0_S⟩⟩, .int .i64 r0_At, .int .i64 r0_Err]⟩, .int .i64 n1] H Q := by
  have e : VC_cohortref01_Reader_Bytes r0_S r0_At r0_Err n1 H Q = wpF Ee ⟨[], []⟩ F_cohortref01_Reader_Bytes [.agg ⟨[.string ⟨⟨r0_S⟩⟩, .int .i64 r0_At, .int .i64 r0_Err]⟩, .int .i64 n1] H Q := by kernel_rfl
  letI : Sy := sy0
  exact wpF_sound (Eq.mp e h)
/-- (cohort/cohortref01.Reader).Text -/
def VC_cohortref01_Reader_Text (r0_S : List UInt8) (r0_At : Int) (r0_Err : Int) (H : AH) (Q : Value → AH → Prop) : Prop :=
  ∀ (H1 : AH),
  H1 = H.new (.cells [.string ⟨⟨r0_S⟩⟩, .int .i64 r0_At, .int .i64 r0_Err] 0) →
  ∀ (H2 : AH),
  H2 = H1.new (.cells [.string ⟨⟨[]⟩⟩, .int .i64 0, .int .i64 0] 0) →
  ∃ (t7_S : List UInt8) (t7_At : Int) (t7_Err : Int),
  H2.cell H.next (0 + 0) = some (.string ⟨⟨t7_S⟩⟩) ∧
  H2.cell H.next (0 + 1) = some (.int .i64 t7_At) ∧
  H2.cell H.next (0 + 2) = some (.int .i64 t7_Err) ∧
  FW Ee F_cohortref01_Reader_Number [.agg ⟨[.string ⟨⟨t7_S⟩⟩, .int .i64 t7_At, .int .i64 t7_Err]⟩] H2 fun v H3 =>
    ∃ (r8_0_S : List UInt8) (r8_0_At : Int) (r8_0_Err : Int) (r8_1 : Int),
    v = .tuple ⟨[.agg ⟨[.string ⟨⟨r8_0_S⟩⟩, .int .i64 r8_0_At, .int .i64 r8_0_Err]⟩, .int .u64 r8_1]⟩ ∧
    ∀ (H4 : AH),
    H4 = H3.new (.cells [.string ⟨⟨[]⟩⟩, .int .i64 0, .int .i64 0] 0) →
    ∃ (H5 : AH),
    storeCellsv H4 H3.next 0 [.string ⟨⟨r8_0_S⟩⟩, .int .i64 r8_0_At, .int .i64 r8_0_Err] = some H5 ∧
    ∃ (t12 : Int),
    H5.cell H3.next 2 = some (.int .i64 t12) ∧
    cond (t12 != 0) (
      ∃ (t14_S : List UInt8) (t14_At : Int) (t14_Err : Int),
      H5.cell H3.next (0 + 0) = some (.string ⟨⟨t14_S⟩⟩) ∧
      H5.cell H3.next (0 + 1) = some (.int .i64 t14_At) ∧
      H5.cell H3.next (0 + 2) = some (.int .i64 t14_Err) ∧
      ∃ (H6 : AH),
      storeCellsv H5 H1.next 0 [.string ⟨⟨t14_S⟩⟩, .int .i64 t14_At, .int .i64 t14_Err] = some H6 ∧
      ∃ (r2_S : List UInt8) (r2_At : Int) (r2_Err : Int),
      H6.cell H1.next (0 + 0) = some (.string ⟨⟨r2_S⟩⟩) ∧
      H6.cell H1.next (0 + 1) = some (.int .i64 r2_At) ∧
      H6.cell H1.next (0 + 2) = some (.int .i64 r2_Err) ∧
      Q (.tuple ⟨[.agg ⟨[.string ⟨⟨r2_S⟩⟩, .int .i64 r2_At, .int .i64 r2_Err]⟩, .string ⟨⟨[]⟩⟩]⟩) H6) (
      ∃ (t17 : List UInt8),
      H5.cell H3.next 0 = some (.string ⟨⟨t17⟩⟩) ∧
      ∃ (t20 : Int),
      H5.cell H3.next 1 = some (.int .i64 t20) ∧
      ∀ (t21 : Int),
      t21 = IntKind.i64.wrap (((((t17 : List UInt8).length : Nat) : Int)) - t20) →
      ∀ (t22 : Int),
      t22 = IntKind.u64.wrap (t21) →
      cond (decide (r8_1 > t22)) (
        ∃ (H7 : AH),
        storeCellsv H5 H.next 2 [.int .i64 4] = some H7 ∧
        ∃ (t25_S : List UInt8) (t25_At : Int) (t25_Err : Int),
        H7.cell H.next (0 + 0) = some (.string ⟨⟨t25_S⟩⟩) ∧
        H7.cell H.next (0 + 1) = some (.int .i64 t25_At) ∧
        H7.cell H.next (0 + 2) = some (.int .i64 t25_Err) ∧
        ∃ (H8 : AH),
        storeCellsv H7 H1.next 0 [.string ⟨⟨t25_S⟩⟩, .int .i64 t25_At, .int .i64 t25_Err] = some H8 ∧
        ∃ (r2_S_1 : List UInt8) (r2_At_1 : Int) (r2_Err_1 : Int),
        H8.cell H1.next (0 + 0) = some (.string ⟨⟨r2_S_1⟩⟩) ∧
        H8.cell H1.next (0 + 1) = some (.int .i64 r2_At_1) ∧
        H8.cell H1.next (0 + 2) = some (.int .i64 r2_Err_1) ∧
        Q (.tuple ⟨[.agg ⟨[.string ⟨⟨r2_S_1⟩⟩, .int .i64 r2_At_1, .int .i64 r2_Err_1]⟩, .string ⟨⟨[]⟩⟩]⟩) H8) (
        ∃ (t26_S : List UInt8) (t26_At : Int) (t26_Err : Int),
        H5.cell H3.next (0 + 0) = some (.string ⟨⟨t26_S⟩⟩) ∧
        H5.cell H3.next (0 + 1) = some (.int .i64 t26_At) ∧
        H5.cell H3.next (0 + 2) = some (.int .i64 t26_Err) ∧
        ∀ (t28 : Int),
        t28 = IntKind.i64.wrap (r8_1) →
        FW Ee F_cohortref01_Reader_Bytes [.agg ⟨[.string ⟨⟨t26_S⟩⟩, .int .i64 t26_At, .int .i64 t26_Err]⟩, .int .i64 t28] H5 fun v_1 H9 =>
          ∃ (r29_0_S : List UInt8) (r29_0_At : Int) (r29_0_Err : Int) (r29_1 : List UInt8),
          v_1 = .tuple ⟨[.agg ⟨[.string ⟨⟨r29_0_S⟩⟩, .int .i64 r29_0_At, .int .i64 r29_0_Err]⟩, .string ⟨⟨r29_1⟩⟩]⟩ ∧
          ∃ (H10 : AH),
          storeCellsv H9 H1.next 0 [.string ⟨⟨r29_0_S⟩⟩, .int .i64 r29_0_At, .int .i64 r29_0_Err] = some H10 ∧
          ∃ (r2_S_2 : List UInt8) (r2_At_2 : Int) (r2_Err_2 : Int),
          H10.cell H1.next (0 + 0) = some (.string ⟨⟨r2_S_2⟩⟩) ∧
          H10.cell H1.next (0 + 1) = some (.int .i64 r2_At_2) ∧
          H10.cell H1.next (0 + 2) = some (.int .i64 r2_Err_2) ∧
          Q (.tuple ⟨[.agg ⟨[.string ⟨⟨r2_S_2⟩⟩, .int .i64 r2_At_2, .int .i64 r2_Err_2]⟩, .string ⟨⟨r29_1⟩⟩]⟩) H10))
set_option maxRecDepth 100000 in
theorem fw_cohortref01_Reader_Text {r0_S : List UInt8} {r0_At : Int} {r0_Err : Int} {H : AH} {Q : Value → AH → Prop} (h : VC_cohortref01_Reader_Text r0_S r0_At r0_Err H Q) : FW Ee F_cohortref01_Reader_Text [.agg ⟨[.string ⟨⟨r0_S⟩⟩, .int .i64 r0_At, .int .i64 r0_Err]⟩] H Q := by
  have e : VC_cohortref01_Reader_Text r0_S r0_At r0_Err H Q = wpF Ee ⟨[], []⟩ F_cohortref01_Reader_Text [.agg ⟨[.string ⟨⟨r0_S⟩⟩, .int .i64 r0_At, .int .i64 r0_Err]⟩] H Q := by kernel_rfl
  letI : Sy := sy0
  exact wpF_sound (Eq.mp e h)
/-- (cohort/cohortref01.Reader).Count -/
def VC_cohortref01_Reader_Count (r0_S : List UInt8) (r0_At : Int) (r0_Err : Int) (most1 : Int) (H : AH) (Q : Value → AH → Prop) : Prop :=
  ∀ (H1 : AH),
  H1 = H.new (.cells [.string ⟨⟨r0_S⟩⟩, .int .i64 r0_At, .int .i64 r0_Err] 0) →
  ∀ (H2 : AH),
  H2 = H1.new (.cells [.string ⟨⟨[]⟩⟩, .int .i64 0, .int .i64 0] 0) →
  ∃ (t9_S : List UInt8) (t9_At : Int) (t9_Err : Int),
  H2.cell H.next (0 + 0) = some (.string ⟨⟨t9_S⟩⟩) ∧
  H2.cell H.next (0 + 1) = some (.int .i64 t9_At) ∧
  H2.cell H.next (0 + 2) = some (.int .i64 t9_Err) ∧
  FW Ee F_cohortref01_Reader_Number [.agg ⟨[.string ⟨⟨t9_S⟩⟩, .int .i64 t9_At, .int .i64 t9_Err]⟩] H2 fun v H3 =>
    ∃ (r10_0_S : List UInt8) (r10_0_At : Int) (r10_0_Err : Int) (r10_1 : Int),
    v = .tuple ⟨[.agg ⟨[.string ⟨⟨r10_0_S⟩⟩, .int .i64 r10_0_At, .int .i64 r10_0_Err]⟩, .int .u64 r10_1]⟩ ∧
    ∀ (H4 : AH),
    H4 = H3.new (.cells [.string ⟨⟨[]⟩⟩, .int .i64 0, .int .i64 0] 0) →
    ∃ (H5 : AH),
    storeCellsv H4 H3.next 0 [.string ⟨⟨r10_0_S⟩⟩, .int .i64 r10_0_At, .int .i64 r10_0_Err] = some H5 ∧
    ∃ (t14 : Int),
    H5.cell H3.next 2 = some (.int .i64 t14) ∧
    cond (t14 == 0) (
      cond (decide (most1 < 0)) (
        ∃ (H6 : AH),
        storeCellsv H5 H.next 2 [.int .i64 5] = some H6 ∧
        ∃ (t27_S : List UInt8) (t27_At : Int) (t27_Err : Int),
        H6.cell H.next (0 + 0) = some (.string ⟨⟨t27_S⟩⟩) ∧
        H6.cell H.next (0 + 1) = some (.int .i64 t27_At) ∧
        H6.cell H.next (0 + 2) = some (.int .i64 t27_Err) ∧
        ∃ (H7 : AH),
        storeCellsv H6 H1.next 0 [.string ⟨⟨t27_S⟩⟩, .int .i64 t27_At, .int .i64 t27_Err] = some H7 ∧
        ∃ (r4_S : List UInt8) (r4_At : Int) (r4_Err : Int),
        H7.cell H1.next (0 + 0) = some (.string ⟨⟨r4_S⟩⟩) ∧
        H7.cell H1.next (0 + 1) = some (.int .i64 r4_At) ∧
        H7.cell H1.next (0 + 2) = some (.int .i64 r4_Err) ∧
        Q (.tuple ⟨[.agg ⟨[.string ⟨⟨r4_S⟩⟩, .int .i64 r4_At, .int .i64 r4_Err]⟩, .int .i64 0]⟩) H7) (
        ∀ (t22 : Int),
        t22 = IntKind.u64.wrap (most1) →
        cond (decide (r10_1 > t22)) (
          ∃ (H8 : AH),
          storeCellsv H5 H.next 2 [.int .i64 5] = some H8 ∧
          ∃ (t27_S_1 : List UInt8) (t27_At_1 : Int) (t27_Err_1 : Int),
          H8.cell H.next (0 + 0) = some (.string ⟨⟨t27_S_1⟩⟩) ∧
          H8.cell H.next (0 + 1) = some (.int .i64 t27_At_1) ∧
          H8.cell H.next (0 + 2) = some (.int .i64 t27_Err_1) ∧
          ∃ (H9 : AH),
          storeCellsv H8 H1.next 0 [.string ⟨⟨t27_S_1⟩⟩, .int .i64 t27_At_1, .int .i64 t27_Err_1] = some H9 ∧
          ∃ (r4_S_1 : List UInt8) (r4_At_1 : Int) (r4_Err_1 : Int),
          H9.cell H1.next (0 + 0) = some (.string ⟨⟨r4_S_1⟩⟩) ∧
          H9.cell H1.next (0 + 1) = some (.int .i64 r4_At_1) ∧
          H9.cell H1.next (0 + 2) = some (.int .i64 r4_Err_1) ∧
          Q (.tuple ⟨[.agg ⟨[.string ⟨⟨r4_S_1⟩⟩, .int .i64 r4_At_1, .int .i64 r4_Err_1]⟩, .int .i64 0]⟩) H9) (
          ∃ (t28_S : List UInt8) (t28_At : Int) (t28_Err : Int),
          H5.cell H3.next (0 + 0) = some (.string ⟨⟨t28_S⟩⟩) ∧
          H5.cell H3.next (0 + 1) = some (.int .i64 t28_At) ∧
          H5.cell H3.next (0 + 2) = some (.int .i64 t28_Err) ∧
          ∀ (t30 : Int),
          t30 = IntKind.i64.wrap (r10_1) →
          ∃ (H10 : AH),
          storeCellsv H5 H1.next 0 [.string ⟨⟨t28_S⟩⟩, .int .i64 t28_At, .int .i64 t28_Err] = some H10 ∧
          ∃ (r4_S_2 : List UInt8) (r4_At_2 : Int) (r4_Err_2 : Int),
          H10.cell H1.next (0 + 0) = some (.string ⟨⟨r4_S_2⟩⟩) ∧
          H10.cell H1.next (0 + 1) = some (.int .i64 r4_At_2) ∧
          H10.cell H1.next (0 + 2) = some (.int .i64 r4_Err_2) ∧
          Q (.tuple ⟨[.agg ⟨[.string ⟨⟨r4_S_2⟩⟩, .int .i64 r4_At_2, .int .i64 r4_Err_2]⟩, .int .i64 t30]⟩) H10))) (
      ∃ (t28_S_1 : List UInt8) (t28_At_1 : Int) (t28_Err_1 : Int),
      H5.cell H3.next (0 + 0) = some (.string ⟨⟨t28_S_1⟩⟩) ∧
      H5.cell H3.next (0 + 1) = some (.int .i64 t28_At_1) ∧
      H5.cell H3.next (0 + 2) = some (.int .i64 t28_Err_1) ∧
      ∀ (t30_1 : Int),
      t30_1 = IntKind.i64.wrap (r10_1) →
      ∃ (H11 : AH),
      storeCellsv H5 H1.next 0 [.string ⟨⟨t28_S_1⟩⟩, .int .i64 t28_At_1, .int .i64 t28_Err_1] = some H11 ∧
      ∃ (r4_S_3 : List UInt8) (r4_At_3 : Int) (r4_Err_3 : Int),
      H11.cell H1.next (0 + 0) = some (.string ⟨⟨r4_S_3⟩⟩) ∧
      H11.cell H1.next (0 + 1) = some (.int .i64 r4_At_3) ∧
      H11.cell H1.next (0 + 2) = some (.int .i64 r4_Err_3) ∧
      Q (.tuple ⟨[.agg ⟨[.string ⟨⟨r4_S_3⟩⟩, .int .i64 r4_At_3, .int .i64 r4_Err_3]⟩, .int .i64 t30_1]⟩) H11)
set_option maxRecDepth 100000 in
theorem fw_cohortref01_Reader_Count {r0_S : List UInt8} {r0_At : Int} {r0_Err : Int} {most1 : Int} {H : AH} {Q : Value → AH → Prop} (h : VC_cohortref01_Reader_Count r0_S r0_At r0_Err most1 H Q) : FW Ee F_cohortref01_Reader_Count [.agg ⟨[.string ⟨⟨r0_S⟩⟩, .int .i64 r0_At, .int .i64 r0_Err]⟩, .int .i64 most1] H Q := by
  have e : VC_cohortref01_Reader_Count r0_S r0_At r0_Err most1 H Q = wpF Ee ⟨[], []⟩ F_cohortref01_Reader_Count [.agg ⟨[.string ⟨⟨r0_S⟩⟩, .int .i64 r0_At, .int .i64 r0_Err]⟩, .int .i64 most1] H Q := by kernel_rfl
  letI : Sy := sy0
  exact wpF_sound (Eq.mp e h)
/-- (cohort/cohortref01.Reader).Signed -/
def VC_cohortref01_Reader_Signed (r0_S : List UInt8) (r0_At : Int) (r0_Err : Int) (H : AH) (Q : Value → AH → Prop) : Prop :=
  ∀ (H1 : AH),
  H1 = H.new (.cells [.string ⟨⟨r0_S⟩⟩, .int .i64 r0_At, .int .i64 r0_Err] 0) →
  ∀ (H2 : AH),
  H2 = H1.new (.cells [.string ⟨⟨[]⟩⟩, .int .i64 0, .int .i64 0] 0) →
  ∃ (t7_S : List UInt8) (t7_At : Int) (t7_Err : Int),
  H2.cell H.next (0 + 0) = some (.string ⟨⟨t7_S⟩⟩) ∧
  H2.cell H.next (0 + 1) = some (.int .i64 t7_At) ∧
  H2.cell H.next (0 + 2) = some (.int .i64 t7_Err) ∧
  FW Ee F_cohortref01_Reader_Number [.agg ⟨[.string ⟨⟨t7_S⟩⟩, .int .i64 t7_At, .int .i64 t7_Err]⟩] H2 fun v H3 =>
    ∃ (r8_0_S : List UInt8) (r8_0_At : Int) (r8_0_Err : Int) (r8_1 : Int),
    v = .tuple ⟨[.agg ⟨[.string ⟨⟨r8_0_S⟩⟩, .int .i64 r8_0_At, .int .i64 r8_0_Err]⟩, .int .u64 r8_1]⟩ ∧
    ∀ (H4 : AH),
    H4 = H3.new (.cells [.string ⟨⟨[]⟩⟩, .int .i64 0, .int .i64 0] 0) →
    ∃ (H5 : AH),
    storeCellsv H4 H3.next 0 [.string ⟨⟨r8_0_S⟩⟩, .int .i64 r8_0_At, .int .i64 r8_0_Err] = some H5 ∧
    ∃ (t11_S : List UInt8) (t11_At : Int) (t11_Err : Int),
    H5.cell H3.next (0 + 0) = some (.string ⟨⟨t11_S⟩⟩) ∧
    H5.cell H3.next (0 + 1) = some (.int .i64 t11_At) ∧
    H5.cell H3.next (0 + 2) = some (.int .i64 t11_Err) ∧
    FW Ee F_cohortref01_Unfold [.int .u64 r8_1] H5 fun v_1 H6 =>
      ∃ (r13 : Int),
      v_1 = .int .i64 r13 ∧
      ∃ (H7 : AH),
      storeCellsv H6 H1.next 0 [.string ⟨⟨t11_S⟩⟩, .int .i64 t11_At, .int .i64 t11_Err] = some H7 ∧
      H6.cell H3.next (0 + 0) = some (.string ⟨⟨t11_S⟩⟩) ∧
      H6.cell H3.next (0 + 1) = some (.int .i64 t11_At) ∧
      H6.cell H3.next (0 + 2) = some (.int .i64 t11_Err) ∧
      ∃ (r2_S : List UInt8) (r2_At : Int) (r2_Err : Int),
      H7.cell H1.next (0 + 0) = some (.string ⟨⟨r2_S⟩⟩) ∧
      H7.cell H1.next (0 + 1) = some (.int .i64 r2_At) ∧
      H7.cell H1.next (0 + 2) = some (.int .i64 r2_Err) ∧
      Q (.tuple ⟨[.agg ⟨[.string ⟨⟨r2_S⟩⟩, .int .i64 r2_At, .int .i64 r2_Err]⟩, .int .i64 r13]⟩) H7
set_option maxRecDepth 100000 in
theorem fw_cohortref01_Reader_Signed {r0_S : List UInt8} {r0_At : Int} {r0_Err : Int} {H : AH} {Q : Value → AH → Prop} (h : VC_cohortref01_Reader_Signed r0_S r0_At r0_Err H Q) : FW Ee F_cohortref01_Reader_Signed [.agg ⟨[.string ⟨⟨r0_S⟩⟩, .int .i64 r0_At, .int .i64 r0_Err]⟩] H Q := by
  have e : VC_cohortref01_Reader_Signed r0_S r0_At r0_Err H Q = wpF Ee ⟨[], []⟩ F_cohortref01_Reader_Signed [.agg ⟨[.string ⟨⟨r0_S⟩⟩, .int .i64 r0_At, .int .i64 r0_Err]⟩] H Q := by kernel_rfl
  letI : Sy := sy0
  exact wpF_sound (Eq.mp e h)
/-- (cohort/cohortref01.Reader).End -/
def VC_cohortref01_Reader_End (r0_S : List UInt8) (r0_At : Int) (r0_Err : Int) (H : AH) (Q : Value → AH → Prop) : Prop :=
  ∀ (H1 : AH),
  H1 = H.new (.cells [.string ⟨⟨r0_S⟩⟩, .int .i64 r0_At, .int .i64 r0_Err] 0) →
  ∀ (H2 : AH),
  H2 = H1.new (.cells [.string ⟨⟨[]⟩⟩, .int .i64 0, .int .i64 0] 0) →
  ∃ (t4 : Int),
  H2.cell H.next 2 = some (.int .i64 t4) ∧
  cond (t4 == 0) (
    ∃ (t8 : Int),
    H2.cell H.next 1 = some (.int .i64 t8) ∧
    ∃ (t10 : List UInt8),
    H2.cell H.next 0 = some (.string ⟨⟨t10⟩⟩) ∧
    cond (decide (t8 < ((((t10 : List UInt8).length : Nat) : Int)))) (
      ∃ (H3 : AH),
      storeCellsv H2 H.next 2 [.int .i64 5] = some H3 ∧
      ∃ (t15_S : List UInt8) (t15_At : Int) (t15_Err : Int),
      H3.cell H.next (0 + 0) = some (.string ⟨⟨t15_S⟩⟩) ∧
      H3.cell H.next (0 + 1) = some (.int .i64 t15_At) ∧
      H3.cell H.next (0 + 2) = some (.int .i64 t15_Err) ∧
      ∃ (H4 : AH),
      storeCellsv H3 H1.next 0 [.string ⟨⟨t15_S⟩⟩, .int .i64 t15_At, .int .i64 t15_Err] = some H4 ∧
      ∃ (r2_S : List UInt8) (r2_At : Int) (r2_Err : Int),
      H4.cell H1.next (0 + 0) = some (.string ⟨⟨r2_S⟩⟩) ∧
      H4.cell H1.next (0 + 1) = some (.int .i64 r2_At) ∧
      H4.cell H1.next (0 + 2) = some (.int .i64 r2_Err) ∧
      Q (.agg ⟨[.string ⟨⟨r2_S⟩⟩, .int .i64 r2_At, .int .i64 r2_Err]⟩) H4) (
      ∃ (t15_S_1 : List UInt8) (t15_At_1 : Int) (t15_Err_1 : Int),
      H2.cell H.next (0 + 0) = some (.string ⟨⟨t15_S_1⟩⟩) ∧
      H2.cell H.next (0 + 1) = some (.int .i64 t15_At_1) ∧
      H2.cell H.next (0 + 2) = some (.int .i64 t15_Err_1) ∧
      ∃ (H5 : AH),
      storeCellsv H2 H1.next 0 [.string ⟨⟨t15_S_1⟩⟩, .int .i64 t15_At_1, .int .i64 t15_Err_1] = some H5 ∧
      ∃ (r2_S_1 : List UInt8) (r2_At_1 : Int) (r2_Err_1 : Int),
      H5.cell H1.next (0 + 0) = some (.string ⟨⟨r2_S_1⟩⟩) ∧
      H5.cell H1.next (0 + 1) = some (.int .i64 r2_At_1) ∧
      H5.cell H1.next (0 + 2) = some (.int .i64 r2_Err_1) ∧
      Q (.agg ⟨[.string ⟨⟨r2_S_1⟩⟩, .int .i64 r2_At_1, .int .i64 r2_Err_1]⟩) H5)) (
    ∃ (t15_S_2 : List UInt8) (t15_At_2 : Int) (t15_Err_2 : Int),
    H2.cell H.next (0 + 0) = some (.string ⟨⟨t15_S_2⟩⟩) ∧
    H2.cell H.next (0 + 1) = some (.int .i64 t15_At_2) ∧
    H2.cell H.next (0 + 2) = some (.int .i64 t15_Err_2) ∧
    ∃ (H6 : AH),
    storeCellsv H2 H1.next 0 [.string ⟨⟨t15_S_2⟩⟩, .int .i64 t15_At_2, .int .i64 t15_Err_2] = some H6 ∧
    ∃ (r2_S_2 : List UInt8) (r2_At_2 : Int) (r2_Err_2 : Int),
    H6.cell H1.next (0 + 0) = some (.string ⟨⟨r2_S_2⟩⟩) ∧
    H6.cell H1.next (0 + 1) = some (.int .i64 r2_At_2) ∧
    H6.cell H1.next (0 + 2) = some (.int .i64 r2_Err_2) ∧
    Q (.agg ⟨[.string ⟨⟨r2_S_2⟩⟩, .int .i64 r2_At_2, .int .i64 r2_Err_2]⟩) H6)
set_option maxRecDepth 100000 in
theorem fw_cohortref01_Reader_End {r0_S : List UInt8} {r0_At : Int} {r0_Err : Int} {H : AH} {Q : Value → AH → Prop} (h : VC_cohortref01_Reader_End r0_S r0_At r0_Err H Q) : FW Ee F_cohortref01_Reader_End [.agg ⟨[.string ⟨⟨r0_S⟩⟩, .int .i64 r0_At, .int .i64 r0_Err]⟩] H Q := by
  have e : VC_cohortref01_Reader_End r0_S r0_At r0_Err H Q = wpF Ee ⟨[], []⟩ F_cohortref01_Reader_End [.agg ⟨[.string ⟨⟨r0_S⟩⟩, .int .i64 r0_At, .int .i64 r0_Err]⟩] H Q := by kernel_rfl
  letI : Sy := sy0
  exact wpF_sound (Eq.mp e h)
end Go.Proofs.Cx
