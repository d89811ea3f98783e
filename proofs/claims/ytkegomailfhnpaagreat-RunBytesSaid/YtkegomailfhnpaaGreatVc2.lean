/- What calls come to, as formulas: printed by a program. -/
import Derived.Test.YtkegomailfhnpaaGreatVc0
namespace Go.Proofs.Cx
open Go Go.Ev
set_option linter.unusedVariables false
/-- cohort/run.Encode -/
def VC_run_Encode (o0_Kind : Int) (o0_Err : Int) (o0_Steps : Int) (o0_Valuesa : Option Addr) (o0_Valuesl : Nat) (o0_Valuesc : Nat) (H : AH) (Q : Value → AH → Prop) : Prop :=
  ∀ (H1 : AH),
  H1 = H.new (.cells [.int .i64 o0_Kind, .int .i64 o0_Err, .int .i64 o0_Steps, .slice o0_Valuesa o0_Valuesl o0_Valuesc] 0) →
  FW Ee F_wire_NewWriter [] H1 fun v H2 =>
    ∃ (r6 : Option Addr),
    v = .pointer r6 ∧
    ∃ (t9 : Int),
    H2.cell H.next 0 = some (.int .i64 t9) ∧
    FW Ee F_wire_Writer_Count [.pointer r6, .int .i64 t9] H2 fun v_1 H3 =>
      v_1 = .tuple ⟨[]⟩ ∧
      ∃ (t13 : Int),
      H3.cell H.next 1 = some (.int .i64 t13) ∧
      FW Ee F_wire_Writer_Count [.pointer r6, .int .i64 t13] H3 fun v_2 H4 =>
        v_2 = .tuple ⟨[]⟩ ∧
        ∃ (t17 : Int),
        H4.cell H.next 2 = some (.int .i64 t17) ∧
        FW Ee F_wire_Writer_Count [.pointer r6, .int .i64 t17] H4 fun v_3 H5 =>
          v_3 = .tuple ⟨[]⟩ ∧
          ∃ (t21a : Option Addr) (t21l : Nat) (t21c : Nat),
          H5.cell H.next 3 = some (.slice t21a t21l t21c) ∧
          FW Ee F_wire_Writer_Count [.pointer r6, .int .i64 (((t21l : Nat) : Int))] H5 fun v_4 H6 =>
            v_4 = .tuple ⟨[]⟩ ∧
            ∃ (t25a : Option Addr) (t25l : Nat) (t25c : Nat),
            H6.cell H.next 3 = some (.slice t25a t25l t25c) ∧
            ∃ (Inv : Nat → Int → AH → Prop),
            (
              ∃ (n_1 : Nat),
              Inv n_1 0 H6) ∧
            ∀ (n : Nat),
            ∀ (t27 : Int) (H7 : AH),
            Inv n t27 H7 →
            cond (decide (t27 < (((t25l : Nat) : Int)))) (
              grd t25a.isSome (
                (0 : Int) ≤ t27 ∧
                (t27 : Int) < ((t25l : Nat) : Int) ∧
                ∃ (t30_ID : Int) (t30_V : Int),
                H7.cell ((adr t25a).block) ((adr t25a).off + (t27 : Int).toNat * 2 + 0) = some (.int .i64 t30_ID) ∧
                H7.cell ((adr t25a).block) ((adr t25a).off + (t27 : Int).toNat * 2 + 1) = some (.int .i64 t30_V) ∧
                ∀ (H8 : AH),
                H8 = H7.new (.cells [.int .i64 0, .int .i64 0] 0) →
                ∃ (H9 : AH),
                storeCellsv H8 H7.next 0 [.int .i64 t30_ID, .int .i64 t30_V] = some H9 ∧
                ∃ (t33 : Int),
                H9.cell H7.next 0 = some (.int .i64 t33) ∧
                FW Ee F_wire_Writer_Signed [.pointer r6, .int .i64 t33] H9 fun v_5 H10 =>
                  v_5 = .tuple ⟨[]⟩ ∧
                  ∃ (t37 : Int),
                  H10.cell H7.next 1 = some (.int .i64 t37) ∧
                  FW Ee F_wire_Writer_Signed [.pointer r6, .int .i64 t37] H10 fun v_6 H11 =>
                    v_6 = .tuple ⟨[]⟩ ∧
                    ∀ (t39 : Int),
                    t39 = IntKind.i64.wrap (t27 + 1) →
                    ∃ (m : Nat),
                    m < n ∧
                    Inv m t39 H11)) (
              FW Ee F_wire_Writer_All [.pointer r6] H7 fun v_7 H12 =>
                ∃ (r41 : List UInt8),
                v_7 = .string ⟨⟨r41⟩⟩ ∧
                Q (.string ⟨⟨r41⟩⟩) H12)
set_option maxRecDepth 100000 in
theorem fw_run_Encode {o0_Kind : Int} {o0_Err : Int} {o0_Steps : Int} {o0_Valuesa : Option Addr} {o0_Valuesl : Nat} {o0_Valuesc : Nat} {H : AH} {Q : Value → AH → Prop} (h : VC_run_Encode o0_Kind o0_Err o0_Steps o0_Valuesa o0_Valuesl o0_Valuesc H Q) : FW Ee F_run_Encode [.agg ⟨[.int .i64 o0_Kind, .int .i64 o0_Err, .int .i64 o0_Steps, .slice o0_Valuesa o0_Valuesl o0_Valuesc]⟩] H Q := by
  have e : VC_run_Encode o0_Kind o0_Err o0_Steps o0_Valuesa o0_Valuesl o0_Valuesc H Q = wpF Ee ⟨[], []⟩ F_run_Encode [.agg ⟨[.int .i64 o0_Kind, .int .i64 o0_Err, .int .i64 o0_Steps, .slice o0_Valuesa o0_Valuesl o0_Valuesc]⟩] H Q := by kernel_rfl
  letI : Sy := sy0
  exact wpF_sound (Eq.mp e h)
/-- cohort/run.Decode -/
def VC_run_Decode (s0 : List UInt8) (H : AH) (Q : Value → AH → Prop) : Prop :=
  ∀ (H1 : AH),
  H1 = H.new (.cells [.int .i64 0, .int .i64 0, .int .i64 0, .slice none 0 0] 0) →
  FW Ee F_wire_NewReader [.string ⟨⟨s0⟩⟩] H1 fun v H2 =>
    ∃ (r9 : Option Addr),
    v = .pointer r9 ∧
    FW Ee F_wire_Reader_Count [.pointer r9, .int .i64 2] H2 fun v_1 H3 =>
      ∃ (r11 : Int),
      v_1 = .int .i64 r11 ∧
      FW Ee F_wire_Reader_Count [.pointer r9, .int .i64 1000] H3 fun v_2 H4 =>
        ∃ (r13 : Int),
        v_2 = .int .i64 r13 ∧
        FW Ee F_wire_Reader_Count [.pointer r9, .int .i64 1000] H4 fun v_3 H5 =>
          ∃ (r15 : Int),
          v_3 = .int .i64 r15 ∧
          ∀ (H6 : AH),
          H6 = H5.new (.cells [.int .i64 0, .int .i64 0, .int .i64 0, .slice none 0 0] 0) →
          ∃ (H7 : AH),
          storeCellsv H6 H5.next 0 [.int .i64 r11, .int .i64 r13, .int .i64 r15, .slice none 0 0] = some H7 ∧
          FW Ee F_wire_Reader_Count [.pointer r9, .int .i64 256] H7 fun v_4 H8 =>
            ∃ (r18 : Int),
            v_4 = .int .i64 r18 ∧
            ∃ (Inv : Nat → Int → AH → Prop),
            (
              ∃ (n_1 : Nat),
              Inv n_1 r18 H8) ∧
            ∀ (n : Nat),
            ∀ (n6 : Int) (H9 : AH),
            Inv n n6 H9 →
            cond (decide (n6 > 0)) (
              FW Ee F_wire_Reader_Err [.pointer r9] H9 fun v_5 H10 =>
                ∃ (r23 : Int),
                v_5 = .int .i64 r23 ∧
                cond (r23 == 0) (
                  ∃ (t29a : Option Addr) (t29l : Nat) (t29c : Nat),
                  H10.cell H5.next 3 = some (.slice t29a t29l t29c) ∧
                  FW Ee F_wire_Reader_Signed [.pointer r9] H10 fun v_6 H11 =>
                    ∃ (r31 : Int),
                    v_6 = .int .i64 r31 ∧
                    FW Ee F_wire_Reader_Signed [.pointer r9] H11 fun v_7 H12 =>
                      ∃ (r33 : Int),
                      v_7 = .int .i64 r33 ∧
                      ∀ (H13 : AH),
                      H13 = H12.new (.cells [.int .i64 r31, .int .i64 r33] 0) →
                      ∃ (t36a : Option Addr) (t36l : Nat) (t36c : Nat) (H14 : AH),
                      apnd H13 2 16 t29a t29l t29c (.slice (some ⟨H12.next, 0, none⟩) 1 2) = some (.slice t36a t36l t36c, H14) ∧
                      ∃ (H15 : AH),
                      storeCellsv H14 H5.next 3 [.slice t36a t36l t36c] = some H15 ∧
                      H13.cell H5.next 3 = some (.slice t29a t29l t29c) ∧
                      H11.cell H5.next 3 = some (.slice t29a t29l t29c) ∧
                      ∀ (t27 : Int),
                      t27 = IntKind.i64.wrap (n6 - 1) →
                      ∃ (m : Nat),
                      m < n ∧
                      Inv m t27 H15) (
                  FW Ee F_wire_Reader_End [.pointer r9] H10 fun v_8 H16 =>
                    ∃ (r39 : Int),
                    v_8 = .int .i64 r39 ∧
                    cond (r39 != 0) (
                      ∃ (H17 : AH),
                      storeCellsv H16 H.next 0 [.int .i64 0, .int .i64 0, .int .i64 0, .slice none 0 0] = some H17 ∧
                      ∃ (r2_Kind : Int) (r2_Err : Int) (r2_Steps : Int) (r2_Valuesa : Option Addr) (r2_Valuesl : Nat) (r2_Valuesc : Nat),
                      H17.cell H.next (0 + 0) = some (.int .i64 r2_Kind) ∧
                      H17.cell H.next (0 + 1) = some (.int .i64 r2_Err) ∧
                      H17.cell H.next (0 + 2) = some (.int .i64 r2_Steps) ∧
                      H17.cell H.next (0 + 3) = some (.slice r2_Valuesa r2_Valuesl r2_Valuesc) ∧
                      Q (.tuple ⟨[.agg ⟨[.int .i64 r2_Kind, .int .i64 r2_Err, .int .i64 r2_Steps, .slice r2_Valuesa r2_Valuesl r2_Valuesc]⟩, .int .i64 r39]⟩) H17) (
                      ∃ (t44_Kind : Int) (t44_Err : Int) (t44_Steps : Int) (t44_Valuesa : Option Addr) (t44_Valuesl : Nat) (t44_Valuesc : Nat),
                      H16.cell H5.next (0 + 0) = some (.int .i64 t44_Kind) ∧
                      H16.cell H5.next (0 + 1) = some (.int .i64 t44_Err) ∧
                      H16.cell H5.next (0 + 2) = some (.int .i64 t44_Steps) ∧
                      H16.cell H5.next (0 + 3) = some (.slice t44_Valuesa t44_Valuesl t44_Valuesc) ∧
                      ∃ (H18 : AH),
                      storeCellsv H16 H.next 0 [.int .i64 t44_Kind, .int .i64 t44_Err, .int .i64 t44_Steps, .slice t44_Valuesa t44_Valuesl t44_Valuesc] = some H18 ∧
                      ∃ (r2_Kind_1 : Int) (r2_Err_1 : Int) (r2_Steps_1 : Int) (r2_Valuesa_1 : Option Addr) (r2_Valuesl_1 : Nat) (r2_Valuesc_1 : Nat),
                      H18.cell H.next (0 + 0) = some (.int .i64 r2_Kind_1) ∧
                      H18.cell H.next (0 + 1) = some (.int .i64 r2_Err_1) ∧
                      H18.cell H.next (0 + 2) = some (.int .i64 r2_Steps_1) ∧
                      H18.cell H.next (0 + 3) = some (.slice r2_Valuesa_1 r2_Valuesl_1 r2_Valuesc_1) ∧
                      Q (.tuple ⟨[.agg ⟨[.int .i64 r2_Kind_1, .int .i64 r2_Err_1, .int .i64 r2_Steps_1, .slice r2_Valuesa_1 r2_Valuesl_1 r2_Valuesc_1]⟩, .int .i64 0]⟩) H18))) (
              FW Ee F_wire_Reader_End [.pointer r9] H9 fun v_9 H19 =>
                ∃ (r39_1 : Int),
                v_9 = .int .i64 r39_1 ∧
                cond (r39_1 != 0) (
                  ∃ (H20 : AH),
                  storeCellsv H19 H.next 0 [.int .i64 0, .int .i64 0, .int .i64 0, .slice none 0 0] = some H20 ∧
                  ∃ (r2_Kind_2 : Int) (r2_Err_2 : Int) (r2_Steps_2 : Int) (r2_Valuesa_2 : Option Addr) (r2_Valuesl_2 : Nat) (r2_Valuesc_2 : Nat),
                  H20.cell H.next (0 + 0) = some (.int .i64 r2_Kind_2) ∧
                  H20.cell H.next (0 + 1) = some (.int .i64 r2_Err_2) ∧
                  H20.cell H.next (0 + 2) = some (.int .i64 r2_Steps_2) ∧
                  H20.cell H.next (0 + 3) = some (.slice r2_Valuesa_2 r2_Valuesl_2 r2_Valuesc_2) ∧
                  Q (.tuple ⟨[.agg ⟨[.int .i64 r2_Kind_2, .int .i64 r2_Err_2, .int .i64 r2_Steps_2, .slice r2_Valuesa_2 r2_Valuesl_2 r2_Valuesc_2]⟩, .int .i64 r39_1]⟩) H20) (
                  ∃ (t44_Kind_1 : Int) (t44_Err_1 : Int) (t44_Steps_1 : Int) (t44_Valuesa_1 : Option Addr) (t44_Valuesl_1 : Nat) (t44_Valuesc_1 : Nat),
                  H19.cell H5.next (0 + 0) = some (.int .i64 t44_Kind_1) ∧
                  H19.cell H5.next (0 + 1) = some (.int .i64 t44_Err_1) ∧
                  H19.cell H5.next (0 + 2) = some (.int .i64 t44_Steps_1) ∧
                  H19.cell H5.next (0 + 3) = some (.slice t44_Valuesa_1 t44_Valuesl_1 t44_Valuesc_1) ∧
                  ∃ (H21 : AH),
                  storeCellsv H19 H.next 0 [.int .i64 t44_Kind_1, .int .i64 t44_Err_1, .int .i64 t44_Steps_1, .slice t44_Valuesa_1 t44_Valuesl_1 t44_Valuesc_1] = some H21 ∧
                  ∃ (r2_Kind_3 : Int) (r2_Err_3 : Int) (r2_Steps_3 : Int) (r2_Valuesa_3 : Option Addr) (r2_Valuesl_3 : Nat) (r2_Valuesc_3 : Nat),
                  H21.cell H.next (0 + 0) = some (.int .i64 r2_Kind_3) ∧
                  H21.cell H.next (0 + 1) = some (.int .i64 r2_Err_3) ∧
                  H21.cell H.next (0 + 2) = some (.int .i64 r2_Steps_3) ∧
                  H21.cell H.next (0 + 3) = some (.slice r2_Valuesa_3 r2_Valuesl_3 r2_Valuesc_3) ∧
                  Q (.tuple ⟨[.agg ⟨[.int .i64 r2_Kind_3, .int .i64 r2_Err_3, .int .i64 r2_Steps_3, .slice r2_Valuesa_3 r2_Valuesl_3 r2_Valuesc_3]⟩, .int .i64 0]⟩) H21))
set_option maxRecDepth 100000 in
theorem fw_run_Decode {s0 : List UInt8} {H : AH} {Q : Value → AH → Prop} (h : VC_run_Decode s0 H Q) : FW Ee F_run_Decode [.string ⟨⟨s0⟩⟩] H Q := by
  have e : VC_run_Decode s0 H Q = wpF Ee ⟨[], []⟩ F_run_Decode [.string ⟨⟨s0⟩⟩] H Q := by kernel_rfl
  letI : Sy := sy0
  exact wpF_sound (Eq.mp e h)
/-- cohort/cohortref09.Bytes -/
def VC_cohortref09_Bytes (o0_Kind : Int) (o0_Err : Int) (o0_Steps : Int) (o0_Valuesa : Option Addr) (o0_Valuesl : Nat) (o0_Valuesc : Nat) (H : AH) (Q : Value → AH → Prop) : Prop :=
  ∀ (H1 : AH),
  H1 = H.new (.cells [.int .i64 o0_Kind, .int .i64 o0_Err, .int .i64 o0_Steps, .slice o0_Valuesa o0_Valuesl o0_Valuesc] 0) →
  ∃ (t6 : Int),
  H1.cell H.next 0 = some (.int .i64 t6) ∧
  ∀ (t7 : Int),
  t7 = IntKind.u64.wrap (t6) →
  FW Ee F_cohortref01_Number [.int .u64 t7] H1 fun v H2 =>
    ∃ (r8 : List UInt8),
    v = .string ⟨⟨r8⟩⟩ ∧
    ∃ (t10 : Int),
    H2.cell H.next 1 = some (.int .i64 t10) ∧
    ∀ (t11 : Int),
    t11 = IntKind.u64.wrap (t10) →
    FW Ee F_cohortref01_Number [.int .u64 t11] H2 fun v_1 H3 =>
      ∃ (r12 : List UInt8),
      v_1 = .string ⟨⟨r12⟩⟩ ∧
      (r8 : List UInt8).length + (r12 : List UInt8).length < 4611686018427387904 ∧
      ∃ (t15 : Int),
      H3.cell H.next 2 = some (.int .i64 t15) ∧
      ∀ (t16 : Int),
      t16 = IntKind.u64.wrap (t15) →
      FW Ee F_cohortref01_Number [.int .u64 t16] H3 fun v_2 H4 =>
        ∃ (r17 : List UInt8),
        v_2 = .string ⟨⟨r17⟩⟩ ∧
        (r8 ++ r12 : List UInt8).length + (r17 : List UInt8).length < 4611686018427387904 ∧
        ∃ (t20a : Option Addr) (t20l : Nat) (t20c : Nat),
        H4.cell H.next 3 = some (.slice t20a t20l t20c) ∧
        ∀ (t22 : Int),
        t22 = IntKind.u64.wrap (((t20l : Nat) : Int)) →
        FW Ee F_cohortref01_Number [.int .u64 t22] H4 fun v_3 H5 =>
          ∃ (r23 : List UInt8),
          v_3 = .string ⟨⟨r23⟩⟩ ∧
          ((r8 ++ r12) ++ r17 : List UInt8).length + (r23 : List UInt8).length < 4611686018427387904 ∧
          H3.cell H.next 3 = some (.slice t20a t20l t20c) ∧
          H2.cell H.next 3 = some (.slice t20a t20l t20c) ∧
          H1.cell H.next 3 = some (.slice t20a t20l t20c) ∧
          H2.cell H.next 2 = some (.int .i64 t15) ∧
          H1.cell H.next 2 = some (.int .i64 t15) ∧
          H1.cell H.next 1 = some (.int .i64 t10) ∧
          ∃ (Inv : Nat → List UInt8 → Int → AH → Prop),
          (
            ∃ (n_1 : Nat),
            Inv n_1 (((r8 ++ r12) ++ r17) ++ r23) 0 H5) ∧
          ∀ (n : Nat),
          ∀ (s3 : List UInt8) (i4 : Int) (H6 : AH),
          Inv n s3 i4 H6 →
          ∃ (t27a : Option Addr) (t27l : Nat) (t27c : Nat),
          H6.cell H.next 3 = some (.slice t27a t27l t27c) ∧
          cond (decide (i4 < (((t27l : Nat) : Int)))) (
            ∃ (t34a : Option Addr) (t34l : Nat) (t34c : Nat),
            H6.cell H.next 3 = some (.slice t34a t34l t34c) ∧
            grd t34a.isSome (
              (0 : Int) ≤ i4 ∧
              (i4 : Int) < ((t34l : Nat) : Int) ∧
              ∃ (t38 : Int),
              H6.cell ((adr t34a).block) ((adr t34a).off + (i4 : Int).toNat * 2) = some (.int .i64 t38) ∧
              FW Ee F_cohortref01_Signed [.int .i64 t38] H6 fun v_4 H7 =>
                ∃ (r39 : List UInt8),
                v_4 = .string ⟨⟨r39⟩⟩ ∧
                ∃ (t41a : Option Addr) (t41l : Nat) (t41c : Nat),
                H7.cell H.next 3 = some (.slice t41a t41l t41c) ∧
                grd t41a.isSome (
                  (0 : Int) ≤ i4 ∧
                  (i4 : Int) < ((t41l : Nat) : Int) ∧
                  ∃ (t45 : Int),
                  H7.cell ((adr t41a).block) ((adr t41a).off + (i4 : Int).toNat * 2 + 1) = some (.int .i64 t45) ∧
                  FW Ee F_cohortref01_Signed [.int .i64 t45] H7 fun v_5 H8 =>
                    ∃ (r46 : List UInt8),
                    v_5 = .string ⟨⟨r46⟩⟩ ∧
                    (r39 : List UInt8).length + (r46 : List UInt8).length < 4611686018427387904 ∧
                    (s3 : List UInt8).length + (r39 ++ r46 : List UInt8).length < 4611686018427387904 ∧
                    H6.cell ((adr t41a).block) ((adr t41a).off + (i4 : Int).toNat * 2 + 1) = some (.int .i64 t45) ∧
                    H6.cell H.next 3 = some (.slice t41a t41l t41c) ∧
                    ∀ (t31 : Int),
                    t31 = IntKind.i64.wrap (i4 + 1) →
                    ∃ (m : Nat),
                    m < n ∧
                    Inv m (s3 ++ (r39 ++ r46)) t31 H8))) (
            Q (.string ⟨⟨s3⟩⟩) H6)
set_option maxRecDepth 100000 in
theorem fw_cohortref09_Bytes {o0_Kind : Int} {o0_Err : Int} {o0_Steps : Int} {o0_Valuesa : Option Addr} {o0_Valuesl : Nat} {o0_Valuesc : Nat} {H : AH} {Q : Value → AH → Prop} (h : VC_cohortref09_Bytes o0_Kind o0_Err o0_Steps o0_Valuesa o0_Valuesl o0_Valuesc H Q) : FW Ee F_cohortref09_Bytes [.agg ⟨[.int .i64 o0_Kind, .int .i64 o0_Err, .int .i64 o0_Steps, .slice o0_Valuesa o0_Valuesl o0_Valuesc]⟩] H Q := by
  have e : VC_cohortref09_Bytes o0_Kind o0_Err o0_Steps o0_Valuesa o0_Valuesl o0_Valuesc H Q = wpF Ee ⟨[], []⟩ F_cohortref09_Bytes [.agg ⟨[.int .i64 o0_Kind, .int .i64 o0_Err, .int .i64 o0_Steps, .slice o0_Valuesa o0_Valuesl o0_Valuesc]⟩] H Q := by kernel_rfl
  letI : Sy := sy0
  exact wpF_sound (Eq.mp e h)
/-- cohort/cohortlaw09.Outcome -/
def VC_cohortlaw09_Outcome (o0_Kind : Int) (o0_Err : Int) (o0_Steps : Int) (o0_Valuesa : Option Addr) (o0_Valuesl : Nat) (o0_Valuesc : Nat) (H : AH) (Q : Value → AH → Prop) : Prop :=
  ∀ (H1 : AH),
  H1 = H.new (.cells [.int .i64 o0_Kind, .int .i64 o0_Err, .int .i64 o0_Steps, .slice o0_Valuesa o0_Valuesl o0_Valuesc] 0) →
  ∀ (H2 : AH),
  H2 = H1.new (.cells [.int .i64 0, .int .i64 0, .int .i64 0, .slice none 0 0] 0) →
  ∃ (t6 : Int),
  H2.cell H.next 0 = some (.int .i64 t6) ∧
  ∃ (t8 : Int),
  H2.cell H.next 1 = some (.int .i64 t8) ∧
  ∃ (t10 : Int),
  H2.cell H.next 2 = some (.int .i64 t10) ∧
  ∀ (H3 : AH),
  H3 = H2.new (.cells [.int .i64 0, .int .i64 0, .int .i64 0, .slice none 0 0] 0) →
  ∃ (H4 : AH),
  storeCellsv H3 H2.next 0 [.int .i64 t6, .int .i64 t8, .int .i64 t10, .slice none 0 0] = some H4 ∧
  ∃ (Inv : Nat → Int → AH → Prop),
  (
    ∃ (n_1 : Nat),
    Inv n_1 0 H4) ∧
  ∀ (n : Nat),
  ∀ (i4 : Int) (H5 : AH),
  Inv n i4 H5 →
  ∃ (t14a : Option Addr) (t14l : Nat) (t14c : Nat),
  H5.cell H.next 3 = some (.slice t14a t14l t14c) ∧
  cond (decide (i4 < (((t14l : Nat) : Int)))) (
    ∃ (t20a : Option Addr) (t20l : Nat) (t20c : Nat),
    H5.cell H2.next 3 = some (.slice t20a t20l t20c) ∧
    ∃ (t22a : Option Addr) (t22l : Nat) (t22c : Nat),
    H5.cell H.next 3 = some (.slice t22a t22l t22c) ∧
    grd t22a.isSome (
      (0 : Int) ≤ i4 ∧
      (i4 : Int) < ((t22l : Nat) : Int) ∧
      ∃ (t26 : Int),
      H5.cell ((adr t22a).block) ((adr t22a).off + (i4 : Int).toNat * 2) = some (.int .i64 t26) ∧
      ∃ (t28a : Option Addr) (t28l : Nat) (t28c : Nat),
      H5.cell H.next 3 = some (.slice t28a t28l t28c) ∧
      grd t28a.isSome (
        (0 : Int) ≤ i4 ∧
        (i4 : Int) < ((t28l : Nat) : Int) ∧
        ∃ (t32 : Int),
        H5.cell ((adr t28a).block) ((adr t28a).off + (i4 : Int).toNat * 2 + 1) = some (.int .i64 t32) ∧
        ∀ (H6 : AH),
        H6 = H5.new (.cells [.int .i64 t26, .int .i64 t32] 0) →
        ∃ (t35a : Option Addr) (t35l : Nat) (t35c : Nat) (H7 : AH),
        apnd H6 2 16 t20a t20l t20c (.slice (some ⟨H5.next, 0, none⟩) 1 2) = some (.slice t35a t35l t35c, H7) ∧
        ∃ (H8 : AH),
        storeCellsv H7 H2.next 3 [.slice t35a t35l t35c] = some H8 ∧
        H6.cell ((adr t28a).block) ((adr t28a).off + (i4 : Int).toNat * 2 + 1) = some (.int .i64 t32) ∧
        H6.cell H.next 3 = some (.slice t28a t28l t28c) ∧
        H6.cell ((adr t22a).block) ((adr t22a).off + (i4 : Int).toNat * 2) = some (.int .i64 t26) ∧
        H6.cell H.next 3 = some (.slice t22a t22l t22c) ∧
        H6.cell H2.next 3 = some (.slice t20a t20l t20c) ∧
        ∀ (t18 : Int),
        t18 = IntKind.i64.wrap (i4 + 1) →
        ∃ (m : Nat),
        m < n ∧
        Inv m t18 H8))) (
    ∃ (t37_Kind : Int) (t37_Err : Int) (t37_Steps : Int) (t37_Valuesa : Option Addr) (t37_Valuesl : Nat) (t37_Valuesc : Nat),
    H5.cell H2.next (0 + 0) = some (.int .i64 t37_Kind) ∧
    H5.cell H2.next (0 + 1) = some (.int .i64 t37_Err) ∧
    H5.cell H2.next (0 + 2) = some (.int .i64 t37_Steps) ∧
    H5.cell H2.next (0 + 3) = some (.slice t37_Valuesa t37_Valuesl t37_Valuesc) ∧
    ∃ (H9 : AH),
    storeCellsv H5 H1.next 0 [.int .i64 t37_Kind, .int .i64 t37_Err, .int .i64 t37_Steps, .slice t37_Valuesa t37_Valuesl t37_Valuesc] = some H9 ∧
    ∃ (r2_Kind : Int) (r2_Err : Int) (r2_Steps : Int) (r2_Valuesa : Option Addr) (r2_Valuesl : Nat) (r2_Valuesc : Nat),
    H9.cell H1.next (0 + 0) = some (.int .i64 r2_Kind) ∧
    H9.cell H1.next (0 + 1) = some (.int .i64 r2_Err) ∧
    H9.cell H1.next (0 + 2) = some (.int .i64 r2_Steps) ∧
    H9.cell H1.next (0 + 3) = some (.slice r2_Valuesa r2_Valuesl r2_Valuesc) ∧
    Q (.agg ⟨[.int .i64 r2_Kind, .int .i64 r2_Err, .int .i64 r2_Steps, .slice r2_Valuesa r2_Valuesl r2_Valuesc]⟩) H9)
set_option maxRecDepth 100000 in
theorem fw_cohortlaw09_Outcome {o0_Kind : Int} {o0_Err : Int} {o0_Steps : Int} {o0_Valuesa : Option Addr} {o0_Valuesl : Nat} {o0_Valuesc : Nat} {H : AH} {Q : Value → AH → Prop} (h : VC_cohortlaw09_Outcome o0_Kind o0_Err o0_Steps o0_Valuesa o0_Valuesl o0_Valuesc H Q) : FW Ee F_cohortlaw09_Outcome [.agg ⟨[.int .i64 o0_Kind, .int .i64 o0_Err, .int .i64 o0_Steps, .slice o0_Valuesa o0_Valuesl o0_Valuesc]⟩] H Q := by
  have e : VC_cohortlaw09_Outcome o0_Kind o0_Err o0_Steps o0_Valuesa o0_Valuesl o0_Valuesc H Q = wpF Ee ⟨[], []⟩ F_cohortlaw09_Outcome [.agg ⟨[.int .i64 o0_Kind, .int .i64 o0_Err, .int .i64 o0_Steps, .slice o0_Valuesa o0_Valuesl o0_Valuesc]⟩] H Q := by kernel_rfl
  letI : Sy := sy0
  exact wpF_sound (Eq.mp e h)
/-- slices.Equal[[]cohort/api.Value,cohort/api.Value] -/
def VC_slices_Equal_L_api_Value_api_Value (s10a : Option Addr) (s10l : Nat) (s10c : Nat) (s21a : Option Addr) (s21l : Nat) (s21c : Nat) (H : AH) (Q : Value → AH → Prop) : Prop :=
  cond ((((s10l : Nat) : Int)) != (((s21l : Nat) : Int))) (
    Q (.bool false) H) (
    ∃ (Inv : Nat → Bool → Int → AH → Prop),
    (
      ∃ (n_1 : Nat),
      Inv n_1 false 0 H) ∧
    ∀ (n : Nat),
    ∀ (t4 : Bool) (t13 : Int) (H1 : AH),
    Inv n t4 t13 H1 →
    cond (decide (t13 < (((s10l : Nat) : Int)))) (
      grd s10a.isSome (
        (0 : Int) ≤ t13 ∧
        (t13 : Int) < ((s10l : Nat) : Int) ∧
        ∃ (t19_ID : Int) (t19_V : Int),
        H1.cell ((adr s10a).block) ((adr s10a).off + (t13 : Int).toNat * 2 + 0) = some (.int .i64 t19_ID) ∧
        H1.cell ((adr s10a).block) ((adr s10a).off + (t13 : Int).toNat * 2 + 1) = some (.int .i64 t19_V) ∧
        grd s21a.isSome (
          (0 : Int) ≤ t13 ∧
          (t13 : Int) < ((s21l : Nat) : Int) ∧
          ∃ (t23_ID : Int) (t23_V : Int),
          H1.cell ((adr s21a).block) ((adr s21a).off + (t13 : Int).toNat * 2 + 0) = some (.int .i64 t23_ID) ∧
          H1.cell ((adr s21a).block) ((adr s21a).off + (t13 : Int).toNat * 2 + 1) = some (.int .i64 t23_V) ∧
          ∃ (eq : Bool),
          binv Ee .neq T_api_Value (.agg ⟨[.int .i64 t19_ID, .int .i64 t19_V]⟩) (.agg ⟨[.int .i64 t23_ID, .int .i64 t23_V]⟩) = some (.bool eq) ∧
          cond (eq) (
            Q (.bool false) H1) (
            ∀ (t25 : Int),
            t25 = IntKind.i64.wrap (t13 + 1) →
            ∃ (m : Nat),
            m < n ∧
            Inv m t4 t25 H1)))) (
      Q (.bool true) H1))
set_option maxRecDepth 100000 in
theorem fw_slices_Equal_L_api_Value_api_Value {s10a : Option Addr} {s10l : Nat} {s10c : Nat} {s21a : Option Addr} {s21l : Nat} {s21c : Nat} {H : AH} {Q : Value → AH → Prop} (h : VC_slices_Equal_L_api_Value_api_Value s10a s10l s10c s21a s21l s21c H Q) : FW Ee F_slices_Equal_L_api_Value_api_Value [.slice s10a s10l s10c, .slice s21a s21l s21c] H Q := by
  have e : VC_slices_Equal_L_api_Value_api_Value s10a s10l s10c s21a s21l s21c H Q = wpF Ee ⟨[], []⟩ F_slices_Equal_L_api_Value_api_Value [.slice s10a s10l s10c, .slice s21a s21l s21c] H Q := by kernel_rfl
  letI : Sy := sy0
  exact wpF_sound (Eq.mp e h)
/-- cohort/run.Same -/
def VC_run_Same (a0_Kind : Int) (a0_Err : Int) (a0_Steps : Int) (a0_Valuesa : Option Addr) (a0_Valuesl : Nat) (a0_Valuesc : Nat) (b1_Kind : Int) (b1_Err : Int) (b1_Steps : Int) (b1_Valuesa : Option Addr) (b1_Valuesl : Nat) (b1_Valuesc : Nat) (H : AH) (Q : Value → AH → Prop) : Prop :=
  ∀ (H1 : AH),
  H1 = H.new (.cells [.int .i64 a0_Kind, .int .i64 a0_Err, .int .i64 a0_Steps, .slice a0_Valuesa a0_Valuesl a0_Valuesc] 0) →
  ∀ (H2 : AH),
  H2 = H1.new (.cells [.int .i64 b1_Kind, .int .i64 b1_Err, .int .i64 b1_Steps, .slice b1_Valuesa b1_Valuesl b1_Valuesc] 0) →
  ∃ (t6 : Int),
  H2.cell H.next 0 = some (.int .i64 t6) ∧
  ∃ (t8 : Int),
  H2.cell H1.next 0 = some (.int .i64 t8) ∧
  cond (t6 == t8) (
    ∃ (t12 : Int),
    H2.cell H.next 1 = some (.int .i64 t12) ∧
    ∃ (t14 : Int),
    H2.cell H1.next 1 = some (.int .i64 t14) ∧
    cond (t12 == t14) (
      ∃ (t19 : Int),
      H2.cell H.next 2 = some (.int .i64 t19) ∧
      ∃ (t21 : Int),
      H2.cell H1.next 2 = some (.int .i64 t21) ∧
      cond (t19 == t21) (
        ∃ (t26a : Option Addr) (t26l : Nat) (t26c : Nat),
        H2.cell H.next 3 = some (.slice t26a t26l t26c) ∧
        ∃ (t28a : Option Addr) (t28l : Nat) (t28c : Nat),
        H2.cell H1.next 3 = some (.slice t28a t28l t28c) ∧
        FW Ee F_slices_Equal_L_api_Value_api_Value [.slice t26a t26l t26c, .slice t28a t28l t28c] H2 fun v H3 =>
          ∃ (r29 : Bool),
          v = .bool r29 ∧
          Q (.bool r29) H3) (
        Q (.bool false) H2)) (
      Q (.bool false) H2)) (
    Q (.bool false) H2)
set_option maxRecDepth 100000 in
theorem fw_run_Same {a0_Kind : Int} {a0_Err : Int} {a0_Steps : Int} {a0_Valuesa : Option Addr} {a0_Valuesl : Nat} {a0_Valuesc : Nat} {b1_Kind : Int} {b1_Err : Int} {b1_Steps : Int} {b1_Valuesa : Option Addr} {b1_Valuesl : Nat} {b1_Valuesc : Nat} {H : AH} {Q : Value → AH → Prop} (h : VC_run_Same a0_Kind a0_Err a0_Steps a0_Valuesa a0_Valuesl a0_Valuesc b1_Kind b1_Err b1_Steps b1_Valuesa b1_Valuesl b1_Valuesc H Q) : FW Ee F_run_Same [.agg ⟨[.int .i64 a0_Kind, .int .i64 a0_Err, .int .i64 a0_Steps, .slice a0_Valuesa a0_Valuesl a0_Valuesc]⟩, .agg ⟨[.int .i64 b1_Kind, .int .i64 b1_Err, .int .i64 b1_Steps, .slice b1_Valuesa b1_Valuesl b1_Valuesc]⟩] H Q := by
  have e : VC_run_Same a0_Kind a0_Err a0_Steps a0_Valuesa a0_Valuesl a0_Valuesc b1_Kind b1_Err b1_Steps b1_Valuesa b1_Valuesl b1_Valuesc H Q = wpF Ee ⟨[], []⟩ F_run_Same [.agg ⟨[.int .i64 a0_Kind, .int .i64 a0_Err, .int .i64 a0_Steps, .slice a0_Valuesa a0_Valuesl a0_Valuesc]⟩, .agg ⟨[.int .i64 b1_Kind, .int .i64 b1_Err, .int .i64 b1_Steps, .slice b1_Valuesa b1_Valuesl b1_Valuesc]⟩] H Q := by kernel_rfl
  letI : Sy := sy0
  exact wpF_sound (Eq.mp e h)
/-- cohort/cohortlaw09.RunBytes -/
def VC_cohortlaw09_RunBytes (o0_Kind : Int) (o0_Err : Int) (o0_Steps : Int) (o0_Valuesa : Option Addr) (o0_Valuesl : Nat) (o0_Valuesc : Nat) (s1 : List UInt8) (H : AH) (Q : Value → AH → Prop) : Prop :=
  ∀ (H1 : AH),
  H1 = H.new (.cells [.int .i64 o0_Kind, .int .i64 o0_Err, .int .i64 o0_Steps, .slice o0_Valuesa o0_Valuesl o0_Valuesc] 0) →
  ∃ (t11 : Int),
  H1.cell H.next 0 = some (.int .i64 t11) ∧
  cond (decide (t11 < 0)) (
    FW Ee F_cohortlaw09_awake [] H1 fun v H2 =>
      ∃ (r44 : Bool),
      v = .bool r44 ∧
      Q (.bool r44) H2) (
    ∃ (t15 : Int),
    H1.cell H.next 0 = some (.int .i64 t15) ∧
    cond (decide (t15 > 2)) (
      FW Ee F_cohortlaw09_awake [] H1 fun v_1 H3 =>
        ∃ (r44_1 : Bool),
        v_1 = .bool r44_1 ∧
        Q (.bool r44_1) H3) (
      ∃ (t20 : Int),
      H1.cell H.next 1 = some (.int .i64 t20) ∧
      cond (decide (t20 < 0)) (
        FW Ee F_cohortlaw09_awake [] H1 fun v_2 H4 =>
          ∃ (r44_2 : Bool),
          v_2 = .bool r44_2 ∧
          Q (.bool r44_2) H4) (
        ∃ (t25 : Int),
        H1.cell H.next 1 = some (.int .i64 t25) ∧
        cond (decide (t25 > 1000)) (
          FW Ee F_cohortlaw09_awake [] H1 fun v_3 H5 =>
            ∃ (r44_3 : Bool),
            v_3 = .bool r44_3 ∧
            Q (.bool r44_3) H5) (
          ∃ (t30 : Int),
          H1.cell H.next 2 = some (.int .i64 t30) ∧
          cond (decide (t30 < 0)) (
            FW Ee F_cohortlaw09_awake [] H1 fun v_4 H6 =>
              ∃ (r44_4 : Bool),
              v_4 = .bool r44_4 ∧
              Q (.bool r44_4) H6) (
            ∃ (t35 : Int),
            H1.cell H.next 2 = some (.int .i64 t35) ∧
            cond (decide (t35 > 1000)) (
              FW Ee F_cohortlaw09_awake [] H1 fun v_5 H7 =>
                ∃ (r44_5 : Bool),
                v_5 = .bool r44_5 ∧
                Q (.bool r44_5) H7) (
              ∃ (t40a : Option Addr) (t40l : Nat) (t40c : Nat),
              H1.cell H.next 3 = some (.slice t40a t40l t40c) ∧
              cond (decide ((((t40l : Nat) : Int)) > 256)) (
                FW Ee F_cohortlaw09_awake [] H1 fun v_6 H8 =>
                  ∃ (r44_6 : Bool),
                  v_6 = .bool r44_6 ∧
                  Q (.bool r44_6) H8) (
                ∃ (t45_Kind : Int) (t45_Err : Int) (t45_Steps : Int) (t45_Valuesa : Option Addr) (t45_Valuesl : Nat) (t45_Valuesc : Nat),
                H1.cell H.next (0 + 0) = some (.int .i64 t45_Kind) ∧
                H1.cell H.next (0 + 1) = some (.int .i64 t45_Err) ∧
                H1.cell H.next (0 + 2) = some (.int .i64 t45_Steps) ∧
                H1.cell H.next (0 + 3) = some (.slice t45_Valuesa t45_Valuesl t45_Valuesc) ∧
                FW Ee F_run_Encode [.agg ⟨[.int .i64 t45_Kind, .int .i64 t45_Err, .int .i64 t45_Steps, .slice t45_Valuesa t45_Valuesl t45_Valuesc]⟩] H1 fun v_7 H9 =>
                  ∃ (r46 : List UInt8),
                  v_7 = .string ⟨⟨r46⟩⟩ ∧
                  FW Ee F_run_Decode [.string ⟨⟨r46⟩⟩] H9 fun v_8 H10 =>
                    ∃ (r49_0_Kind : Int) (r49_0_Err : Int) (r49_0_Steps : Int) (r49_0_Valuesa : Option Addr) (r49_0_Valuesl : Nat) (r49_0_Valuesc : Nat) (r49_1 : Int),
                    v_8 = .tuple ⟨[.agg ⟨[.int .i64 r49_0_Kind, .int .i64 r49_0_Err, .int .i64 r49_0_Steps, .slice r49_0_Valuesa r49_0_Valuesl r49_0_Valuesc]⟩, .int .i64 r49_1]⟩ ∧
                    ∀ (H11 : AH),
                    H11 = H10.new (.cells [.int .i64 0, .int .i64 0, .int .i64 0, .slice none 0 0] 0) →
                    ∃ (H12 : AH),
                    storeCellsv H11 H10.next 0 [.int .i64 r49_0_Kind, .int .i64 r49_0_Err, .int .i64 r49_0_Steps, .slice r49_0_Valuesa r49_0_Valuesl r49_0_Valuesc] = some H12 ∧
                    FW Ee F_run_Decode [.string ⟨⟨s1⟩⟩] H12 fun v_9 H13 =>
                      ∃ (r54_0_Kind : Int) (r54_0_Err : Int) (r54_0_Steps : Int) (r54_0_Valuesa : Option Addr) (r54_0_Valuesl : Nat) (r54_0_Valuesc : Nat) (r54_1 : Int),
                      v_9 = .tuple ⟨[.agg ⟨[.int .i64 r54_0_Kind, .int .i64 r54_0_Err, .int .i64 r54_0_Steps, .slice r54_0_Valuesa r54_0_Valuesl r54_0_Valuesc]⟩, .int .i64 r54_1]⟩ ∧
                      ∀ (H14 : AH),
                      H14 = H13.new (.cells [.int .i64 0, .int .i64 0, .int .i64 0, .slice none 0 0] 0) →
                      ∃ (H15 : AH),
                      storeCellsv H14 H13.next 0 [.int .i64 r54_0_Kind, .int .i64 r54_0_Err, .int .i64 r54_0_Steps, .slice r54_0_Valuesa r54_0_Valuesl r54_0_Valuesc] = some H15 ∧
                      FW Ee F_cohortlaw09_awake [] H15 fun v_10 H16 =>
                        ∃ (r57 : Bool),
                        v_10 = .bool r57 ∧
                        cond (!r57) (
                          Q (.bool false) H16) (
                          ∃ (t61_Kind : Int) (t61_Err : Int) (t61_Steps : Int) (t61_Valuesa : Option Addr) (t61_Valuesl : Nat) (t61_Valuesc : Nat),
                          H16.cell H.next (0 + 0) = some (.int .i64 t61_Kind) ∧
                          H16.cell H.next (0 + 1) = some (.int .i64 t61_Err) ∧
                          H16.cell H.next (0 + 2) = some (.int .i64 t61_Steps) ∧
                          H16.cell H.next (0 + 3) = some (.slice t61_Valuesa t61_Valuesl t61_Valuesc) ∧
                          FW Ee F_cohortlaw09_Outcome [.agg ⟨[.int .i64 t61_Kind, .int .i64 t61_Err, .int .i64 t61_Steps, .slice t61_Valuesa t61_Valuesl t61_Valuesc]⟩] H16 fun v_11 H17 =>
                            ∃ (r62_Kind : Int) (r62_Err : Int) (r62_Steps : Int) (r62_Valuesa : Option Addr) (r62_Valuesl : Nat) (r62_Valuesc : Nat),
                            v_11 = .agg ⟨[.int .i64 r62_Kind, .int .i64 r62_Err, .int .i64 r62_Steps, .slice r62_Valuesa r62_Valuesl r62_Valuesc]⟩ ∧
                            FW Ee F_cohortref09_Bytes [.agg ⟨[.int .i64 r62_Kind, .int .i64 r62_Err, .int .i64 r62_Steps, .slice r62_Valuesa r62_Valuesl r62_Valuesc]⟩] H17 fun v_12 H18 =>
                              ∃ (r63 : List UInt8),
                              v_12 = .string ⟨⟨r63⟩⟩ ∧
                              cond (!((r46 : List UInt8) == r63)) (
                                Q (.bool false) H18) (
                                cond (r49_1 != 0) (
                                  Q (.bool false) H18) (
                                  ∃ (t71_Kind : Int) (t71_Err : Int) (t71_Steps : Int) (t71_Valuesa : Option Addr) (t71_Valuesl : Nat) (t71_Valuesc : Nat),
                                  H18.cell H.next (0 + 0) = some (.int .i64 t71_Kind) ∧
                                  H18.cell H.next (0 + 1) = some (.int .i64 t71_Err) ∧
                                  H18.cell H.next (0 + 2) = some (.int .i64 t71_Steps) ∧
                                  H18.cell H.next (0 + 3) = some (.slice t71_Valuesa t71_Valuesl t71_Valuesc) ∧
                                  ∃ (t72_Kind : Int) (t72_Err : Int) (t72_Steps : Int) (t72_Valuesa : Option Addr) (t72_Valuesl : Nat) (t72_Valuesc : Nat),
                                  H18.cell H10.next (0 + 0) = some (.int .i64 t72_Kind) ∧
                                  H18.cell H10.next (0 + 1) = some (.int .i64 t72_Err) ∧
                                  H18.cell H10.next (0 + 2) = some (.int .i64 t72_Steps) ∧
                                  H18.cell H10.next (0 + 3) = some (.slice t72_Valuesa t72_Valuesl t72_Valuesc) ∧
                                  FW Ee F_run_Same [.agg ⟨[.int .i64 t71_Kind, .int .i64 t71_Err, .int .i64 t71_Steps, .slice t71_Valuesa t71_Valuesl t71_Valuesc]⟩, .agg ⟨[.int .i64 t72_Kind, .int .i64 t72_Err, .int .i64 t72_Steps, .slice t72_Valuesa t72_Valuesl t72_Valuesc]⟩] H18 fun v_13 H19 =>
                                    ∃ (r73 : Bool),
                                    v_13 = .bool r73 ∧
                                    cond (!r73) (
                                      Q (.bool false) H19) (
                                      cond (r54_1 != 0) (
                                        ∃ (t78_Kind : Int) (t78_Err : Int) (t78_Steps : Int) (t78_Valuesa : Option Addr) (t78_Valuesl : Nat) (t78_Valuesc : Nat),
                                        H19.cell H13.next (0 + 0) = some (.int .i64 t78_Kind) ∧
                                        H19.cell H13.next (0 + 1) = some (.int .i64 t78_Err) ∧
                                        H19.cell H13.next (0 + 2) = some (.int .i64 t78_Steps) ∧
                                        H19.cell H13.next (0 + 3) = some (.slice t78_Valuesa t78_Valuesl t78_Valuesc) ∧
                                        FW Ee F_run_Same [.agg ⟨[.int .i64 t78_Kind, .int .i64 t78_Err, .int .i64 t78_Steps, .slice t78_Valuesa t78_Valuesl t78_Valuesc]⟩, .agg ⟨[.int .i64 0, .int .i64 0, .int .i64 0, .slice none 0 0]⟩] H19 fun v_14 H20 =>
                                          ∃ (r80 : Bool),
                                          v_14 = .bool r80 ∧
                                          Q (.bool r80) H20) (
                                        ∃ (t81_Kind : Int) (t81_Err : Int) (t81_Steps : Int) (t81_Valuesa : Option Addr) (t81_Valuesl : Nat) (t81_Valuesc : Nat),
                                        H19.cell H13.next (0 + 0) = some (.int .i64 t81_Kind) ∧
                                        H19.cell H13.next (0 + 1) = some (.int .i64 t81_Err) ∧
                                        H19.cell H13.next (0 + 2) = some (.int .i64 t81_Steps) ∧
                                        H19.cell H13.next (0 + 3) = some (.slice t81_Valuesa t81_Valuesl t81_Valuesc) ∧
                                        FW Ee F_run_Encode [.agg ⟨[.int .i64 t81_Kind, .int .i64 t81_Err, .int .i64 t81_Steps, .slice t81_Valuesa t81_Valuesl t81_Valuesc]⟩] H19 fun v_15 H21 =>
                                          ∃ (r82 : List UInt8),
                                          v_15 = .string ⟨⟨r82⟩⟩ ∧
                                          Q (.bool ((r82 : List UInt8) == s1)) H21))))))))))))
set_option maxRecDepth 100000 in
theorem fw_cohortlaw09_RunBytes {o0_Kind : Int} {o0_Err : Int} {o0_Steps : Int} {o0_Valuesa : Option Addr} {o0_Valuesl : Nat} {o0_Valuesc : Nat} {s1 : List UInt8} {H : AH} {Q : Value → AH → Prop} (h : VC_cohortlaw09_RunBytes o0_Kind o0_Err o0_Steps o0_Valuesa o0_Valuesl o0_Valuesc s1 H Q) : FW Ee F_cohortlaw09_RunBytes [.agg ⟨[.int .i64 o0_Kind, .int .i64 o0_Err, .int .i64 o0_Steps, .slice o0_Valuesa o0_Valuesl o0_Valuesc]⟩, .string ⟨⟨s1⟩⟩] H Q := by
  have e : VC_cohortlaw09_RunBytes o0_Kind o0_Err o0_Steps o0_Valuesa o0_Valuesl o0_Valuesc s1 H Q = wpF Ee ⟨[], []⟩ F_cohortlaw09_RunBytes [.agg ⟨[.int .i64 o0_Kind, .int .i64 o0_Err, .int .i64 o0_Steps, .slice o0_Valuesa o0_Valuesl o0_Valuesc]⟩, .string ⟨⟨s1⟩⟩] H Q := by kernel_rfl
  letI : Sy := sy0
  exact wpF_sound (Eq.mp e h)
end Go.Proofs.Cx
