/- What calls come to, as formulas: printed by a program. -/
import Derived.Test.YtkegomailfhnpaaGreatVc0
namespace Go.Proofs.Cx
open Go Go.Ev
set_option linter.unusedVariables false
/-- cohort/wire.NewWriter -/
def VC_wire_NewWriter  (H : AH) (Q : Value → AH → Prop) : Prop :=
  ∀ (H1 : AH),
  H1 = H.new (.cells [.slice none 0 0] 0) →
  Q (.pointer (some ⟨H.next, 0, none⟩)) H1
set_option maxRecDepth 100000 in
theorem fw_wire_NewWriter  {H : AH} {Q : Value → AH → Prop} (h : VC_wire_NewWriter  H Q) : FW Ee F_wire_NewWriter [] H Q := by
  have e : VC_wire_NewWriter  H Q = wpF Ee ⟨[], []⟩ F_wire_NewWriter [] H Q := by kernel_rfl
  letI : Sy := sy0
  exact wpF_sound (Eq.mp e h)
/-- cohort/wire.NewReader -/
def VC_wire_NewReader (s0 : List UInt8) (H : AH) (Q : Value → AH → Prop) : Prop :=
  ∀ (H1 : AH),
  H1 = H.new (.cells [.string ⟨⟨s0⟩⟩, .int .i64 0, .int .i64 0] 0) →
  Q (.pointer (some ⟨H.next, 0, none⟩)) H1
set_option maxRecDepth 100000 in
theorem fw_wire_NewReader {s0 : List UInt8} {H : AH} {Q : Value → AH → Prop} (h : VC_wire_NewReader s0 H Q) : FW Ee F_wire_NewReader [.string ⟨⟨s0⟩⟩] H Q := by
  have e : VC_wire_NewReader s0 H Q = wpF Ee ⟨[], []⟩ F_wire_NewReader [.string ⟨⟨s0⟩⟩] H Q := by kernel_rfl
  letI : Sy := sy0
  exact wpF_sound (Eq.mp e h)
/-- cohort/wire.Number -/
def VC_wire_Number (n0 : Int) (H : AH) (Q : Value → AH → Prop) : Prop :=
  ∃ (Inv : Nat → Option Addr → Nat → Nat → Int → AH → Prop),
  (
    ∃ (n_1 : Nat),
    Inv n_1 none 0 0 n0 H) ∧
  ∀ (n : Nat),
  ∀ (out3a : Option Addr) (out3l : Nat) (out3c : Nat) (n0_1 : Int) (H1 : AH),
  Inv n out3a out3l out3c n0_1 H1 →
  cond (decide (n0_1 > 127)) (
    ∀ (t8 : Int),
    t8 = IntKind.u8.wrap (n0_1) →
    ∀ (t9 : Int),
    t9 = ior .u8 t8 128 →
    ∀ (H2 : AH),
    H2 = H1.new (.cells [.int .u8 t9] 0) →
    ∃ (t11a : Option Addr) (t11l : Nat) (t11c : Nat) (H3 : AH),
    apnd H2 1 1 out3a out3l out3c (.slice (some ⟨H1.next, 0, none⟩) 1 2) = some (.slice t11a t11l t11c, H3) ∧
    (0 : Int) ≤ 7 ∧
    ∀ (t13 : Int),
    t13 = (n0_1 : Int).fdiv (2 ^ (min (7 : Int).toNat IntKind.u64.bits)) →
    ∃ (m : Nat),
    m < n ∧
    Inv m t11a t11l t11c t13 H3) (
    ∀ (t16 : Int),
    t16 = IntKind.u8.wrap (n0_1) →
    ∀ (H4 : AH),
    H4 = H1.new (.cells [.int .u8 t16] 0) →
    ∃ (t18a : Option Addr) (t18l : Nat) (t18c : Nat) (H5 : AH),
    apnd H4 1 1 out3a out3l out3c (.slice (some ⟨H1.next, 0, none⟩) 1 2) = some (.slice t18a t18l t18c, H5) ∧
    ∃ (t19 : List UInt8),
    bytesToStr Ee H5 T_L_uint8 T_string (.slice t18a t18l t18c) = some (.string ⟨⟨t19⟩⟩) ∧
    Q (.string ⟨⟨t19⟩⟩) H5)
set_option maxRecDepth 100000 in
theorem fw_wire_Number {n0 : Int} {H : AH} {Q : Value → AH → Prop} (h : VC_wire_Number n0 H Q) : FW Ee F_wire_Number [.int .u64 n0] H Q := by
  have e : VC_wire_Number n0 H Q = wpF Ee ⟨[], []⟩ F_wire_Number [.int .u64 n0] H Q := by kernel_rfl
  letI : Sy := sy0
  exact wpF_sound (Eq.mp e h)
/-- cohort/wire.Fold -/
def VC_wire_Fold (n0 : Int) (H : AH) (Q : Value → AH → Prop) : Prop :=
  ∀ (t4 : Int),
  t4 = IntKind.u64.wrap (n0) →
  (0 : Int) ≤ 1 ∧
  ∀ (t5 : Int),
  t5 = IntKind.u64.wrap ((t4 : Int) * 2 ^ (min (1 : Int).toNat IntKind.u64.bits)) →
  (0 : Int) ≤ 63 ∧
  ∀ (t7 : Int),
  t7 = (n0 : Int).fdiv (2 ^ (min (63 : Int).toNat IntKind.i64.bits)) →
  ∀ (t8 : Int),
  t8 = IntKind.u64.wrap (t7) →
  ∀ (t9 : Int),
  t9 = ixor .u64 t5 t8 →
  Q (.int .u64 t9) H
set_option maxRecDepth 100000 in
theorem fw_wire_Fold {n0 : Int} {H : AH} {Q : Value → AH → Prop} (h : VC_wire_Fold n0 H Q) : FW Ee F_wire_Fold [.int .i64 n0] H Q := by
  have e : VC_wire_Fold n0 H Q = wpF Ee ⟨[], []⟩ F_wire_Fold [.int .i64 n0] H Q := by kernel_rfl
  letI : Sy := sy0
  exact wpF_sound (Eq.mp e h)
/-- cohort/wire.Unfold -/
def VC_wire_Unfold (n0 : Int) (H : AH) (Q : Value → AH → Prop) : Prop :=
  (0 : Int) ≤ 1 ∧
  ∀ (t4 : Int),
  t4 = (n0 : Int).fdiv (2 ^ (min (1 : Int).toNat IntKind.u64.bits)) →
  ∀ (t5 : Int),
  t5 = IntKind.i64.wrap (t4) →
  ∀ (t7 : Int),
  t7 = iand .u64 n0 1 →
  ∀ (t8 : Int),
  t8 = IntKind.i64.wrap (t7) →
  ∀ (t9 : Int),
  t9 = IntKind.i64.wrap ((0 : Int) - t8) →
  ∀ (t10 : Int),
  t10 = ixor .i64 t5 t9 →
  Q (.int .i64 t10) H
set_option maxRecDepth 100000 in
theorem fw_wire_Unfold {n0 : Int} {H : AH} {Q : Value → AH → Prop} (h : VC_wire_Unfold n0 H Q) : FW Ee F_wire_Unfold [.int .u64 n0] H Q := by
  have e : VC_wire_Unfold n0 H Q = wpF Ee ⟨[], []⟩ F_wire_Unfold [.int .u64 n0] H Q := by kernel_rfl
  letI : Sy := sy0
  exact wpF_sound (Eq.mp e h)
/-- (*cohort/wire.Writer).Bytes -/
def VC_wire_Writer_Bytes (w0b : Nat) (s1 : List UInt8) (H : AH) (Q : Value → AH → Prop) : Prop :=
  ∃ (t10a : Option Addr) (t10l : Nat) (t10c : Nat),
  H.cell w0b 0 = some (.slice t10a t10l t10c) ∧
  ∃ (t12a : Option Addr) (t12l : Nat) (t12c : Nat) (H1 : AH),
  apnd H 1 1 t10a t10l t10c (.string ⟨⟨s1⟩⟩) = some (.slice t12a t12l t12c, H1) ∧
  ∃ (H2 : AH),
  storeCellsv H1 w0b 0 [.slice t12a t12l t12c] = some H2 ∧
  Q (.tuple ⟨[]⟩) H2
set_option maxRecDepth 100000 in
theorem fw_wire_Writer_Bytes {w0b : Nat} {s1 : List UInt8} {H : AH} {Q : Value → AH → Prop} (h : VC_wire_Writer_Bytes w0b s1 H Q) : FW Ee F_wire_Writer_Bytes [.pointer (some ⟨w0b, 0, none⟩), .string ⟨⟨s1⟩⟩] H Q := by
  have e : VC_wire_Writer_Bytes w0b s1 H Q = wpF Ee ⟨[], []⟩ F_wire_Writer_Bytes [.pointer (some ⟨w0b, 0, none⟩), .string ⟨⟨s1⟩⟩] H Q := by kernel_rfl
  letI : Sy := sy0
  exact wpF_sound (Eq.mp e h)
/-- (*cohort/wire.Writer).Number -/
def VC_wire_Writer_Number (w0b : Nat) (n1 : Int) (H : AH) (Q : Value → AH → Prop) : Prop :=
  FW Ee F_wire_Number [.int .u64 n1] H fun v H1 =>
    ∃ (r6 : List UInt8),
    v = .string ⟨⟨r6⟩⟩ ∧
    FW Ee F_wire_Writer_Bytes [.pointer (some ⟨w0b, 0, none⟩), .string ⟨⟨r6⟩⟩] H1 fun v_1 H2 =>
      v_1 = .tuple ⟨[]⟩ ∧
      Q (.tuple ⟨[]⟩) H2
set_option maxRecDepth 100000 in
theorem fw_wire_Writer_Number {w0b : Nat} {n1 : Int} {H : AH} {Q : Value → AH → Prop} (h : VC_wire_Writer_Number w0b n1 H Q) : FW Ee F_wire_Writer_Number [.pointer (some ⟨w0b, 0, none⟩), .int .u64 n1] H Q := by
  have e : VC_wire_Writer_Number w0b n1 H Q = wpF Ee ⟨[], []⟩ F_wire_Writer_Number [.pointer (some ⟨w0b, 0, none⟩), .int .u64 n1] H Q := by kernel_rfl
  letI : Sy := sy0
  exact wpF_sound (Eq.mp e h)
/-- (*cohort/wire.Writer).Signed -/
def VC_wire_Writer_Signed (w0b : Nat) (n1 : Int) (H : AH) (Q : Value → AH → Prop) : Prop :=
  FW Ee F_wire_Fold [.int .i64 n1] H fun v H1 =>
    ∃ (r6 : Int),
    v = .int .u64 r6 ∧
    FW Ee F_wire_Writer_Number [.pointer (some ⟨w0b, 0, none⟩), .int .u64 r6] H1 fun v_1 H2 =>
      v_1 = .tuple ⟨[]⟩ ∧
      Q (.tuple ⟨[]⟩) H2
set_option maxRecDepth 100000 in
theorem fw_wire_Writer_Signed {w0b : Nat} {n1 : Int} {H : AH} {Q : Value → AH → Prop} (h : VC_wire_Writer_Signed w0b n1 H Q) : FW Ee F_wire_Writer_Signed [.pointer (some ⟨w0b, 0, none⟩), .int .i64 n1] H Q := by
  have e : VC_wire_Writer_Signed w0b n1 H Q = wpF Ee ⟨[], []⟩ F_wire_Writer_Signed [.pointer (some ⟨w0b, 0, none⟩), .int .i64 n1] H Q := by kernel_rfl
  letI : Sy := sy0
  exact wpF_sound (Eq.mp e h)
/-- (*cohort/wire.Writer).Count -/
def VC_wire_Writer_Count (w0b : Nat) (n1 : Int) (H : AH) (Q : Value → AH → Prop) : Prop :=
  ∀ (t7 : Int),
  t7 = IntKind.u64.wrap (if (0 : Int) > n1 then 0 else n1) →
  FW Ee F_wire_Writer_Number [.pointer (some ⟨w0b, 0, none⟩), .int .u64 t7] H fun v H1 =>
    v = .tuple ⟨[]⟩ ∧
    Q (.tuple ⟨[]⟩) H1
set_option maxRecDepth 100000 in
theorem fw_wire_Writer_Count {w0b : Nat} {n1 : Int} {H : AH} {Q : Value → AH → Prop} (h : VC_wire_Writer_Count w0b n1 H Q) : FW Ee F_wire_Writer_Count [.pointer (some ⟨w0b, 0, none⟩), .int .i64 n1] H Q := by
  have e : VC_wire_Writer_Count w0b n1 H Q = wpF Ee ⟨[], []⟩ F_wire_Writer_Count [.pointer (some ⟨w0b, 0, none⟩), .int .i64 n1] H Q := by kernel_rfl
  letI : Sy := sy0
  exact wpF_sound (Eq.mp e h)
/-- (*cohort/wire.Writer).All -/
def VC_wire_Writer_All (w0b : Nat) (H : AH) (Q : Value → AH → Prop) : Prop :=
  ∃ (t8a : Option Addr) (t8l : Nat) (t8c : Nat),
  H.cell w0b 0 = some (.slice t8a t8l t8c) ∧
  ∃ (t9 : List UInt8),
  bytesToStr Ee H T_L_uint8 T_string (.slice t8a t8l t8c) = some (.string ⟨⟨t9⟩⟩) ∧
  Q (.string ⟨⟨t9⟩⟩) H
set_option maxRecDepth 100000 in
theorem fw_wire_Writer_All {w0b : Nat} {H : AH} {Q : Value → AH → Prop} (h : VC_wire_Writer_All w0b H Q) : FW Ee F_wire_Writer_All [.pointer (some ⟨w0b, 0, none⟩)] H Q := by
  have e : VC_wire_Writer_All w0b H Q = wpF Ee ⟨[], []⟩ F_wire_Writer_All [.pointer (some ⟨w0b, 0, none⟩)] H Q := by kernel_rfl
  letI : Sy := sy0
  exact wpF_sound (Eq.mp e h)
/-- (*cohort/wire.Reader).Err -/
def VC_wire_Reader_Err (r0b : Nat) (H : AH) (Q : Value → AH → Prop) : Prop :=
  ∃ (t8 : Int),
  H.cell r0b 2 = some (.int .i64 t8) ∧
  Q (.int .i64 t8) H
set_option maxRecDepth 100000 in
theorem fw_wire_Reader_Err {r0b : Nat} {H : AH} {Q : Value → AH → Prop} (h : VC_wire_Reader_Err r0b H Q) : FW Ee F_wire_Reader_Err [.pointer (some ⟨r0b, 0, none⟩)] H Q := by
  have e : VC_wire_Reader_Err r0b H Q = wpF Ee ⟨[], []⟩ F_wire_Reader_Err [.pointer (some ⟨r0b, 0, none⟩)] H Q := by kernel_rfl
  letI : Sy := sy0
  exact wpF_sound (Eq.mp e h)
/-- (*cohort/wire.Reader).At -/
def VC_wire_Reader_At (r0b : Nat) (H : AH) (Q : Value → AH → Prop) : Prop :=
  ∃ (t8 : Int),
  H.cell r0b 1 = some (.int .i64 t8) ∧
  Q (.int .i64 t8) H
set_option maxRecDepth 100000 in
theorem fw_wire_Reader_At {r0b : Nat} {H : AH} {Q : Value → AH → Prop} (h : VC_wire_Reader_At r0b H Q) : FW Ee F_wire_Reader_At [.pointer (some ⟨r0b, 0, none⟩)] H Q := by
  have e : VC_wire_Reader_At r0b H Q = wpF Ee ⟨[], []⟩ F_wire_Reader_At [.pointer (some ⟨r0b, 0, none⟩)] H Q := by kernel_rfl
  letI : Sy := sy0
  exact wpF_sound (Eq.mp e h)
/-- (*cohort/wire.Reader).Left -/
def VC_wire_Reader_Left (r0b : Nat) (H : AH) (Q : Value → AH → Prop) : Prop :=
  ∃ (t8 : List UInt8),
  H.cell r0b 0 = some (.string ⟨⟨t8⟩⟩) ∧
  ∃ (t13 : Int),
  H.cell r0b 1 = some (.int .i64 t13) ∧
  ∀ (t14 : Int),
  t14 = IntKind.i64.wrap (((((t8 : List UInt8).length : Nat) : Int)) - t13) →
  Q (.int .i64 t14) H
set_option maxRecDepth 100000 in
theorem fw_wire_Reader_Left {r0b : Nat} {H : AH} {Q : Value → AH → Prop} (h : VC_wire_Reader_Left r0b H Q) : FW Ee F_wire_Reader_Left [.pointer (some ⟨r0b, 0, none⟩)] H Q := by
  have e : VC_wire_Reader_Left r0b H Q = wpF Ee ⟨[], []⟩ F_wire_Reader_Left [.pointer (some ⟨r0b, 0, none⟩)] H Q := by kernel_rfl
  letI : Sy := sy0
  exact wpF_sound (Eq.mp e h)
/-- (*cohort/wire.Reader).Fail -/
def VC_wire_Reader_Fail (r0b : Nat) (e1 : Int) (H : AH) (Q : Value → AH → Prop) : Prop :=
  ∃ (t10 : Int),
  H.cell r0b 2 = some (.int .i64 t10) ∧
  cond (t10 == 0) (
    ∃ (H1 : AH),
    storeCellsv H r0b 2 [.int .i64 e1] = some H1 ∧
    Q (.tuple ⟨[]⟩) H1) (
    Q (.tuple ⟨[]⟩) H)
set_option maxRecDepth 100000 in
theorem fw_wire_Reader_Fail {r0b : Nat} {e1 : Int} {H : AH} {Q : Value → AH → Prop} (h : VC_wire_Reader_Fail r0b e1 H Q) : FW Ee F_wire_Reader_Fail [.pointer (some ⟨r0b, 0, none⟩), .int .i64 e1] H Q := by
  have e : VC_wire_Reader_Fail r0b e1 H Q = wpF Ee ⟨[], []⟩ F_wire_Reader_Fail [.pointer (some ⟨r0b, 0, none⟩), .int .i64 e1] H Q := by kernel_rfl
  letI : Sy := sy0
  exact wpF_sound (Eq.mp e h)
/-- (*cohort/wire.Reader).End -/
def VC_wire_Reader_End (r0b : Nat) (H : AH) (Q : Value → AH → Prop) : Prop :=
  FW Ee F_wire_Reader_Left [.pointer (some ⟨r0b, 0, none⟩)] H fun v H1 =>
    ∃ (r4 : Int),
    v = .int .i64 r4 ∧
    cond (decide (r4 > 0)) (
      FW Ee F_wire_Reader_Fail [.pointer (some ⟨r0b, 0, none⟩), .int .i64 5] H1 fun v_1 H2 =>
        v_1 = .tuple ⟨[]⟩ ∧
        FW Ee F_wire_Reader_Err [.pointer (some ⟨r0b, 0, none⟩)] H2 fun v_2 H3 =>
          ∃ (r9 : Int),
          v_2 = .int .i64 r9 ∧
          Q (.int .i64 r9) H3) (
      FW Ee F_wire_Reader_Err [.pointer (some ⟨r0b, 0, none⟩)] H1 fun v_3 H4 =>
        ∃ (r9_1 : Int),
        v_3 = .int .i64 r9_1 ∧
        Q (.int .i64 r9_1) H4)
set_option maxRecDepth 100000 in
theorem fw_wire_Reader_End {r0b : Nat} {H : AH} {Q : Value → AH → Prop} (h : VC_wire_Reader_End r0b H Q) : FW Ee F_wire_Reader_End [.pointer (some ⟨r0b, 0, none⟩)] H Q := by
  have e : VC_wire_Reader_End r0b H Q = wpF Ee ⟨[], []⟩ F_wire_Reader_End [.pointer (some ⟨r0b, 0, none⟩)] H Q := by kernel_rfl
  letI : Sy := sy0
  exact wpF_sound (Eq.mp e h)
/-- (*cohort/wire.Reader).Number -/
def VC_wire_Reader_Number (r0b : Nat) (H : AH) (Q : Value → AH → Prop) : Prop :=
  FW Ee F_wire_Reader_Err [.pointer (some ⟨r0b, 0, none⟩)] H fun v H1 =>
    ∃ (r7 : Int),
    v = .int .i64 r7 ∧
    cond (r7 != 0) (
      Q (.int .u64 0) H1) (
      ∃ (Inv : Nat → Int → Int → Int → AH → Prop),
      (
        ∃ (n_1 : Nat),
        Inv n_1 0 0 0 H1) ∧
      ∀ (n : Nat),
      ∀ (t2 : Int) (n3 : Int) (t9 : Int) (H2 : AH),
      Inv n t2 n3 t9 H2 →
      cond (decide (t9 < 10)) (
        ∃ (t15 : Int),
        H2.cell r0b 1 = some (.int .i64 t15) ∧
        ∀ (t17 : Int),
        t17 = IntKind.i64.wrap (t15 + t9) →
        ∃ (t21 : List UInt8),
        H2.cell r0b 0 = some (.string ⟨⟨t21⟩⟩) ∧
        cond (decide (t17 ≥ ((((t21 : List UInt8).length : Nat) : Int)))) (
          ∃ (H3 : AH),
          storeCellsv H2 r0b 2 [.int .i64 4] = some H3 ∧
          Q (.int .u64 0) H3) (
          ∃ (t30 : List UInt8),
          H2.cell r0b 0 = some (.string ⟨⟨t30⟩⟩) ∧
          ∃ (t34 : Int),
          H2.cell r0b 1 = some (.int .i64 t34) ∧
          ∀ (t36 : Int),
          t36 = IntKind.i64.wrap (t34 + t9) →
          (0 : Int) ≤ t36 ∧
          (t36 : Int) < (((t30 : List UInt8).length : Nat) : Int) ∧
          cond (t9 == 9) (
            cond (decide ((byteAt t30 t36) > 1)) (
              ∃ (H4 : AH),
              storeCellsv H2 r0b 2 [.int .i64 6] = some H4 ∧
              Q (.int .u64 0) H4) (
              cond ((byteAt t30 t36) == 0) (
                cond (decide (t9 > 0)) (
                  ∃ (H5 : AH),
                  storeCellsv H2 r0b 2 [.int .i64 6] = some H5 ∧
                  Q (.int .u64 0) H5) (
                  ∀ (t57 : Int),
                  t57 = iand .u8 (byteAt t30 t36) 127 →
                  ∀ (t58 : Int),
                  t58 = IntKind.u64.wrap (t57) →
                  ∀ (t60 : Int),
                  t60 = IntKind.i64.wrap (7 * t9) →
                  (0 : Int) ≤ t60 ∧
                  ∀ (t61 : Int),
                  t61 = IntKind.u64.wrap ((t58 : Int) * 2 ^ (min (t60 : Int).toNat IntKind.u64.bits)) →
                  ∀ (t62 : Int),
                  t62 = ior .u64 n3 t61 →
                  ∀ (t64 : Int),
                  t64 = iand .u8 (byteAt t30 t36) 128 →
                  cond (t64 == 0) (
                    ∃ (t69 : Int),
                    H2.cell r0b 1 = some (.int .i64 t69) ∧
                    ∀ (t71 : Int),
                    t71 = IntKind.i64.wrap (t9 + 1) →
                    ∀ (t72 : Int),
                    t72 = IntKind.i64.wrap (t69 + t71) →
                    ∃ (H6 : AH),
                    storeCellsv H2 r0b 1 [.int .i64 t72] = some H6 ∧
                    Q (.int .u64 t62) H6) (
                    ∀ (t76 : Int),
                    t76 = IntKind.i64.wrap (t9 + 1) →
                    ∃ (m : Nat),
                    m < n ∧
                    Inv m t2 t62 t76 H2))) (
                ∀ (t57_1 : Int),
                t57_1 = iand .u8 (byteAt t30 t36) 127 →
                ∀ (t58_1 : Int),
                t58_1 = IntKind.u64.wrap (t57_1) →
                ∀ (t60_1 : Int),
                t60_1 = IntKind.i64.wrap (7 * t9) →
                (0 : Int) ≤ t60_1 ∧
                ∀ (t61_1 : Int),
                t61_1 = IntKind.u64.wrap ((t58_1 : Int) * 2 ^ (min (t60_1 : Int).toNat IntKind.u64.bits)) →
                ∀ (t62_1 : Int),
                t62_1 = ior .u64 n3 t61_1 →
                ∀ (t64_1 : Int),
                t64_1 = iand .u8 (byteAt t30 t36) 128 →
                cond (t64_1 == 0) (
                  ∃ (t69_1 : Int),
                  H2.cell r0b 1 = some (.int .i64 t69_1) ∧
                  ∀ (t71_1 : Int),
                  t71_1 = IntKind.i64.wrap (t9 + 1) →
                  ∀ (t72_1 : Int),
                  t72_1 = IntKind.i64.wrap (t69_1 + t71_1) →
                  ∃ (H7 : AH),
                  storeCellsv H2 r0b 1 [.int .i64 t72_1] = some H7 ∧
                  Q (.int .u64 t62_1) H7) (
                  ∀ (t76_1 : Int),
                  t76_1 = IntKind.i64.wrap (t9 + 1) →
                  ∃ (m : Nat),
                  m < n ∧
                  Inv m t2 t62_1 t76_1 H2)))) (
            cond ((byteAt t30 t36) == 0) (
              cond (decide (t9 > 0)) (
                ∃ (H8 : AH),
                storeCellsv H2 r0b 2 [.int .i64 6] = some H8 ∧
                Q (.int .u64 0) H8) (
                ∀ (t57_2 : Int),
                t57_2 = iand .u8 (byteAt t30 t36) 127 →
                ∀ (t58_2 : Int),
                t58_2 = IntKind.u64.wrap (t57_2) →
                ∀ (t60_2 : Int),
                t60_2 = IntKind.i64.wrap (7 * t9) →
                (0 : Int) ≤ t60_2 ∧
                ∀ (t61_2 : Int),
                t61_2 = IntKind.u64.wrap ((t58_2 : Int) * 2 ^ (min (t60_2 : Int).toNat IntKind.u64.bits)) →
                ∀ (t62_2 : Int),
                t62_2 = ior .u64 n3 t61_2 →
                ∀ (t64_2 : Int),
                t64_2 = iand .u8 (byteAt t30 t36) 128 →
                cond (t64_2 == 0) (
                  ∃ (t69_2 : Int),
                  H2.cell r0b 1 = some (.int .i64 t69_2) ∧
                  ∀ (t71_2 : Int),
                  t71_2 = IntKind.i64.wrap (t9 + 1) →
                  ∀ (t72_2 : Int),
                  t72_2 = IntKind.i64.wrap (t69_2 + t71_2) →
                  ∃ (H9 : AH),
                  storeCellsv H2 r0b 1 [.int .i64 t72_2] = some H9 ∧
                  Q (.int .u64 t62_2) H9) (
                  ∀ (t76_2 : Int),
                  t76_2 = IntKind.i64.wrap (t9 + 1) →
                  ∃ (m : Nat),
                  m < n ∧
                  Inv m t2 t62_2 t76_2 H2))) (
              ∀ (t57_3 : Int),
              t57_3 = iand .u8 (byteAt t30 t36) 127 →
              ∀ (t58_3 : Int),
              t58_3 = IntKind.u64.wrap (t57_3) →
              ∀ (t60_3 : Int),
              t60_3 = IntKind.i64.wrap (7 * t9) →
              (0 : Int) ≤ t60_3 ∧
              ∀ (t61_3 : Int),
              t61_3 = IntKind.u64.wrap ((t58_3 : Int) * 2 ^ (min (t60_3 : Int).toNat IntKind.u64.bits)) →
              ∀ (t62_3 : Int),
              t62_3 = ior .u64 n3 t61_3 →
              ∀ (t64_3 : Int),
              t64_3 = iand .u8 (byteAt t30 t36) 128 →
              cond (t64_3 == 0) (
                ∃ (t69_3 : Int),
                H2.cell r0b 1 = some (.int .i64 t69_3) ∧
                ∀ (t71_3 : Int),
                t71_3 = IntKind.i64.wrap (t9 + 1) →
                ∀ (t72_3 : Int),
                t72_3 = IntKind.i64.wrap (t69_3 + t71_3) →
                ∃ (H10 : AH),
                storeCellsv H2 r0b 1 [.int .i64 t72_3] = some H10 ∧
                Q (.int .u64 t62_3) H10) (
                ∀ (t76_3 : Int),
                t76_3 = IntKind.i64.wrap (t9 + 1) →
                ∃ (m : Nat),
                m < n ∧
                Inv m t2 t62_3 t76_3 H2))))) (
        ∃ (H11 : AH),
        storeCellsv H2 r0b 2 [.int .i64 6] = some H11 ∧
        Q (.int .u64 0) H11))
set_option maxRecDepth 100000 in
theorem fw_wire_Reader_Number {r0b : Nat} {H : AH} {Q : Value → AH → Prop} (h : VC_wire_Reader_Number r0b H Q) : FW Ee F_wire_Reader_Number [.pointer (some ⟨r0b, 0, none⟩)] H Q := by
  have e : VC_wire_Reader_Number r0b H Q = wpF Ee ⟨[], []⟩ F_wire_Reader_Number [.pointer (some ⟨r0b, 0, none⟩)] H Q := by kernel_rfl
  letI : Sy := sy0
  exact wpF_sound (Eq.mp e h)
/-- (*cohort/wire.Reader).Signed -/
def VC_wire_Reader_Signed (r0b : Nat) (H : AH) (Q : Value → AH → Prop) : Prop :=
  FW Ee F_wire_Reader_Number [.pointer (some ⟨r0b, 0, none⟩)] H fun v H1 =>
    ∃ (r4 : Int),
    v = .int .u64 r4 ∧
    FW Ee F_wire_Unfold [.int .u64 r4] H1 fun v_1 H2 =>
      ∃ (r5 : Int),
      v_1 = .int .i64 r5 ∧
      Q (.int .i64 r5) H2
set_option maxRecDepth 100000 in
theorem fw_wire_Reader_Signed {r0b : Nat} {H : AH} {Q : Value → AH → Prop} (h : VC_wire_Reader_Signed r0b H Q) : FW Ee F_wire_Reader_Signed [.pointer (some ⟨r0b, 0, none⟩)] H Q := by
  have e : VC_wire_Reader_Signed r0b H Q = wpF Ee ⟨[], []⟩ F_wire_Reader_Signed [.pointer (some ⟨r0b, 0, none⟩)] H Q := by kernel_rfl
  letI : Sy := sy0
  exact wpF_sound (Eq.mp e h)
/-- (*cohort/wire.Reader).Count -/
def VC_wire_Reader_Count (r0b : Nat) (most1 : Int) (H : AH) (Q : Value → AH → Prop) : Prop :=
  FW Ee F_wire_Reader_At [.pointer (some ⟨r0b, 0, none⟩)] H fun v H1 =>
    ∃ (r8 : Int),
    v = .int .i64 r8 ∧
    FW Ee F_wire_Reader_Number [.pointer (some ⟨r0b, 0, none⟩)] H1 fun v_1 H2 =>
      ∃ (r10 : Int),
      v_1 = .int .u64 r10 ∧
      FW Ee F_wire_Reader_Err [.pointer (some ⟨r0b, 0, none⟩)] H2 fun v_2 H3 =>
        ∃ (r12 : Int),
        v_2 = .int .i64 r12 ∧
        cond (r12 != 0) (
          Q (.int .i64 0) H3) (
          cond (decide (most1 < 0)) (
            ∃ (H4 : AH),
            storeCellsv H3 r0b 1 [.int .i64 r8] = some H4 ∧
            ∃ (H5 : AH),
            storeCellsv H4 r0b 2 [.int .i64 5] = some H5 ∧
            Q (.int .i64 0) H5) (
            ∀ (t19 : Int),
            t19 = IntKind.u64.wrap (most1) →
            cond (decide (r10 > t19)) (
              ∃ (H6 : AH),
              storeCellsv H3 r0b 1 [.int .i64 r8] = some H6 ∧
              ∃ (H7 : AH),
              storeCellsv H6 r0b 2 [.int .i64 5] = some H7 ∧
              Q (.int .i64 0) H7) (
              ∀ (t30 : Int),
              t30 = IntKind.i64.wrap (r10) →
              Q (.int .i64 t30) H3)))
set_option maxRecDepth 100000 in
theorem fw_wire_Reader_Count {r0b : Nat} {most1 : Int} {H : AH} {Q : Value → AH → Prop} (h : VC_wire_Reader_Count r0b most1 H Q) : FW Ee F_wire_Reader_Count [.pointer (some ⟨r0b, 0, none⟩), .int .i64 most1] H Q := by
  have e : VC_wire_Reader_Count r0b most1 H Q = wpF Ee ⟨[], []⟩ F_wire_Reader_Count [.pointer (some ⟨r0b, 0, none⟩), .int .i64 most1] H Q := by kernel_rfl
  letI : Sy := sy0
  exact wpF_sound (Eq.mp e h)
/-- cohort/cohortref01.Number -/
def VC_cohortref01_Number (n0 : Int) (H : AH) (Q : Value → AH → Prop) : Prop :=
  cond (decide (n0 < 128)) (
    ∀ (t6 : Int),
    t6 = IntKind.u8.wrap (n0) →
    ∀ (H1 : AH),
    H1 = H.new (.cells [.int .u8 t6] 0) →
    ∃ (t8 : List UInt8),
    bytesToStr Ee H1 T_L_uint8 T_string (.slice (some ⟨H.next, 0, none⟩) 1 2) = some (.string ⟨⟨t8⟩⟩) ∧
    Q (.string ⟨⟨t8⟩⟩) H1) (
    (128 : Int) ≠ 0 ∧
    ∀ (t10 : Int),
    t10 = (n0 : Int).tmod 128 →
    ∀ (t11 : Int),
    t11 = IntKind.u8.wrap (t10) →
    ∀ (t12 : Int),
    t12 = IntKind.u8.wrap (t11 + 128) →
    ∀ (H2 : AH),
    H2 = H.new (.cells [.int .u8 t12] 0) →
    ∃ (t14 : List UInt8),
    bytesToStr Ee H2 T_L_uint8 T_string (.slice (some ⟨H.next, 0, none⟩) 1 2) = some (.string ⟨⟨t14⟩⟩) ∧
    (128 : Int) ≠ 0 ∧
    ∀ (t16 : Int),
    t16 = IntKind.u64.wrap ((n0 : Int).tdiv 128) →
    FW Ee F_cohortref01_Number [.int .u64 t16] H2 fun v H3 =>
      ∃ (r17 : List UInt8),
      v = .string ⟨⟨r17⟩⟩ ∧
      (t14 : List UInt8).length + (r17 : List UInt8).length < 4611686018427387904 ∧
      (match bytesToStr Ee H3 T_L_uint8 T_string (.slice (some ⟨H.next, 0, none⟩) 1 2) with | some v => some v | none => none) = some (.string ⟨⟨t14⟩⟩) ∧
      Q (.string ⟨⟨t14 ++ r17⟩⟩) H3)
set_option maxRecDepth 100000 in
theorem fw_cohortref01_Number {n0 : Int} {H : AH} {Q : Value → AH → Prop} (h : VC_cohortref01_Number n0 H Q) : FW Ee F_cohortref01_Number [.int .u64 n0] H Q := by
  have e : VC_cohortref01_Number n0 H Q = wpF Ee ⟨[], []⟩ F_cohortref01_Number [.int .u64 n0] H Q := by kernel_rfl
  letI : Sy := sy0
  exact wpF_sound (Eq.mp e h)
/-- cohort/cohortref01.Fold -/
def VC_cohortref01_Fold (n0 : Int) (H : AH) (Q : Value → AH → Prop) : Prop :=
  cond (decide (n0 < 0)) (
    ∀ (t6 : Int),
    t6 = IntKind.i64.wrap ((-1) - n0) →
    ∀ (t7 : Int),
    t7 = IntKind.u64.wrap (t6) →
    ∀ (t8 : Int),
    t8 = IntKind.u64.wrap (t7 * 2) →
    ∀ (t9 : Int),
    t9 = IntKind.u64.wrap (t8 + 1) →
    Q (.int .u64 t9) H) (
    ∀ (t11 : Int),
    t11 = IntKind.u64.wrap (n0) →
    ∀ (t12 : Int),
    t12 = IntKind.u64.wrap (t11 * 2) →
    Q (.int .u64 t12) H)
set_option maxRecDepth 100000 in
theorem fw_cohortref01_Fold {n0 : Int} {H : AH} {Q : Value → AH → Prop} (h : VC_cohortref01_Fold n0 H Q) : FW Ee F_cohortref01_Fold [.int .i64 n0] H Q := by
  have e : VC_cohortref01_Fold n0 H Q = wpF Ee ⟨[], []⟩ F_cohortref01_Fold [.int .i64 n0] H Q := by kernel_rfl
  letI : Sy := sy0
  exact wpF_sound (Eq.mp e h)
/-- cohort/cohortref01.Signed -/
def VC_cohortref01_Signed (n0 : Int) (H : AH) (Q : Value → AH → Prop) : Prop :=
  FW Ee F_cohortref01_Fold [.int .i64 n0] H fun v H1 =>
    ∃ (r4 : Int),
    v = .int .u64 r4 ∧
    FW Ee F_cohortref01_Number [.int .u64 r4] H1 fun v_1 H2 =>
      ∃ (r5 : List UInt8),
      v_1 = .string ⟨⟨r5⟩⟩ ∧
      Q (.string ⟨⟨r5⟩⟩) H2
set_option maxRecDepth 100000 in
theorem fw_cohortref01_Signed {n0 : Int} {H : AH} {Q : Value → AH → Prop} (h : VC_cohortref01_Signed n0 H Q) : FW Ee F_cohortref01_Signed [.int .i64 n0] H Q := by
  have e : VC_cohortref01_Signed n0 H Q = wpF Ee ⟨[], []⟩ F_cohortref01_Signed [.int .i64 n0] H Q := by kernel_rfl
  letI : Sy := sy0
  exact wpF_sound (Eq.mp e h)
end Go.Proofs.Cx
