/- What calls come to, as formulas: printed by a program. What calls come to, as formulas: printed by a program. What calls come to, as formulas: printed by a program. What calls come to, as formulas: printed by a program. What calls come to, as formulas: printed by a program. What calls come to, as formulas: printed by a program. -/
import Derived.Test.YtkkcknfeljgdcaaGreatVc0
namespace Go.Proofs.Cx
open Go Go.Ev
set_option linter.unusedVariables false
set_option maxRecDepth 100000
set_option maxHeartbeats 8000000
/-- cohort/wire.NewWriter -/
def VC_wire_NewWriter  (H : AH) (Q : Value → AH → Prop) : Prop :=
 ∀ (H1 : AH),
 H1 = H.new (.cells [.slice none 0 0] 0) →
 Q (.pointer (some ⟨H.next, 0, none⟩)) H1
set_option maxRecDepth 100000 in
theorem fw_wire_NewWriter  {H : AH} {Q : Value → AH → Prop} (h : VC_wire_NewWriter  H Q) : FW Ee F_wire_NewWriter [] H Q := by
  have e : VC_wire_NewWriter  H Q = wpF Ee ⟨[], []⟩ F_wire_NewWriter [] H Q := by kernel_rfl
  letI : Sy := sy0
  exact wpF_sound (Eq.mp e h)
/-- cohort/wire.NewReader -/
def VC_wire_NewReader (s0 : List UInt8) (H : AH) (Q : Value → AH → Prop) : Prop :=
 ∀ (H1 : AH),
 H1 = H.new (.cells [.string ⟨⟨s0⟩⟩, .int .i64 0, .int .i64 0] 0) →
 Q (.pointer (some ⟨H.next, 0, none⟩)) H1
set_option maxRecDepth 100000 in
theorem fw_wire_NewReader {s0 : List UInt8} {H : AH} {Q : Value → AH → Prop} (h : VC_wire_NewReader s0 H Q) : FW Ee F_wire_NewReader [.string ⟨⟨s0⟩⟩] H Q := by
  have e : VC_wire_NewReader s0 H Q = wpF Ee ⟨[], []⟩ F_wire_NewReader [.string ⟨⟨s0⟩⟩] H Q := by kernel_rfl
  letI : Sy := sy0
  exact wpF_sound (Eq.mp e h)
/-- cohort/wire.Number -/
def VC_wire_Number (n0 : Int) (H : AH) (Q : Value → AH → Prop) : Prop :=
 ∃ (Inv : Nat → Option Addr → Nat → Nat → Int → AH → Prop),
 (
 ∃ (n_1 : Nat),
 Inv n_1 none 0 0 n0 H) ∧
 ∀ (n : Nat),
 ∀ (out3a : Option Addr) (out3l : Nat) (out3c : Nat) (n0_1 : Int) (H1 : AH),
 Inv n out3a out3l out3c n0_1 H1 →
 cond (decide (n0_1 > 127)) (
 ∀ (t8 : Int),
 t8 = IntKind.u8.wrap (n0_1) →
 ∀ (t9 : Int),
 t9 = ior .u8 t8 128 →
 ∀ (H2 : AH),
 H2 = H1.new (.cells [.int .u8 t9] 0) →
 ∃ (t11a : Option Addr) (t11l : Nat) (t11c : Nat) (H3 : AH),
 apnd H2 1 1 out3a out3l out3c (.slice (some ⟨H1.next, 0, none⟩) 1 2) = some (.slice t11a t11l t11c, H3) ∧
 (0 : Int) ≤ 7 ∧
 ∀ (t13 : Int),
 t13 = (n0_1 : Int).fdiv (2 ^ (min (7 : Int).toNat IntKind.u64.bits)) →
 ∃ (m : Nat),
 m < n ∧
 Inv m t11a t11l t11c t13 H3) (
 ∀ (t16 : Int),
 t16 = IntKind.u8.wrap (n0_1) →
 ∀ (H4 : AH),
 H4 = H1.new (.cells [.int .u8 t16] 0) →
 ∃ (t18a : Option Addr) (t18l : Nat) (t18c : Nat) (H5 : AH),
 apnd H4 1 1 out3a out3l out3c (.slice (some ⟨H1.next, 0, none⟩) 1 2) = some (.slice t18a t18l t18c, H5) ∧
 ∃ (t19 : List UInt8),
 bytesToStr Ee H5 T_L_uint8 T_string (.slice t18a t18l t18c) = some (.string ⟨⟨t19⟩⟩) ∧
 Q (.string ⟨⟨t19⟩⟩) H5)
set_option maxRecDepth 100000 in
theorem fw_wire_Number {n0 : Int} {H : AH} {Q : Value → AH → Prop} (h : VC_wire_Number n0 H Q) : FW Ee F_wire_Number [.int .u64 n0] H Q := by
  have e : VC_wire_Number n0 H Q = wpF Ee ⟨[], []⟩ F_wire_Number [.int .u64 n0] H Q := by kernel_rfl
  letI : Sy := sy0
  exact wpF_sound (Eq.mp e h)
/-- cohort/wire.Fold -/
def VC_wire_Fold (n0 : Int) (H : AH) (Q : Value → AH → Prop) : Prop :=
 ∀ (t4 : Int),
 t4 = IntKind.u64.wrap (n0) →
 (0 : Int) ≤ 1 ∧
 ∀ (t5 : Int),
 t5 = IntKind.u64.wrap ((t4 : Int) * 2 ^ (min (1 : Int).toNat IntKind.u64.bits)) →
 (0 : Int) ≤ 63 ∧
 ∀ (t7 : Int),
 t7 = (n0 : Int).fdiv (2 ^ (min (63 : Int).toNat IntKind.i64.bits)) →
 ∀ (t8 : Int),
 t8 = IntKind.u64.wrap (t7) →
 ∀ (t9 : Int),
 t9 = ixor .u64 t5 t8 →
 Q (.int .u64 t9) H
set_option maxRecDepth 100000 in
theorem fw_wire_Fold {n0 : Int} {H : AH} {Q : Value → AH → Prop} (h : VC_wire_Fold n0 H Q) : FW Ee F_wire_Fold [.int .i64 n0] H Q := by
  have e : VC_wire_Fold n0 H Q = wpF Ee ⟨[], []⟩ F_wire_Fold [.int .i64 n0] H Q := by kernel_rfl
  letI : Sy := sy0
  exact wpF_sound (Eq.mp e h)
/-- cohort/wire.Unfold -/
def VC_wire_Unfold (n0 : Int) (H : AH) (Q : Value → AH → Prop) : Prop :=
 (0 : Int) ≤ 1 ∧
 ∀ (t4 : Int),
 t4 = (n0 : Int).fdiv (2 ^ (min (1 : Int).toNat IntKind.u64.bits)) →
 ∀ (t5 : Int),
 t5 = IntKind.i64.wrap (t4) →
 ∀ (t7 : Int),
 t7 = iand .u64 n0 1 →
 ∀ (t8 : Int),
 t8 = IntKind.i64.wrap (t7) →
 ∀ (t9 : Int),
 t9 = IntKind.i64.wrap ((0 : Int) - t8) →
 ∀ (t10 : Int),
 t10 = ixor .i64 t5 t9 →
 Q (.int .i64 t10) H
set_option maxRecDepth 100000 in
theorem fw_wire_Unfold {n0 : Int} {H : AH} {Q : Value → AH → Prop} (h : VC_wire_Unfold n0 H Q) : FW Ee F_wire_Unfold [.int .u64 n0] H Q := by
  have e : VC_wire_Unfold n0 H Q = wpF Ee ⟨[], []⟩ F_wire_Unfold [.int .u64 n0] H Q := by kernel_rfl
  letI : Sy := sy0
  exact wpF_sound (Eq.mp e h)
/-- (*cohort/wire.Writer).Bytes -/
def VC_wire_Writer_Bytes (w0b : Nat) (s1 : List UInt8) (H : AH) (Q : Value → AH → Prop) : Prop :=
 ∃ (t10a : Option Addr) (t10l : Nat) (t10c : Nat),
 H.cell w0b 0 = some (.slice t10a t10l t10c) ∧
 ∃ (t12a : Option Addr) (t12l : Nat) (t12c : Nat) (H1 : AH),
 apnd H 1 1 t10a t10l t10c (.string ⟨⟨s1⟩⟩) = some (.slice t12a t12l t12c, H1) ∧
 ∃ (H2 : AH),
 storeCellsv H1 w0b 0 [.slice t12a t12l t12c] = some H2 ∧
 Q (.tuple ⟨[]⟩) H2
set_option maxRecDepth 100000 in
theorem fw_wire_Writer_Bytes {w0b : Nat} {s1 : List UInt8} {H : AH} {Q : Value → AH → Prop} (h : VC_wire_Writer_Bytes w0b s1 H Q) : FW Ee F_wire_Writer_Bytes [.pointer (some ⟨w0b, 0, none⟩), .string ⟨⟨s1⟩⟩] H Q := by
  have e : VC_wire_Writer_Bytes w0b s1 H Q = wpF Ee ⟨[], []⟩ F_wire_Writer_Bytes [.pointer (some ⟨w0b, 0, none⟩), .string ⟨⟨s1⟩⟩] H Q := by kernel_rfl
  letI : Sy := sy0
  exact wpF_sound (Eq.mp e h)
/-- (*cohort/wire.Writer).Number -/
def VC_wire_Writer_Number (w0b : Nat) (n1 : Int) (H : AH) (Q : Value → AH → Prop) : Prop :=
 FW Ee F_wire_Number [.int .u64 n1] H fun v H1 =>
 ∃ (r6 : List UInt8),
 v = .string ⟨⟨r6⟩⟩ ∧
 FW Ee F_wire_Writer_Bytes [.pointer (some ⟨w0b, 0, none⟩), .string ⟨⟨r6⟩⟩] H1 fun v_1 H2 =>
 v_1 = .tuple ⟨[]⟩ ∧
 Q (.tuple ⟨[]⟩) H2
set_option maxRecDepth 100000 in
theorem fw_wire_Writer_Number {w0b : Nat} {n1 : Int} {H : AH} {Q : Value → AH → Prop} (h : VC_wire_Writer_Number w0b n1 H Q) : FW Ee F_wire_Writer_Number [.pointer (some ⟨w0b, 0, none⟩), .int .u64 n1] H Q := by
  have e : VC_wire_Writer_Number w0b n1 H Q = wpF Ee ⟨[], []⟩ F_wire_Writer_Number [.pointer (some ⟨w0b, 0, none⟩), .int .u64 n1] H Q := by kernel_rfl
  letI : Sy := sy0
  exact wpF_sound (Eq.mp e h)
/-- (*cohort/wire.Writer).Signed -/
def VC_wire_Writer_Signed (w0b : Nat) (n1 : Int) (H : AH) (Q : Value → AH → Prop) : Prop :=
 FW Ee F_wire_Fold [.int .i64 n1] H fun v H1 =>
 ∃ (r6 : Int),
 v = .int .u64 r6 ∧
 FW Ee F_wire_Writer_Number [.pointer (some ⟨w0b, 0, none⟩), .int .u64 r6] H1 fun v_1 H2 =>
 v_1 = .tuple ⟨[]⟩ ∧
 Q (.tuple ⟨[]⟩) H2
set_option maxRecDepth 100000 in
theorem fw_wire_Writer_Signed {w0b : Nat} {n1 : Int} {H : AH} {Q : Value → AH → Prop} (h : VC_wire_Writer_Signed w0b n1 H Q) : FW Ee F_wire_Writer_Signed [.pointer (some ⟨w0b, 0, none⟩), .int .i64 n1] H Q := by
  have e : VC_wire_Writer_Signed w0b n1 H Q = wpF Ee ⟨[], []⟩ F_wire_Writer_Signed [.pointer (some ⟨w0b, 0, none⟩), .int .i64 n1] H Q := by kernel_rfl
  letI : Sy := sy0
  exact wpF_sound (Eq.mp e h)
/-- (*cohort/wire.Writer).Count -/
def VC_wire_Writer_Count (w0b : Nat) (n1 : Int) (H : AH) (Q : Value → AH → Prop) : Prop :=
 ∀ (t7 : Int),
 t7 = IntKind.u64.wrap (if (0 : Int) > n1 then 0 else n1) →
 FW Ee F_wire_Writer_Number [.pointer (some ⟨w0b, 0, none⟩), .int .u64 t7] H fun v H1 =>
 v = .tuple ⟨[]⟩ ∧
 Q (.tuple ⟨[]⟩) H1
set_option maxRecDepth 100000 in
theorem fw_wire_Writer_Count {w0b : Nat} {n1 : Int} {H : AH} {Q : Value → AH → Prop} (h : VC_wire_Writer_Count w0b n1 H Q) : FW Ee F_wire_Writer_Count [.pointer (some ⟨w0b, 0, none⟩), .int .i64 n1] H Q := by
  have e : VC_wire_Writer_Count w0b n1 H Q = wpF Ee ⟨[], []⟩ F_wire_Writer_Count [.pointer (some ⟨w0b, 0, none⟩), .int .i64 n1] H Q := by kernel_rfl
  letI : Sy := sy0
  exact wpF_sound (Eq.mp e h)
/-- (*cohort/wire.Writer).All -/
def VC_wire_Writer_All (w0b : Nat) (H : AH) (Q : Value → AH → Prop) : Prop :=
 ∃ (t8a : Option Addr) (t8l : Nat) (t8c : Nat),
 H.cell w0b 0 = some (.slice t8a t8l t8c) ∧
 ∃ (t9 : List UInt8),
 bytesToStr Ee H T_L_uint8 T_string (.slice t8a t8l t8c) = some (.string ⟨⟨t9⟩⟩) ∧
 Q (.string ⟨⟨t9⟩⟩) H
set_option maxRecDepth 100000 in
theorem fw_wire_Writer_All {w0b : Nat} {H : AH} {Q : Value → AH → Prop} (h : VC_wire_Writer_All w0b H Q) : FW Ee F_wire_Writer_All [.pointer (some ⟨w0b, 0, none⟩)] H Q := by
  have e : VC_wire_Writer_All w0b H Q = wpF Ee ⟨[], []⟩ F_wire_Writer_All [.pointer (some ⟨w0b, 0, none⟩)] H Q := by kernel_rfl
  letI : Sy := sy0
  exact wpF_sound (Eq.mp e h)
/-- (*cohort/wire.Reader).Err -/
def VC_wire_Reader_Err (r0b : Nat) (H : AH) (Q : Value → AH → Prop) : Prop :=
 ∃ (t8 : Int),
 H.cell r0b 2 = some (.int .i64 t8) ∧
 Q (.int .i64 t8) H
set_option maxRecDepth 100000 in
theorem fw_wire_Reader_Err {r0b : Nat} {H : AH} {Q : Value → AH → Prop} (h : VC_wire_Reader_Err r0b H Q) : FW Ee F_wire_Reader_Err [.pointer (some ⟨r0b, 0, none⟩)] H Q := by
  have e : VC_wire_Reader_Err r0b H Q = wpF Ee ⟨[], []⟩ F_wire_Reader_Err [.pointer (some ⟨r0b, 0, none⟩)] H Q := by kernel_rfl
  letI : Sy := sy0
  exact wpF_sound (Eq.mp e h)
/-- (*cohort/wire.Reader).At -/
def VC_wire_Reader_At (r0b : Nat) (H : AH) (Q : Value → AH → Prop) : Prop :=
 ∃ (t8 : Int),
 H.cell r0b 1 = some (.int .i64 t8) ∧
 Q (.int .i64 t8) H
set_option maxRecDepth 100000 in
theorem fw_wire_Reader_At {r0b : Nat} {H : AH} {Q : Value → AH → Prop} (h : VC_wire_Reader_At r0b H Q) : FW Ee F_wire_Reader_At [.pointer (some ⟨r0b, 0, none⟩)] H Q := by
  have e : VC_wire_Reader_At r0b H Q = wpF Ee ⟨[], []⟩ F_wire_Reader_At [.pointer (some ⟨r0b, 0, none⟩)] H Q := by kernel_rfl
  letI : Sy := sy0
  exact wpF_sound (Eq.mp e h)
/-- (*cohort/wire.Reader).Left -/
def VC_wire_Reader_Left (r0b : Nat) (H : AH) (Q : Value → AH → Prop) : Prop :=
 ∃ (t8 : List UInt8),
 H.cell r0b 0 = some (.string ⟨⟨t8⟩⟩) ∧
 ∃ (t13 : Int),
 H.cell r0b 1 = some (.int .i64 t13) ∧
 ∀ (t14 : Int),
 t14 = IntKind.i64.wrap (((((t8 : List UInt8).length : Nat) : Int)) - t13) →
 Q (.int .i64 t14) H
set_option maxRecDepth 100000 in
theorem fw_wire_Reader_Left {r0b : Nat} {H : AH} {Q : Value → AH → Prop} (h : VC_wire_Reader_Left r0b H Q) : FW Ee F_wire_Reader_Left [.pointer (some ⟨r0b, 0, none⟩)] H Q := by
  have e : VC_wire_Reader_Left r0b H Q = wpF Ee ⟨[], []⟩ F_wire_Reader_Left [.pointer (some ⟨r0b, 0, none⟩)] H Q := by kernel_rfl
  letI : Sy := sy0
  exact wpF_sound (Eq.mp e h)
/-- (*cohort/wire.Reader).Fail -/
def VC_wire_Reader_Fail (r0b : Nat) (e1 : Int) (H : AH) (Q : Value → AH → Prop) : Prop :=
 ∃ (t10 : Int),
 H.cell r0b 2 = some (.int .i64 t10) ∧
 cond (t10 == 0) (
 ∃ (H1 : AH),
 storeCellsv H r0b 2 [.int .i64 e1] = some H1 ∧
 Q (.tuple ⟨[]⟩) H1) (
 Q (.tuple ⟨[]⟩) H)
set_option maxRecDepth 100000 in
theorem fw_wire_Reader_Fail {r0b : Nat} {e1 : Int} {H : AH} {Q : Value → AH → Prop} (h : VC_wire_Reader_Fail r0b e1 H Q) : FW Ee F_wire_Reader_Fail [.pointer (some ⟨r0b, 0, none⟩), .int .i64 e1] H Q := by
  have e : VC_wire_Reader_Fail r0b e1 H Q = wpF Ee ⟨[], []⟩ F_wire_Reader_Fail [.pointer (some ⟨r0b, 0, none⟩), .int .i64 e1] H Q := by kernel_rfl
  letI : Sy := sy0
  exact wpF_sound (Eq.mp e h)
/-- (*cohort/wire.Reader).End -/
def VC_wire_Reader_End (r0b : Nat) (H : AH) (Q : Value → AH → Prop) : Prop :=
 FW Ee F_wire_Reader_Left [.pointer (some ⟨r0b, 0, none⟩)] H fun v H1 =>
 ∃ (r4 : Int),
 v = .int .i64 r4 ∧
 cond (decide (r4 > 0)) (
 FW Ee F_wire_Reader_Fail [.pointer (some ⟨r0b, 0, none⟩), .int .i64 5] H1 fun v_1 H2 =>
 v_1 = .tuple ⟨[]⟩ ∧
 FW Ee F_wire_Reader_Err [.pointer (some ⟨r0b, 0, none⟩)] H2 fun v_2 H3 =>
 ∃ (r9 : Int),
 v_2 = .int .i64 r9 ∧
 Q (.int .i64 r9) H3) (
 FW Ee F_wire_Reader_Err [.pointer (some ⟨r0b, 0, none⟩)] H1 fun v_3 H4 =>
 ∃ (r9_1 : Int),
 v_3 = .int .i64 r9_1 ∧
 Q (.int .i64 r9_1) H4)
set_option maxRecDepth 100000 in
theorem fw_wire_Reader_End {r0b : Nat} {H : AH} {Q : Value → AH → Prop} (h : VC_wire_Reader_End r0b H Q) : FW Ee F_wire_Reader_End [.pointer (some ⟨r0b, 0, none⟩)] H Q := by
  have e : VC_wire_Reader_End r0b H Q = wpF Ee ⟨[], []⟩ F_wire_Reader_End [.pointer (some ⟨r0b, 0, none⟩)] H Q := by kernel_rfl
  letI : Sy := sy0
  exact wpF_sound (Eq.mp e h)
/-- (*cohort/wire.Reader).Number -/
def VC_wire_Reader_Number (r0b : Nat) (H : AH) (Q : Value → AH → Prop) : Prop :=
 FW Ee F_wire_Reader_Err [.pointer (some ⟨r0b, 0, none⟩)] H fun v H1 =>
 ∃ (r7 : Int),
 v = .int .i64 r7 ∧
 cond (r7 != 0) (
 Q (.int .u64 0) H1) (
 ∃ (Inv : Nat → Int → Int → Int → AH → Prop),
 (
 ∃ (n_1 : Nat),
 Inv n_1 0 0 0 H1) ∧
 ∀ (n : Nat),
 ∀ (t2 : Int) (n3 : Int) (t9 : Int) (H2 : AH),
 Inv n t2 n3 t9 H2 →
 cond (decide (t9 < 10)) (
 ∃ (t15 : Int),
 H2.cell r0b 1 = some (.int .i64 t15) ∧
 ∀ (t17 : Int),
 t17 = IntKind.i64.wrap (t15 + t9) →
 ∃ (t21 : List UInt8),
 H2.cell r0b 0 = some (.string ⟨⟨t21⟩⟩) ∧
 cond (decide (t17 ≥ ((((t21 : List UInt8).length : Nat) : Int)))) (
 ∃ (H3 : AH),
 storeCellsv H2 r0b 2 [.int .i64 4] = some H3 ∧
 Q (.int .u64 0) H3) (
 ∃ (t30 : List UInt8),
 H2.cell r0b 0 = some (.string ⟨⟨t30⟩⟩) ∧
 ∃ (t34 : Int),
 H2.cell r0b 1 = some (.int .i64 t34) ∧
 ∀ (t36 : Int),
 t36 = IntKind.i64.wrap (t34 + t9) →
 (0 : Int) ≤ t36 ∧
 (t36 : Int) < (((t30 : List UInt8).length : Nat) : Int) ∧
 cond (t9 == 9) (
 cond (decide ((byteAt t30 t36) > 1)) (
 ∃ (H4 : AH),
 storeCellsv H2 r0b 2 [.int .i64 6] = some H4 ∧
 Q (.int .u64 0) H4) (
 cond ((byteAt t30 t36) == 0) (
 cond (decide (t9 > 0)) (
 ∃ (H5 : AH),
 storeCellsv H2 r0b 2 [.int .i64 6] = some H5 ∧
 Q (.int .u64 0) H5) (
 ∀ (t57 : Int),
 t57 = iand .u8 (byteAt t30 t36) 127 →
 ∀ (t58 : Int),
 t58 = IntKind.u64.wrap (t57) →
 ∀ (t60 : Int),
 t60 = IntKind.i64.wrap (7 * t9) →
 (0 : Int) ≤ t60 ∧
 ∀ (t61 : Int),
 t61 = IntKind.u64.wrap ((t58 : Int) * 2 ^ (min (t60 : Int).toNat IntKind.u64.bits)) →
 ∀ (t62 : Int),
 t62 = ior .u64 n3 t61 →
 ∀ (t64 : Int),
 t64 = iand .u8 (byteAt t30 t36) 128 →
 cond (t64 == 0) (
 ∃ (t69 : Int),
 H2.cell r0b 1 = some (.int .i64 t69) ∧
 ∀ (t71 : Int),
 t71 = IntKind.i64.wrap (t9 + 1) →
 ∀ (t72 : Int),
 t72 = IntKind.i64.wrap (t69 + t71) →
 ∃ (H6 : AH),
 storeCellsv H2 r0b 1 [.int .i64 t72] = some H6 ∧
 Q (.int .u64 t62) H6) (
 ∀ (t76 : Int),
 t76 = IntKind.i64.wrap (t9 + 1) →
 ∃ (m : Nat),
 m < n ∧
 Inv m t2 t62 t76 H2))) (
 ∀ (t57_1 : Int),
 t57_1 = iand .u8 (byteAt t30 t36) 127 →
 ∀ (t58_1 : Int),
 t58_1 = IntKind.u64.wrap (t57_1) →
 ∀ (t60_1 : Int),
 t60_1 = IntKind.i64.wrap (7 * t9) →
 (0 : Int) ≤ t60_1 ∧
 ∀ (t61_1 : Int),
 t61_1 = IntKind.u64.wrap ((t58_1 : Int) * 2 ^ (min (t60_1 : Int).toNat IntKind.u64.bits)) →
 ∀ (t62_1 : Int),
 t62_1 = ior .u64 n3 t61_1 →
 ∀ (t64_1 : Int),
 t64_1 = iand .u8 (byteAt t30 t36) 128 →
 cond (t64_1 == 0) (
 ∃ (t69_1 : Int),
 H2.cell r0b 1 = some (.int .i64 t69_1) ∧
 ∀ (t71_1 : Int),
 t71_1 = IntKind.i64.wrap (t9 + 1) →
 ∀ (t72_1 : Int),
 t72_1 = IntKind.i64.wrap (t69_1 + t71_1) →
 ∃ (H7 : AH),
 storeCellsv H2 r0b 1 [.int .i64 t72_1] = some H7 ∧
 Q (.int .u64 t62_1) H7) (
 ∀ (t76_1 : Int),
 t76_1 = IntKind.i64.wrap (t9 + 1) →
 ∃ (m : Nat),
 m < n ∧
 Inv m t2 t62_1 t76_1 H2)))) (
 cond ((byteAt t30 t36) == 0) (
 cond (decide (t9 > 0)) (
 ∃ (H8 : AH),
 storeCellsv H2 r0b 2 [.int .i64 6] = some H8 ∧
 Q (.int .u64 0) H8) (
 ∀ (t57_2 : Int),
 t57_2 = iand .u8 (byteAt t30 t36) 127 →
 ∀ (t58_2 : Int),
 t58_2 = IntKind.u64.wrap (t57_2) →
 ∀ (t60_2 : Int),
 t60_2 = IntKind.i64.wrap (7 * t9) →
 (0 : Int) ≤ t60_2 ∧
 ∀ (t61_2 : Int),
 t61_2 = IntKind.u64.wrap ((t58_2 : Int) * 2 ^ (min (t60_2 : Int).toNat IntKind.u64.bits)) →
 ∀ (t62_2 : Int),
 t62_2 = ior .u64 n3 t61_2 →
 ∀ (t64_2 : Int),
 t64_2 = iand .u8 (byteAt t30 t36) 128 →
 cond (t64_2 == 0) (
 ∃ (t69_2 : Int),
 H2.cell r0b 1 = some (.int .i64 t69_2) ∧
 ∀ (t71_2 : Int),
 t71_2 = IntKind.i64.wrap (t9 + 1) →
 ∀ (t72_2 : Int),
 t72_2 = IntKind.i64.wrap (t69_2 + t71_2) →
 ∃ (H9 : AH),
 storeCellsv H2 r0b 1 [.int .i64 t72_2] = some H9 ∧
 Q (.int .u64 t62_2) H9) (
 ∀ (t76_2 : Int),
 t76_2 = IntKind.i64.wrap (t9 + 1) →
 ∃ (m : Nat),
 m < n ∧
 Inv m t2 t62_2 t76_2 H2))) (
 ∀ (t57_3 : Int),
 t57_3 = iand .u8 (byteAt t30 t36) 127 →
 ∀ (t58_3 : Int),
 t58_3 = IntKind.u64.wrap (t57_3) →
 ∀ (t60_3 : Int),
 t60_3 = IntKind.i64.wrap (7 * t9) →
 (0 : Int) ≤ t60_3 ∧
 ∀ (t61_3 : Int),
 t61_3 = IntKind.u64.wrap ((t58_3 : Int) * 2 ^ (min (t60_3 : Int).toNat IntKind.u64.bits)) →
 ∀ (t62_3 : Int),
 t62_3 = ior .u64 n3 t61_3 →
 ∀ (t64_3 : Int),
 t64_3 = iand .u8 (byteAt t30 t36) 128 →
 cond (t64_3 == 0) (
 ∃ (t69_3 : Int),
 H2.cell r0b 1 = some (.int .i64 t69_3) ∧
 ∀ (t71_3 : Int),
 t71_3 = IntKind.i64.wrap (t9 + 1) →
 ∀ (t72_3 : Int),
 t72_3 = IntKind.i64.wrap (t69_3 + t71_3) →
 ∃ (H10 : AH),
 storeCellsv H2 r0b 1 [.int .i64 t72_3] = some H10 ∧
 Q (.int .u64 t62_3) H10) (
 ∀ (t76_3 : Int),
 t76_3 = IntKind.i64.wrap (t9 + 1) →
 ∃ (m : Nat),
 m < n ∧
 Inv m t2 t62_3 t76_3 H2))))) (
 ∃ (H11 : AH),
 storeCellsv H2 r0b 2 [.int .i64 6] = some H11 ∧
 Q (.int .u64 0) H11))
set_option maxRecDepth 100000 in
theorem fw_wire_Reader_Number {r0b : Nat} {H : AH} {Q : Value → AH → Prop} (h : VC_wire_Reader_Number r0b H Q) : FW Ee F_wire_Reader_Number [.pointer (some ⟨r0b, 0, none⟩)] H Q := by
  have e : VC_wire_Reader_Number r0b H Q = wpF Ee ⟨[], []⟩ F_wire_Reader_Number [.pointer (some ⟨r0b, 0, none⟩)] H Q := by kernel_rfl
  letI : Sy := sy0
  exact wpF_sound (Eq.mp e h)
/-- (*cohort/wire.Reader).Signed -/
def VC_wire_Reader_Signed (r0b : Nat) (H : AH) (Q : Value → AH → Prop) : Prop :=
 FW Ee F_wire_Reader_Number [.pointer (some ⟨r0b, 0, none⟩)] H fun v H1 =>
 ∃ (r4 : Int),
 v = .int .u64 r4 ∧
 FW Ee F_wire_Unfold [.int .u64 r4] H1 fun v_1 H2 =>
 ∃ (r5 : Int),
 v_1 = .int .i64 r5 ∧
 Q (.int .i64 r5) H2
set_option maxRecDepth 100000 in
theorem fw_wire_Reader_Signed {r0b : Nat} {H : AH} {Q : Value → AH → Prop} (h : VC_wire_Reader_Signed r0b H Q) : FW Ee F_wire_Reader_Signed [.pointer (some ⟨r0b, 0, none⟩)] H Q := by
  have e : VC_wire_Reader_Signed r0b H Q = wpF Ee ⟨[], []⟩ F_wire_Reader_Signed [.pointer (some ⟨r0b, 0, none⟩)] H Q := by kernel_rfl
  letI : Sy := sy0
  exact wpF_sound (Eq.mp e h)
/-- (*cohort/wire.Reader).Count -/
def VC_wire_Reader_Count (r0b : Nat) (most1 : Int) (H : AH) (Q : Value → AH → Prop) : Prop :=
 FW Ee F_wire_Reader_At [.pointer (some ⟨r0b, 0, none⟩)] H fun v H1 =>
 ∃ (r8 : Int),
 v = .int .i64 r8 ∧
 FW Ee F_wire_Reader_Number [.pointer (some ⟨r0b, 0, none⟩)] H1 fun v_1 H2 =>
 ∃ (r10 : Int),
 v_1 = .int .u64 r10 ∧
 FW Ee F_wire_Reader_Err [.pointer (some ⟨r0b, 0, none⟩)] H2 fun v_2 H3 =>
 ∃ (r12 : Int),
 v_2 = .int .i64 r12 ∧
 cond (r12 != 0) (
 Q (.int .i64 0) H3) (
 cond (decide (most1 < 0)) (
 ∃ (H4 : AH),
 storeCellsv H3 r0b 1 [.int .i64 r8] = some H4 ∧
 ∃ (H5 : AH),
 storeCellsv H4 r0b 2 [.int .i64 5] = some H5 ∧
 Q (.int .i64 0) H5) (
 ∀ (t19 : Int),
 t19 = IntKind.u64.wrap (most1) →
 cond (decide (r10 > t19)) (
 ∃ (H6 : AH),
 storeCellsv H3 r0b 1 [.int .i64 r8] = some H6 ∧
 ∃ (H7 : AH),
 storeCellsv H6 r0b 2 [.int .i64 5] = some H7 ∧
 Q (.int .i64 0) H7) (
 ∀ (t30 : Int),
 t30 = IntKind.i64.wrap (r10) →
 Q (.int .i64 t30) H3)))
set_option maxRecDepth 100000 in
theorem fw_wire_Reader_Count {r0b : Nat} {most1 : Int} {H : AH} {Q : Value → AH → Prop} (h : VC_wire_Reader_Count r0b most1 H Q) : FW Ee F_wire_Reader_Count [.pointer (some ⟨r0b, 0, none⟩), .int .i64 most1] H Q := by
  have e : VC_wire_Reader_Count r0b most1 H Q = wpF Ee ⟨[], []⟩ F_wire_Reader_Count [.pointer (some ⟨r0b, 0, none⟩), .int .i64 most1] H Q := by kernel_rfl
  letI : Sy := sy0
  exact wpF_sound (Eq.mp e h)
/-- cmp.isNaN[int64] -/
def VC_cmp_isNaN_int64 (x0 : Int) (H : AH) (Q : Value → AH → Prop) : Prop :=
 Q (.bool (x0 != x0)) H
set_option maxRecDepth 100000 in
theorem fw_cmp_isNaN_int64 {x0 : Int} {H : AH} {Q : Value → AH → Prop} (h : VC_cmp_isNaN_int64 x0 H Q) : FW Ee F_cmp_isNaN_int64 [.int .i64 x0] H Q := by
  have e : VC_cmp_isNaN_int64 x0 H Q = wpF Ee ⟨[], []⟩ F_cmp_isNaN_int64 [.int .i64 x0] H Q := by kernel_rfl
  letI : Sy := sy0
  exact wpF_sound (Eq.mp e h)
/-- cmp.Compare[int64] -/
def VC_cmp_Compare_int64 (x0 : Int) (y1 : Int) (H : AH) (Q : Value → AH → Prop) : Prop :=
 FW Ee F_cmp_isNaN_int64 [.int .i64 x0] H fun v H1 =>
 ∃ (r8 : Bool),
 v = .bool r8 ∧
 FW Ee F_cmp_isNaN_int64 [.int .i64 y1] H1 fun v_1 H2 =>
 ∃ (r10 : Bool),
 v_1 = .bool r10 ∧
 cond (r8) (
 cond (r10) (
 Q (.int .i64 0) H2) (
 Q (.int .i64 (-1)) H2)) (
 cond (r10) (
 Q (.int .i64 1) H2) (
 cond (decide (x0 < y1)) (
 Q (.int .i64 (-1)) H2) (
 cond (decide (x0 > y1)) (
 Q (.int .i64 1) H2) (
 Q (.int .i64 0) H2))))
set_option maxRecDepth 100000 in
theorem fw_cmp_Compare_int64 {x0 : Int} {y1 : Int} {H : AH} {Q : Value → AH → Prop} (h : VC_cmp_Compare_int64 x0 y1 H Q) : FW Ee F_cmp_Compare_int64 [.int .i64 x0, .int .i64 y1] H Q := by
  have e : VC_cmp_Compare_int64 x0 y1 H Q = wpF Ee ⟨[], []⟩ F_cmp_Compare_int64 [.int .i64 x0, .int .i64 y1] H Q := by kernel_rfl
  letI : Sy := sy0
  exact wpF_sound (Eq.mp e h)
/-- cohort/graph.Find$1 -/
def VC_graph_Find_1 (v0_ID : Int) (v0_Value : Int) (v0_Edgesa : Option Addr) (v0_Edgesl : Nat) (v0_Edgesc : Nat) (id1 : Int) (H : AH) (Q : Value → AH → Prop) : Prop :=
 ∀ (H1 : AH),
 H1 = H.new (.cells [.int .i64 v0_ID, .int .i64 v0_Value, .slice v0_Edgesa v0_Edgesl v0_Edgesc] 0) →
 ∃ (t6 : Int),
 H1.cell H.next 0 = some (.int .i64 t6) ∧
 FW Ee F_cmp_Compare_int64 [.int .i64 t6, .int .i64 id1] H1 fun v H2 =>
 ∃ (r8 : Int),
 v = .int .i64 r8 ∧
 Q (.int .i64 r8) H2
set_option maxRecDepth 100000 in
theorem fw_graph_Find_1 {v0_ID : Int} {v0_Value : Int} {v0_Edgesa : Option Addr} {v0_Edgesl : Nat} {v0_Edgesc : Nat} {id1 : Int} {H : AH} {Q : Value → AH → Prop} (h : VC_graph_Find_1 v0_ID v0_Value v0_Edgesa v0_Edgesl v0_Edgesc id1 H Q) : FW Ee F_graph_Find_1 [.agg ⟨[.int .i64 v0_ID, .int .i64 v0_Value, .slice v0_Edgesa v0_Edgesl v0_Edgesc]⟩, .int .i64 id1] H Q := by
  have e : VC_graph_Find_1 v0_ID v0_Value v0_Edgesa v0_Edgesl v0_Edgesc id1 H Q = wpF Ee ⟨[], []⟩ F_graph_Find_1 [.agg ⟨[.int .i64 v0_ID, .int .i64 v0_Value, .slice v0_Edgesa v0_Edgesl v0_Edgesc]⟩, .int .i64 id1] H Q := by kernel_rfl
  letI : Sy := sy0
  exact wpF_sound (Eq.mp e h)
/-- slices.BinarySearchFunc[[]cohort/api.Vertex,cohort/api.Vertex,int64] -/
def VC_slices_BinarySearchFunc_L_api_Vertex_api_Vertex_int64 (x0a : Option Addr) (x0l : Nat) (x0c : Nat) (target1 : Int) (H : AH) (Q : Value → AH → Prop) : Prop :=
 ∃ (Inv : Nat → Int → Int → AH → Prop),
 (
 ∃ (n_1 : Nat),
 Inv n_1 0 (((x0l : Nat) : Int)) H) ∧
 ∀ (n : Nat),
 ∀ (i9 : Int) (j10 : Int) (H1 : AH),
 Inv n i9 j10 H1 →
 cond (decide (i9 < j10)) (
 ∀ (t20 : Int),
 t20 = IntKind.i64.wrap (i9 + j10) →
 ∀ (t21 : Int),
 t21 = IntKind.u64.wrap (t20) →
 (0 : Int) ≤ 1 ∧
 ∀ (t22 : Int),
 t22 = (t21 : Int).fdiv (2 ^ (min (1 : Int).toNat IntKind.u64.bits)) →
 ∀ (t23 : Int),
 t23 = IntKind.i64.wrap (t22) →
 grd x0a.isSome (
 (0 : Int) ≤ t23 ∧
 (t23 : Int) < ((x0l : Nat) : Int) ∧
 ∃ (t28_ID : Int) (t28_Value : Int) (t28_Edgesa : Option Addr) (t28_Edgesl : Nat) (t28_Edgesc : Nat),
 H1.cell ((adr x0a).block) ((adr x0a).off + (t23 : Int).toNat * 3 + 0) = some (.int .i64 t28_ID) ∧
 H1.cell ((adr x0a).block) ((adr x0a).off + (t23 : Int).toNat * 3 + 1) = some (.int .i64 t28_Value) ∧
 H1.cell ((adr x0a).block) ((adr x0a).off + (t23 : Int).toNat * 3 + 2) = some (.slice t28_Edgesa t28_Edgesl t28_Edgesc) ∧
 FW Ee F_graph_Find_1 [.agg ⟨[.int .i64 t28_ID, .int .i64 t28_Value, .slice t28_Edgesa t28_Edgesl t28_Edgesc]⟩, .int .i64 target1] H1 fun v H2 =>
 ∃ (r30 : Int),
 v = .int .i64 r30 ∧
 cond (decide (r30 < 0)) (
 ∀ (t33 : Int),
 t33 = IntKind.i64.wrap (t23 + 1) →
 ∃ (m : Nat),
 m < n ∧
 Inv m t33 j10 H2) (
 ∃ (m : Nat),
 m < n ∧
 Inv m i9 t23 H2))) (
 cond (decide (i9 < (((x0l : Nat) : Int)))) (
 grd x0a.isSome (
 (0 : Int) ≤ i9 ∧
 (i9 : Int) < ((x0l : Nat) : Int) ∧
 ∃ (t44_ID : Int) (t44_Value : Int) (t44_Edgesa : Option Addr) (t44_Edgesl : Nat) (t44_Edgesc : Nat),
 H1.cell ((adr x0a).block) ((adr x0a).off + (i9 : Int).toNat * 3 + 0) = some (.int .i64 t44_ID) ∧
 H1.cell ((adr x0a).block) ((adr x0a).off + (i9 : Int).toNat * 3 + 1) = some (.int .i64 t44_Value) ∧
 H1.cell ((adr x0a).block) ((adr x0a).off + (i9 : Int).toNat * 3 + 2) = some (.slice t44_Edgesa t44_Edgesl t44_Edgesc) ∧
 FW Ee F_graph_Find_1 [.agg ⟨[.int .i64 t44_ID, .int .i64 t44_Value, .slice t44_Edgesa t44_Edgesl t44_Edgesc]⟩, .int .i64 target1] H1 fun v_1 H3 =>
 ∃ (r46 : Int),
 v_1 = .int .i64 r46 ∧
 Q (.tuple ⟨[.int .i64 i9, .bool (r46 == 0)]⟩) H3)) (
 Q (.tuple ⟨[.int .i64 i9, .bool false]⟩) H1))
set_option maxRecDepth 100000 in
theorem fw_slices_BinarySearchFunc_L_api_Vertex_api_Vertex_int64 {x0a : Option Addr} {x0l : Nat} {x0c : Nat} {target1 : Int} {H : AH} {Q : Value → AH → Prop} (h : VC_slices_BinarySearchFunc_L_api_Vertex_api_Vertex_int64 x0a x0l x0c target1 H Q) : FW Ee F_slices_BinarySearchFunc_L_api_Vertex_api_Vertex_int64 [.slice x0a x0l x0c, .int .i64 target1, .func (.func F_graph_Find_1) ⟨[]⟩ ⟨[]⟩] H Q := by
  have e : VC_slices_BinarySearchFunc_L_api_Vertex_api_Vertex_int64 x0a x0l x0c target1 H Q = wpF Ee ⟨[], []⟩ F_slices_BinarySearchFunc_L_api_Vertex_api_Vertex_int64 [.slice x0a x0l x0c, .int .i64 target1, .func (.func F_graph_Find_1) ⟨[]⟩ ⟨[]⟩] H Q := by kernel_rfl
  letI : Sy := sy0
  exact wpF_sound (Eq.mp e h)
/-- cohort/graph.Find -/
def VC_graph_Find (g0_Verticesa : Option Addr) (g0_Verticesl : Nat) (g0_Verticesc : Nat) (id1 : Int) (H : AH) (Q : Value → AH → Prop) : Prop :=
 ∀ (H1 : AH),
 H1 = H.new (.cells [.slice g0_Verticesa g0_Verticesl g0_Verticesc] 0) →
 ∃ (t7a : Option Addr) (t7l : Nat) (t7c : Nat),
 H1.cell H.next 0 = some (.slice t7a t7l t7c) ∧
 FW Ee F_slices_BinarySearchFunc_L_api_Vertex_api_Vertex_int64 [.slice t7a t7l t7c, .int .i64 id1, .func (.func F_graph_Find_1) ⟨[]⟩ ⟨[]⟩] H1 fun v H2 =>
 ∃ (r9_0 : Int) (r9_1 : Bool),
 v = .tuple ⟨[.int .i64 r9_0, .bool r9_1]⟩ ∧
 Q (.tuple ⟨[.int .i64 r9_0, .bool r9_1]⟩) H2
set_option maxRecDepth 100000 in
theorem fw_graph_Find {g0_Verticesa : Option Addr} {g0_Verticesl : Nat} {g0_Verticesc : Nat} {id1 : Int} {H : AH} {Q : Value → AH → Prop} (h : VC_graph_Find g0_Verticesa g0_Verticesl g0_Verticesc id1 H Q) : FW Ee F_graph_Find [.agg ⟨[.slice g0_Verticesa g0_Verticesl g0_Verticesc]⟩, .int .i64 id1] H Q := by
  have e : VC_graph_Find g0_Verticesa g0_Verticesl g0_Verticesc id1 H Q = wpF Ee ⟨[], []⟩ F_graph_Find [.agg ⟨[.slice g0_Verticesa g0_Verticesl g0_Verticesc]⟩, .int .i64 id1] H Q := by kernel_rfl
  letI : Sy := sy0
  exact wpF_sound (Eq.mp e h)
/-- cohort/graph.All -/
def VC_graph_All (g0_Verticesa : Option Addr) (g0_Verticesl : Nat) (g0_Verticesc : Nat) (H : AH) (Q : Value → AH → Prop) : Prop :=
 ∀ (H1 : AH),
 H1 = H.new (.cells [.slice g0_Verticesa g0_Verticesl g0_Verticesc] 0) →
 Q (.func (.func F_graph_All_1) ⟨[]⟩ ⟨[.pointer (some ⟨H.next, 0, none⟩)]⟩) H1
set_option maxRecDepth 100000 in
theorem fw_graph_All {g0_Verticesa : Option Addr} {g0_Verticesl : Nat} {g0_Verticesc : Nat} {H : AH} {Q : Value → AH → Prop} (h : VC_graph_All g0_Verticesa g0_Verticesl g0_Verticesc H Q) : FW Ee F_graph_All [.agg ⟨[.slice g0_Verticesa g0_Verticesl g0_Verticesc]⟩] H Q := by
  have e : VC_graph_All g0_Verticesa g0_Verticesl g0_Verticesc H Q = wpF Ee ⟨[], []⟩ F_graph_All [.agg ⟨[.slice g0_Verticesa g0_Verticesl g0_Verticesc]⟩] H Q := by kernel_rfl
  letI : Sy := sy0
  exact wpF_sound (Eq.mp e h)
/-- cohort/graph.All$1 -/
def VC_graph_All_1 (yield0l : Nat) (t1b : Nat) (t1o : Nat) (H : AH) (Q : Value → AH → Prop) : Prop :=
 ∃ (t8a : Option Addr) (t8l : Nat) (t8c : Nat),
 H.cell t1b t1o = some (.slice t8a t8l t8c) ∧
 ∃ (Inv : Nat → Int → AH → Prop),
 (
 ∃ (n_1 : Nat),
 Inv n_1 0 H) ∧
 ∀ (n : Nat),
 ∀ (t10 : Int) (H1 : AH),
 Inv n t10 H1 →
 cond (decide (t10 < (((t8l : Nat) : Int)))) (
 grd t8a.isSome (
 (0 : Int) ≤ t10 ∧
 (t10 : Int) < ((t8l : Nat) : Int) ∧
 ∃ (t13_ID : Int) (t13_Value : Int) (t13_Edgesa : Option Addr) (t13_Edgesl : Nat) (t13_Edgesc : Nat),
 H1.cell ((adr t8a).block) ((adr t8a).off + (t10 : Int).toNat * 3 + 0) = some (.int .i64 t13_ID) ∧
 H1.cell ((adr t8a).block) ((adr t8a).off + (t10 : Int).toNat * 3 + 1) = some (.int .i64 t13_Value) ∧
 H1.cell ((adr t8a).block) ((adr t8a).off + (t10 : Int).toNat * 3 + 2) = some (.slice t13_Edgesa t13_Edgesl t13_Edgesc) ∧
 ∀ (H2 : AH),
 H2 = H1.new (.cells [.int .i64 0, .int .i64 0, .slice none 0 0] 0) →
 ∃ (H3 : AH),
 storeCellsv H2 H1.next 0 [.int .i64 t13_ID, .int .i64 t13_Value, .slice t13_Edgesa t13_Edgesl t13_Edgesc] = some H3 ∧
 ∃ (t15a : Option Addr) (t15l : Nat) (t15c : Nat),
 H3.cell H1.next 2 = some (.slice t15a t15l t15c) ∧
 ∃ (Inv_1 : Nat → Int → AH → Prop),
 (
 ∃ (n_3 : Nat),
 Inv_1 n_3 0 H3) ∧
 ∀ (n_2 : Nat),
 ∀ (t17 : Int) (H4 : AH),
 Inv_1 n_2 t17 H4 →
 cond (decide (t17 < (((t15l : Nat) : Int)))) (
 grd t15a.isSome (
 (0 : Int) ≤ t17 ∧
 (t17 : Int) < ((t15l : Nat) : Int) ∧
 ∃ (t20_To : Int) (t20_Weight : Int),
 H4.cell ((adr t15a).block) ((adr t15a).off + (t17 : Int).toNat * 2 + 0) = some (.int .i64 t20_To) ∧
 H4.cell ((adr t15a).block) ((adr t15a).off + (t17 : Int).toNat * 2 + 1) = some (.int .i64 t20_Weight) ∧
 ∀ (H5 : AH),
 H5 = H4.new (.cells [.int .i64 0, .int .i64 0] 0) →
 ∃ (H6 : AH),
 storeCellsv H5 H4.next 0 [.int .i64 t20_To, .int .i64 t20_Weight] = some H6 ∧
 ∃ (t23 : Int),
 H6.cell H1.next 0 = some (.int .i64 t23) ∧
 ∃ (t24_To : Int) (t24_Weight : Int),
 H6.cell H4.next (0 + 0) = some (.int .i64 t24_To) ∧
 H6.cell H4.next (0 + 1) = some (.int .i64 t24_Weight) ∧
 RW Ee yield0l [.int .i64 t23, .agg ⟨[.int .i64 t24_To, .int .i64 t24_Weight]⟩] H6 fun v H7 =>
 ∃ (t25 : Bool),
 v = .bool t25 ∧
 cond (!t25) (
 Q (.tuple ⟨[]⟩) H7) (
 ∀ (t27 : Int),
 t27 = IntKind.i64.wrap (t17 + 1) →
 ∃ (m_1 : Nat),
 m_1 < n_2 ∧
 Inv_1 m_1 t27 H7))) (
 ∀ (t28 : Int),
 t28 = IntKind.i64.wrap (t10 + 1) →
 ∃ (m : Nat),
 m < n ∧
 Inv m t28 H4))) (
 Q (.tuple ⟨[]⟩) H1)
set_option maxRecDepth 100000 in
theorem fw_graph_All_1 {yield0l : Nat} {t1b : Nat} {t1o : Nat} {H : AH} {Q : Value → AH → Prop} (h : VC_graph_All_1 yield0l t1b t1o H Q) : FW Ee F_graph_All_1 [.func (.yield yield0l) ⟨[]⟩ ⟨[]⟩, .pointer (some ⟨t1b, t1o, none⟩)] H Q := by
  have e : VC_graph_All_1 yield0l t1b t1o H Q = wpF Ee ⟨[], []⟩ F_graph_All_1 [.func (.yield yield0l) ⟨[]⟩ ⟨[]⟩, .pointer (some ⟨t1b, t1o, none⟩)] H Q := by kernel_rfl
  letI : Sy := sy0
  exact wpF_sound (Eq.mp e h)
/-- cohort/cohortref03.Find -/
def VC_cohortref03_Find (g0a : Option Addr) (g0l : Nat) (g0c : Nat) (id1 : Int) (H : AH) (Q : Value → AH → Prop) : Prop :=
 ∃ (Inv : Nat → Int → AH → Prop),
 (
 ∃ (n_1 : Nat),
 Inv n_1 0 H) ∧
 ∀ (n : Nat),
 ∀ (at6 : Int) (H1 : AH),
 Inv n at6 H1 →
 cond (decide (at6 < (((g0l : Nat) : Int)))) (
 grd g0a.isSome (
 (0 : Int) ≤ at6 ∧
 (at6 : Int) < ((g0l : Nat) : Int) ∧
 ∃ (t16 : Int),
 H1.cell ((adr g0a).block) ((adr g0a).off + (at6 : Int).toNat * 3) = some (.int .i64 t16) ∧
 cond (decide (t16 < id1)) (
 ∀ (t21 : Int),
 t21 = IntKind.i64.wrap (at6 + 1) →
 ∃ (m : Nat),
 m < n ∧
 Inv m t21 H1) (
 cond (decide (at6 < (((g0l : Nat) : Int)))) (
 grd g0a.isSome (
 (0 : Int) ≤ at6 ∧
 (at6 : Int) < ((g0l : Nat) : Int) ∧
 ∃ (t32 : Int),
 H1.cell ((adr g0a).block) ((adr g0a).off + (at6 : Int).toNat * 3) = some (.int .i64 t32) ∧
 Q (.tuple ⟨[.int .i64 at6, .bool (t32 == id1)]⟩) H1)) (
 Q (.tuple ⟨[.int .i64 at6, .bool false]⟩) H1)))) (
 cond (decide (at6 < (((g0l : Nat) : Int)))) (
 grd g0a.isSome (
 (0 : Int) ≤ at6 ∧
 (at6 : Int) < ((g0l : Nat) : Int) ∧
 ∃ (t32_1 : Int),
 H1.cell ((adr g0a).block) ((adr g0a).off + (at6 : Int).toNat * 3) = some (.int .i64 t32_1) ∧
 Q (.tuple ⟨[.int .i64 at6, .bool (t32_1 == id1)]⟩) H1)) (
 Q (.tuple ⟨[.int .i64 at6, .bool false]⟩) H1))
set_option maxRecDepth 100000 in
theorem fw_cohortref03_Find {g0a : Option Addr} {g0l : Nat} {g0c : Nat} {id1 : Int} {H : AH} {Q : Value → AH → Prop} (h : VC_cohortref03_Find g0a g0l g0c id1 H Q) : FW Ee F_cohortref03_Find [.slice g0a g0l g0c, .int .i64 id1] H Q := by
  have e : VC_cohortref03_Find g0a g0l g0c id1 H Q = wpF Ee ⟨[], []⟩ F_cohortref03_Find [.slice g0a g0l g0c, .int .i64 id1] H Q := by kernel_rfl
  letI : Sy := sy0
  exact wpF_sound (Eq.mp e h)
/-- cohort/cohortref03.Edges -/
def VC_cohortref03_Edges (g0a : Option Addr) (g0l : Nat) (g0c : Nat) (H : AH) (Q : Value → AH → Prop) : Prop :=
 ∃ (Inv : Nat → Int → Int → AH → Prop),
 (
 ∃ (n_1 : Nat),
 Inv n_1 0 0 H) ∧
 ∀ (n : Nat),
 ∀ (n3 : Int) (i4 : Int) (H1 : AH),
 Inv n n3 i4 H1 →
 cond (decide (i4 < (((g0l : Nat) : Int)))) (
 grd g0a.isSome (
 (0 : Int) ≤ i4 ∧
 (i4 : Int) < ((g0l : Nat) : Int) ∧
 ∃ (t16a : Option Addr) (t16l : Nat) (t16c : Nat),
 H1.cell ((adr g0a).block) ((adr g0a).off + (i4 : Int).toNat * 3 + 2) = some (.slice t16a t16l t16c) ∧
 ∀ (t18 : Int),
 t18 = IntKind.i64.wrap (n3 + (((t16l : Nat) : Int))) →
 ∀ (t10 : Int),
 t10 = IntKind.i64.wrap (i4 + 1) →
 ∃ (m : Nat),
 m < n ∧
 Inv m t18 t10 H1)) (
 Q (.int .i64 n3) H1)
set_option maxRecDepth 100000 in
theorem fw_cohortref03_Edges {g0a : Option Addr} {g0l : Nat} {g0c : Nat} {H : AH} {Q : Value → AH → Prop} (h : VC_cohortref03_Edges g0a g0l g0c H Q) : FW Ee F_cohortref03_Edges [.slice g0a g0l g0c] H Q := by
  have e : VC_cohortref03_Edges g0a g0l g0c H Q = wpF Ee ⟨[], []⟩ F_cohortref03_Edges [.slice g0a g0l g0c] H Q := by kernel_rfl
  letI : Sy := sy0
  exact wpF_sound (Eq.mp e h)
/-- cohort/cohortref03.Check -/
def VC_cohortref03_Check (g0a : Option Addr) (g0l : Nat) (g0c : Nat) (H : AH) (Q : Value → AH → Prop) : Prop :=
 cond (decide ((((g0l : Nat) : Int)) > 256)) (
 Q (.int .i64 30) H) (
 ∃ (Inv : Nat → Int → Int → AH → Prop),
 (
 ∃ (n_1 : Nat),
 Inv n_1 0 1 H) ∧
 ∀ (n : Nat),
 ∀ (t2 : Int) (i3 : Int) (H1 : AH),
 Inv n t2 i3 H1 →
 cond (decide (i3 < (((g0l : Nat) : Int)))) (
 ∀ (t20 : Int),
 t20 = IntKind.i64.wrap (i3 - 1) →
 grd g0a.isSome (
 (0 : Int) ≤ t20 ∧
 (t20 : Int) < ((g0l : Nat) : Int) ∧
 ∃ (t23 : Int),
 H1.cell ((adr g0a).block) ((adr g0a).off + (t20 : Int).toNat * 3) = some (.int .i64 t23) ∧
 grd g0a.isSome (
 (0 : Int) ≤ i3 ∧
 (i3 : Int) < ((g0l : Nat) : Int) ∧
 ∃ (t28 : Int),
 H1.cell ((adr g0a).block) ((adr g0a).off + (i3 : Int).toNat * 3) = some (.int .i64 t28) ∧
 cond (decide (t23 ≥ t28)) (
 Q (.int .i64 30) H1) (
 ∀ (t17 : Int),
 t17 = IntKind.i64.wrap (i3 + 1) →
 ∃ (m : Nat),
 m < n ∧
 Inv m t2 t17 H1)))) (
 FW Ee F_cohortref03_Edges [.slice g0a g0l g0c] H1 fun v H2 =>
 ∃ (r31 : Int),
 v = .int .i64 r31 ∧
 cond (decide (r31 > 2048)) (
 Q (.int .i64 31) H2) (
 ∃ (Inv_1 : Nat → Int → Int → AH → Prop),
 (
 ∃ (n_3 : Nat),
 Inv_1 n_3 t2 0 H2) ∧
 ∀ (n_2 : Nat),
 ∀ (t2_1 : Int) (i4 : Int) (H3 : AH),
 Inv_1 n_2 t2_1 i4 H3 →
 cond (decide (i4 < (((g0l : Nat) : Int)))) (
 grd g0a.isSome (
 (0 : Int) ≤ i4 ∧
 (i4 : Int) < ((g0l : Nat) : Int) ∧
 ∃ (t43a : Option Addr) (t43l : Nat) (t43c : Nat),
 H3.cell ((adr g0a).block) ((adr g0a).off + (i4 : Int).toNat * 3 + 2) = some (.slice t43a t43l t43c) ∧
 ∃ (Inv_2 : Nat → Int → Int → AH → Prop),
 (
 ∃ (n_5 : Nat),
 Inv_2 n_5 t2_1 0 H3) ∧
 ∀ (n_4 : Nat),
 ∀ (t2_2 : Int) (k6 : Int) (H4 : AH),
 Inv_2 n_4 t2_2 k6 H4 →
 cond (decide (k6 < (((t43l : Nat) : Int)))) (
 grd t43a.isSome (
 (0 : Int) ≤ k6 ∧
 (k6 : Int) < ((t43l : Nat) : Int) ∧
 ∃ (t56 : Int),
 H4.cell ((adr t43a).block) ((adr t43a).off + (k6 : Int).toNat * 2) = some (.int .i64 t56) ∧
 FW Ee F_cohortref03_Find [.slice g0a g0l g0c, .int .i64 t56] H4 fun v_1 H5 =>
 ∃ (r57_0 : Int) (r57_1 : Bool),
 v_1 = .tuple ⟨[.int .i64 r57_0, .bool r57_1]⟩ ∧
 cond (!r57_1) (
 Q (.int .i64 31) H5) (
 cond (decide (k6 > 0)) (
 ∀ (t68 : Int),
 t68 = IntKind.i64.wrap (k6 - 1) →
 grd t43a.isSome (
 (0 : Int) ≤ t68 ∧
 (t68 : Int) < ((t43l : Nat) : Int) ∧
 ∃ (t71 : Int),
 H5.cell ((adr t43a).block) ((adr t43a).off + (t68 : Int).toNat * 2) = some (.int .i64 t71) ∧
 grd t43a.isSome (
 (0 : Int) ≤ k6 ∧
 (k6 : Int) < ((t43l : Nat) : Int) ∧
 ∃ (t76 : Int),
 H5.cell ((adr t43a).block) ((adr t43a).off + (k6 : Int).toNat * 2) = some (.int .i64 t76) ∧
 cond (decide (t71 ≥ t76)) (
 Q (.int .i64 31) H5) (
 ∀ (t49 : Int),
 t49 = IntKind.i64.wrap (k6 + 1) →
 ∃ (m_2 : Nat),
 m_2 < n_4 ∧
 Inv_2 m_2 t2_2 t49 H5)))) (
 ∀ (t49_1 : Int),
 t49_1 = IntKind.i64.wrap (k6 + 1) →
 ∃ (m_2 : Nat),
 m_2 < n_4 ∧
 Inv_2 m_2 t2_2 t49_1 H5)))) (
 ∀ (t38 : Int),
 t38 = IntKind.i64.wrap (i4 + 1) →
 ∃ (m_1 : Nat),
 m_1 < n_2 ∧
 Inv_1 m_1 t2_2 t38 H4))) (
 Q (.int .i64 0) H3))))
set_option maxRecDepth 100000 in
theorem fw_cohortref03_Check {g0a : Option Addr} {g0l : Nat} {g0c : Nat} {H : AH} {Q : Value → AH → Prop} (h : VC_cohortref03_Check g0a g0l g0c H Q) : FW Ee F_cohortref03_Check [.slice g0a g0l g0c] H Q := by
  have e : VC_cohortref03_Check g0a g0l g0c H Q = wpF Ee ⟨[], []⟩ F_cohortref03_Check [.slice g0a g0l g0c] H Q := by kernel_rfl
  letI : Sy := sy0
  exact wpF_sound (Eq.mp e h)
/-- cohort/cohortlaw03.Ref -/
def VC_cohortlaw03_Ref (g0_Verticesa : Option Addr) (g0_Verticesl : Nat) (g0_Verticesc : Nat) (H : AH) (Q : Value → AH → Prop) : Prop :=
 ∀ (H1 : AH),
 H1 = H.new (.cells [.slice g0_Verticesa g0_Verticesl g0_Verticesc] 0) →
 ∀ (H2 : AH),
 H2 = H1.new (.cells [] 0) →
 ∃ (Inv : Nat → Option Addr → Nat → Nat → Int → AH → Prop),
 (
 ∃ (n_1 : Nat),
 Inv n_1 (some ⟨H1.next, 0, none⟩) 0 0 0 H2) ∧
 ∀ (n : Nat),
 ∀ (out3a : Option Addr) (out3l : Nat) (out3c : Nat) (i4 : Int) (H3 : AH),
 Inv n out3a out3l out3c i4 H3 →
 ∃ (t11a : Option Addr) (t11l : Nat) (t11c : Nat),
 H3.cell H.next 0 = some (.slice t11a t11l t11c) ∧
 cond (decide (i4 < (((t11l : Nat) : Int)))) (
 ∃ (t17a : Option Addr) (t17l : Nat) (t17c : Nat),
 H3.cell H.next 0 = some (.slice t17a t17l t17c) ∧
 grd t17a.isSome (
 (0 : Int) ≤ i4 ∧
 (i4 : Int) < ((t17l : Nat) : Int) ∧
 ∃ (t20_ID : Int) (t20_Value : Int) (t20_Edgesa : Option Addr) (t20_Edgesl : Nat) (t20_Edgesc : Nat),
 H3.cell ((adr t17a).block) ((adr t17a).off + (i4 : Int).toNat * 3 + 0) = some (.int .i64 t20_ID) ∧
 H3.cell ((adr t17a).block) ((adr t17a).off + (i4 : Int).toNat * 3 + 1) = some (.int .i64 t20_Value) ∧
 H3.cell ((adr t17a).block) ((adr t17a).off + (i4 : Int).toNat * 3 + 2) = some (.slice t20_Edgesa t20_Edgesl t20_Edgesc) ∧
 ∀ (H4 : AH),
 H4 = H3.new (.cells [.int .i64 0, .int .i64 0, .slice none 0 0] 0) →
 ∃ (H5 : AH),
 storeCellsv H4 H3.next 0 [.int .i64 t20_ID, .int .i64 t20_Value, .slice t20_Edgesa t20_Edgesl t20_Edgesc] = some H5 ∧
 ∃ (t22 : Int),
 H5.cell H3.next 0 = some (.int .i64 t22) ∧
 ∃ (t24 : Int),
 H5.cell H3.next 1 = some (.int .i64 t24) ∧
 ∀ (H6 : AH),
 H6 = H5.new (.cells [.int .i64 0, .int .i64 0, .slice none 0 0] 0) →
 ∃ (H7 : AH),
 storeCellsv H6 H5.next 0 [.int .i64 t22, .int .i64 t24, .slice none 0 0] = some H7 ∧
 ∃ (Inv_1 : Nat → Int → AH → Prop),
 (
 ∃ (n_3 : Nat),
 Inv_1 n_3 0 H7) ∧
 ∀ (n_2 : Nat),
 ∀ (k7 : Int) (H8 : AH),
 Inv_1 n_2 k7 H8 →
 ∃ (t28a : Option Addr) (t28l : Nat) (t28c : Nat),
 H8.cell H3.next 2 = some (.slice t28a t28l t28c) ∧
 cond (decide (k7 < (((t28l : Nat) : Int)))) (
 ∃ (t34a : Option Addr) (t34l : Nat) (t34c : Nat),
 H8.cell H5.next 2 = some (.slice t34a t34l t34c) ∧
 ∃ (t36a : Option Addr) (t36l : Nat) (t36c : Nat),
 H8.cell H3.next 2 = some (.slice t36a t36l t36c) ∧
 grd t36a.isSome (
 (0 : Int) ≤ k7 ∧
 (k7 : Int) < ((t36l : Nat) : Int) ∧
 ∃ (t40 : Int),
 H8.cell ((adr t36a).block) ((adr t36a).off + (k7 : Int).toNat * 2) = some (.int .i64 t40) ∧
 ∃ (t42a : Option Addr) (t42l : Nat) (t42c : Nat),
 H8.cell H3.next 2 = some (.slice t42a t42l t42c) ∧
 grd t42a.isSome (
 (0 : Int) ≤ k7 ∧
 (k7 : Int) < ((t42l : Nat) : Int) ∧
 ∃ (t46 : Int),
 H8.cell ((adr t42a).block) ((adr t42a).off + (k7 : Int).toNat * 2 + 1) = some (.int .i64 t46) ∧
 ∀ (H9 : AH),
 H9 = H8.new (.cells [.int .i64 t40, .int .i64 t46] 0) →
 ∃ (t49a : Option Addr) (t49l : Nat) (t49c : Nat) (H10 : AH),
 apnd H9 2 16 t34a t34l t34c (.slice (some ⟨H8.next, 0, none⟩) 1 2) = some (.slice t49a t49l t49c, H10) ∧
 ∃ (H11 : AH),
 storeCellsv H10 H5.next 2 [.slice t49a t49l t49c] = some H11 ∧
 H9.cell ((adr t42a).block) ((adr t42a).off + (k7 : Int).toNat * 2 + 1) = some (.int .i64 t46) ∧
 H9.cell H3.next 2 = some (.slice t42a t42l t42c) ∧
 H9.cell ((adr t36a).block) ((adr t36a).off + (k7 : Int).toNat * 2) = some (.int .i64 t40) ∧
 H9.cell H3.next 2 = some (.slice t36a t36l t36c) ∧
 H9.cell H5.next 2 = some (.slice t34a t34l t34c) ∧
 ∀ (t32 : Int),
 t32 = IntKind.i64.wrap (k7 + 1) →
 ∃ (m_1 : Nat),
 m_1 < n_2 ∧
 Inv_1 m_1 t32 H11))) (
 ∃ (t52_ID : Int) (t52_Value : Int) (t52_Edgesa : Option Addr) (t52_Edgesl : Nat) (t52_Edgesc : Nat),
 H8.cell H5.next (0 + 0) = some (.int .i64 t52_ID) ∧
 H8.cell H5.next (0 + 1) = some (.int .i64 t52_Value) ∧
 H8.cell H5.next (0 + 2) = some (.slice t52_Edgesa t52_Edgesl t52_Edgesc) ∧
 ∀ (H12 : AH),
 H12 = H8.new (.cells [.int .i64 t52_ID, .int .i64 t52_Value, .slice t52_Edgesa t52_Edgesl t52_Edgesc] 0) →
 ∃ (t54a : Option Addr) (t54l : Nat) (t54c : Nat) (H13 : AH),
 apnd H12 3 40 out3a out3l out3c (.slice (some ⟨H8.next, 0, none⟩) 1 2) = some (.slice t54a t54l t54c, H13) ∧
 ∀ (t15 : Int),
 t15 = IntKind.i64.wrap (i4 + 1) →
 ∃ (m : Nat),
 m < n ∧
 Inv m t54a t54l t54c t15 H13))) (
 Q (.slice out3a out3l out3c) H3)
set_option maxRecDepth 100000 in
theorem fw_cohortlaw03_Ref {g0_Verticesa : Option Addr} {g0_Verticesl : Nat} {g0_Verticesc : Nat} {H : AH} {Q : Value → AH → Prop} (h : VC_cohortlaw03_Ref g0_Verticesa g0_Verticesl g0_Verticesc H Q) : FW Ee F_cohortlaw03_Ref [.agg ⟨[.slice g0_Verticesa g0_Verticesl g0_Verticesc]⟩] H Q := by
  have e : VC_cohortlaw03_Ref g0_Verticesa g0_Verticesl g0_Verticesc H Q = wpF Ee ⟨[], []⟩ F_cohortlaw03_Ref [.agg ⟨[.slice g0_Verticesa g0_Verticesl g0_Verticesc]⟩] H Q := by kernel_rfl
  letI : Sy := sy0
  exact wpF_sound (Eq.mp e h)
end Go.Proofs.Cx

namespace Go.Proofs.Cx
open Go Go.Ev
set_option linter.unusedVariables false
set_option maxRecDepth 100000
set_option maxHeartbeats 8000000
/-- (*cohort/wire.Writer).Text -/
def VC_wire_Writer_Text (w0b : Nat) (s1 : List UInt8) (H : AH) (Q : Value → AH → Prop) : Prop :=
 ∀ (t7 : Int),
 t7 = IntKind.u64.wrap ((((s1 : List UInt8).length : Nat) : Int)) →
 FW Ee F_wire_Writer_Number [.pointer (some ⟨w0b, 0, none⟩), .int .u64 t7] H fun v H1 =>
 v = .tuple ⟨[]⟩ ∧
 FW Ee F_wire_Writer_Bytes [.pointer (some ⟨w0b, 0, none⟩), .string ⟨⟨s1⟩⟩] H1 fun v_1 H2 =>
 v_1 = .tuple ⟨[]⟩ ∧
 Q (.tuple ⟨[]⟩) H2
set_option maxRecDepth 100000 in
theorem fw_wire_Writer_Text {w0b : Nat} {s1 : List UInt8} {H : AH} {Q : Value → AH → Prop} (h : VC_wire_Writer_Text w0b s1 H Q) : FW Ee F_wire_Writer_Text [.pointer (some ⟨w0b, 0, none⟩), .string ⟨⟨s1⟩⟩] H Q := by
  have e : VC_wire_Writer_Text w0b s1 H Q = wpF Ee ⟨[], []⟩ F_wire_Writer_Text [.pointer (some ⟨w0b, 0, none⟩), .string ⟨⟨s1⟩⟩] H Q := by kernel_rfl
  letI : Sy := sy0
  exact wpF_sound (Eq.mp e h)
/-- (*cohort/wire.Reader).Bytes -/
def VC_wire_Reader_Bytes (r0b : Nat) (n1 : Int) (H : AH) (Q : Value → AH → Prop) : Prop :=
 FW Ee F_wire_Reader_Err [.pointer (some ⟨r0b, 0, none⟩)] H fun v H1 =>
 ∃ (r7 : Int),
 v = .int .i64 r7 ∧
 cond (r7 != 0) (
 Q (.string ⟨⟨[]⟩⟩) H1) (
 cond (decide (n1 < 0)) (
 ∃ (H2 : AH),
 storeCellsv H1 r0b 2 [.int .i64 1] = some H2 ∧
 Q (.string ⟨⟨[]⟩⟩) H2) (
 ∃ (t19 : List UInt8),
 H1.cell r0b 0 = some (.string ⟨⟨t19⟩⟩) ∧
 ∃ (t24 : Int),
 H1.cell r0b 1 = some (.int .i64 t24) ∧
 ∀ (t25 : Int),
 t25 = IntKind.i64.wrap (((((t19 : List UInt8).length : Nat) : Int)) - t24) →
 cond (decide (t25 < n1)) (
 ∃ (H3 : AH),
 storeCellsv H1 r0b 2 [.int .i64 4] = some H3 ∧
 Q (.string ⟨⟨[]⟩⟩) H3) (
 ∃ (t34 : Int),
 H1.cell r0b 1 = some (.int .i64 t34) ∧
 ∀ (t36 : Int),
 t36 = IntKind.i64.wrap (t34 + n1) →
 ∃ (H4 : AH),
 storeCellsv H1 r0b 1 [.int .i64 t36] = some H4 ∧
 ∃ (t42 : List UInt8),
 H4.cell r0b 0 = some (.string ⟨⟨t42⟩⟩) ∧
 ∃ (t46 : Int),
 H4.cell r0b 1 = some (.int .i64 t46) ∧
 ∀ (t48 : Int),
 t48 = IntKind.i64.wrap (t46 - n1) →
 ∃ (t52 : Int),
 H4.cell r0b 1 = some (.int .i64 t52) ∧
 ∃ (t53 : List UInt8),
 strv t42 (some (.int .i64 t48)) (some (.int .i64 t52)) = some (.string ⟨⟨t53⟩⟩) ∧
 Q (.string ⟨⟨t53⟩⟩) H4)))
set_option maxRecDepth 100000 in
theorem fw_wire_Reader_Bytes {r0b : Nat} {n1 : Int} {H : AH} {Q : Value → AH → Prop} (h : VC_wire_Reader_Bytes r0b n1 H Q) : FW Ee F_wire_Reader_Bytes [.pointer (some ⟨r0b, 0, none⟩), .int .i64 n1] H Q := by
  have e : VC_wire_Reader_Bytes r0b n1 H Q = wpF Ee ⟨[], []⟩ F_wire_Reader_Bytes [.pointer (some ⟨r0b, 0, none⟩), .int .i64 n1] H Q := by kernel_rfl
  letI : Sy := sy0
  exact wpF_sound (Eq.mp e h)
/-- (*cohort/wire.Reader).Text -/
def VC_wire_Reader_Text (r0b : Nat) (H : AH) (Q : Value → AH → Prop) : Prop :=
 FW Ee F_wire_Reader_At [.pointer (some ⟨r0b, 0, none⟩)] H fun v H1 =>
 ∃ (r6 : Int),
 v = .int .i64 r6 ∧
 FW Ee F_wire_Reader_Number [.pointer (some ⟨r0b, 0, none⟩)] H1 fun v_1 H2 =>
 ∃ (r8 : Int),
 v_1 = .int .u64 r8 ∧
 FW Ee F_wire_Reader_Err [.pointer (some ⟨r0b, 0, none⟩)] H2 fun v_2 H3 =>
 ∃ (r10 : Int),
 v_2 = .int .i64 r10 ∧
 cond (r10 != 0) (
 Q (.string ⟨⟨[]⟩⟩) H3) (
 FW Ee F_wire_Reader_Left [.pointer (some ⟨r0b, 0, none⟩)] H3 fun v_3 H4 =>
 ∃ (r14 : Int),
 v_3 = .int .i64 r14 ∧
 ∀ (t15 : Int),
 t15 = IntKind.u64.wrap (r14) →
 cond (decide (r8 > t15)) (
 ∃ (H5 : AH),
 storeCellsv H4 r0b 1 [.int .i64 r6] = some H5 ∧
 ∃ (H6 : AH),
 storeCellsv H5 r0b 2 [.int .i64 4] = some H6 ∧
 Q (.string ⟨⟨[]⟩⟩) H6) (
 ∀ (t26 : Int),
 t26 = IntKind.i64.wrap (r8) →
 FW Ee F_wire_Reader_Bytes [.pointer (some ⟨r0b, 0, none⟩), .int .i64 t26] H4 fun v_4 H7 =>
 ∃ (r27 : List UInt8),
 v_4 = .string ⟨⟨r27⟩⟩ ∧
 Q (.string ⟨⟨r27⟩⟩) H7))
set_option maxRecDepth 100000 in
theorem fw_wire_Reader_Text {r0b : Nat} {H : AH} {Q : Value → AH → Prop} (h : VC_wire_Reader_Text r0b H Q) : FW Ee F_wire_Reader_Text [.pointer (some ⟨r0b, 0, none⟩)] H Q := by
  have e : VC_wire_Reader_Text r0b H Q = wpF Ee ⟨[], []⟩ F_wire_Reader_Text [.pointer (some ⟨r0b, 0, none⟩)] H Q := by kernel_rfl
  letI : Sy := sy0
  exact wpF_sound (Eq.mp e h)
/-- cohort/run.Encode -/
def VC_run_Encode (o0_Kind : Int) (o0_Err : Int) (o0_Steps : Int) (o0_Valuesa : Option Addr) (o0_Valuesl : Nat) (o0_Valuesc : Nat) (H : AH) (Q : Value → AH → Prop) : Prop :=
 ∀ (H1 : AH),
 H1 = H.new (.cells [.int .i64 o0_Kind, .int .i64 o0_Err, .int .i64 o0_Steps, .slice o0_Valuesa o0_Valuesl o0_Valuesc] 0) →
 FW Ee F_wire_NewWriter [] H1 fun v H2 =>
 ∃ (r6 : Option Addr),
 v = .pointer r6 ∧
 ∃ (t9 : Int),
 H2.cell H.next 0 = some (.int .i64 t9) ∧
 FW Ee F_wire_Writer_Count [.pointer r6, .int .i64 t9] H2 fun v_1 H3 =>
 v_1 = .tuple ⟨[]⟩ ∧
 ∃ (t13 : Int),
 H3.cell H.next 1 = some (.int .i64 t13) ∧
 FW Ee F_wire_Writer_Count [.pointer r6, .int .i64 t13] H3 fun v_2 H4 =>
 v_2 = .tuple ⟨[]⟩ ∧
 ∃ (t17 : Int),
 H4.cell H.next 2 = some (.int .i64 t17) ∧
 FW Ee F_wire_Writer_Count [.pointer r6, .int .i64 t17] H4 fun v_3 H5 =>
 v_3 = .tuple ⟨[]⟩ ∧
 ∃ (t21a : Option Addr) (t21l : Nat) (t21c : Nat),
 H5.cell H.next 3 = some (.slice t21a t21l t21c) ∧
 FW Ee F_wire_Writer_Count [.pointer r6, .int .i64 (((t21l : Nat) : Int))] H5 fun v_4 H6 =>
 v_4 = .tuple ⟨[]⟩ ∧
 ∃ (t25a : Option Addr) (t25l : Nat) (t25c : Nat),
 H6.cell H.next 3 = some (.slice t25a t25l t25c) ∧
 ∃ (Inv : Nat → Int → AH → Prop),
 (
 ∃ (n_1 : Nat),
 Inv n_1 0 H6) ∧
 ∀ (n : Nat),
 ∀ (t27 : Int) (H7 : AH),
 Inv n t27 H7 →
 cond (decide (t27 < (((t25l : Nat) : Int)))) (
 grd t25a.isSome (
 (0 : Int) ≤ t27 ∧
 (t27 : Int) < ((t25l : Nat) : Int) ∧
 ∃ (t30_ID : Int) (t30_V : Int),
 H7.cell ((adr t25a).block) ((adr t25a).off + (t27 : Int).toNat * 2 + 0) = some (.int .i64 t30_ID) ∧
 H7.cell ((adr t25a).block) ((adr t25a).off + (t27 : Int).toNat * 2 + 1) = some (.int .i64 t30_V) ∧
 ∀ (H8 : AH),
 H8 = H7.new (.cells [.int .i64 0, .int .i64 0] 0) →
 ∃ (H9 : AH),
 storeCellsv H8 H7.next 0 [.int .i64 t30_ID, .int .i64 t30_V] = some H9 ∧
 ∃ (t33 : Int),
 H9.cell H7.next 0 = some (.int .i64 t33) ∧
 FW Ee F_wire_Writer_Signed [.pointer r6, .int .i64 t33] H9 fun v_5 H10 =>
 v_5 = .tuple ⟨[]⟩ ∧
 ∃ (t37 : Int),
 H10.cell H7.next 1 = some (.int .i64 t37) ∧
 FW Ee F_wire_Writer_Signed [.pointer r6, .int .i64 t37] H10 fun v_6 H11 =>
 v_6 = .tuple ⟨[]⟩ ∧
 ∀ (t39 : Int),
 t39 = IntKind.i64.wrap (t27 + 1) →
 ∃ (m : Nat),
 m < n ∧
 Inv m t39 H11)) (
 FW Ee F_wire_Writer_All [.pointer r6] H7 fun v_7 H12 =>
 ∃ (r41 : List UInt8),
 v_7 = .string ⟨⟨r41⟩⟩ ∧
 Q (.string ⟨⟨r41⟩⟩) H12)
set_option maxRecDepth 100000 in
theorem fw_run_Encode {o0_Kind : Int} {o0_Err : Int} {o0_Steps : Int} {o0_Valuesa : Option Addr} {o0_Valuesl : Nat} {o0_Valuesc : Nat} {H : AH} {Q : Value → AH → Prop} (h : VC_run_Encode o0_Kind o0_Err o0_Steps o0_Valuesa o0_Valuesl o0_Valuesc H Q) : FW Ee F_run_Encode [.agg ⟨[.int .i64 o0_Kind, .int .i64 o0_Err, .int .i64 o0_Steps, .slice o0_Valuesa o0_Valuesl o0_Valuesc]⟩] H Q := by
  have e : VC_run_Encode o0_Kind o0_Err o0_Steps o0_Valuesa o0_Valuesl o0_Valuesc H Q = wpF Ee ⟨[], []⟩ F_run_Encode [.agg ⟨[.int .i64 o0_Kind, .int .i64 o0_Err, .int .i64 o0_Steps, .slice o0_Valuesa o0_Valuesl o0_Valuesc]⟩] H Q := by kernel_rfl
  letI : Sy := sy0
  exact wpF_sound (Eq.mp e h)
end Go.Proofs.Cx

namespace Go.Proofs.Cx
open Go Go.Ev
set_option linter.unusedVariables false
set_option maxRecDepth 100000
set_option maxHeartbeats 8000000
/-- cohort/graph.edges -/
def VC_graph_edges (g0_Verticesa : Option Addr) (g0_Verticesl : Nat) (g0_Verticesc : Nat) (v1_ID : Int) (v1_Value : Int) (v1_Edgesa : Option Addr) (v1_Edgesl : Nat) (v1_Edgesc : Nat) (H : AH) (Q : Value → AH → Prop) : Prop :=
 ∀ (H1 : AH),
 H1 = H.new (.cells [.slice g0_Verticesa g0_Verticesl g0_Verticesc] 0) →
 ∀ (H2 : AH),
 H2 = H1.new (.cells [.int .i64 v1_ID, .int .i64 v1_Value, .slice v1_Edgesa v1_Edgesl v1_Edgesc] 0) →
 ∃ (t10a : Option Addr) (t10l : Nat) (t10c : Nat),
 H2.cell H1.next 2 = some (.slice t10a t10l t10c) ∧
 ∃ (Inv : Nat → Bool → Int → AH → Prop),
 (
 ∃ (n_1 : Nat),
 Inv n_1 false 0 H2) ∧
 ∀ (n : Nat),
 ∀ (t4 : Bool) (t12 : Int) (H3 : AH),
 Inv n t4 t12 H3 →
 cond (decide (t12 < (((t10l : Nat) : Int)))) (
 grd t10a.isSome (
 (0 : Int) ≤ t12 ∧
 (t12 : Int) < ((t10l : Nat) : Int) ∧
 ∃ (t16_To : Int) (t16_Weight : Int),
 H3.cell ((adr t10a).block) ((adr t10a).off + (t12 : Int).toNat * 2 + 0) = some (.int .i64 t16_To) ∧
 H3.cell ((adr t10a).block) ((adr t10a).off + (t12 : Int).toNat * 2 + 1) = some (.int .i64 t16_Weight) ∧
 ∀ (H4 : AH),
 H4 = H3.new (.cells [.int .i64 0, .int .i64 0] 0) →
 ∃ (H5 : AH),
 storeCellsv H4 H3.next 0 [.int .i64 t16_To, .int .i64 t16_Weight] = some H5 ∧
 ∃ (t18_Verticesa : Option Addr) (t18_Verticesl : Nat) (t18_Verticesc : Nat),
 H5.cell H.next (0 + 0) = some (.slice t18_Verticesa t18_Verticesl t18_Verticesc) ∧
 ∃ (t20 : Int),
 H5.cell H3.next 0 = some (.int .i64 t20) ∧
 FW Ee F_graph_Find [.agg ⟨[.slice t18_Verticesa t18_Verticesl t18_Verticesc]⟩, .int .i64 t20] H5 fun v H6 =>
 ∃ (r21_0 : Int) (r21_1 : Bool),
 v = .tuple ⟨[.int .i64 r21_0, .bool r21_1]⟩ ∧
 cond (!r21_1) (
 Q (.bool false) H6) (
 cond (decide (t12 > 0)) (
 ∃ (t31a : Option Addr) (t31l : Nat) (t31c : Nat),
 H6.cell H1.next 2 = some (.slice t31a t31l t31c) ∧
 ∀ (t33 : Int),
 t33 = IntKind.i64.wrap (t12 - 1) →
 grd t31a.isSome (
 (0 : Int) ≤ t33 ∧
 (t33 : Int) < ((t31l : Nat) : Int) ∧
 ∃ (t36 : Int),
 H6.cell ((adr t31a).block) ((adr t31a).off + (t33 : Int).toNat * 2) = some (.int .i64 t36) ∧
 ∃ (t38 : Int),
 H6.cell H3.next 0 = some (.int .i64 t38) ∧
 cond (decide (t36 ≥ t38)) (
 Q (.bool false) H6) (
 ∀ (t42 : Int),
 t42 = IntKind.i64.wrap (t12 + 1) →
 ∃ (m : Nat),
 m < n ∧
 Inv m t4 t42 H6))) (
 ∀ (t42_1 : Int),
 t42_1 = IntKind.i64.wrap (t12 + 1) →
 ∃ (m : Nat),
 m < n ∧
 Inv m t4 t42_1 H6)))) (
 Q (.bool true) H3)
set_option maxRecDepth 100000 in
theorem fw_graph_edges {g0_Verticesa : Option Addr} {g0_Verticesl : Nat} {g0_Verticesc : Nat} {v1_ID : Int} {v1_Value : Int} {v1_Edgesa : Option Addr} {v1_Edgesl : Nat} {v1_Edgesc : Nat} {H : AH} {Q : Value → AH → Prop} (h : VC_graph_edges g0_Verticesa g0_Verticesl g0_Verticesc v1_ID v1_Value v1_Edgesa v1_Edgesl v1_Edgesc H Q) : FW Ee F_graph_edges [.agg ⟨[.slice g0_Verticesa g0_Verticesl g0_Verticesc]⟩, .agg ⟨[.int .i64 v1_ID, .int .i64 v1_Value, .slice v1_Edgesa v1_Edgesl v1_Edgesc]⟩] H Q := by
  have e : VC_graph_edges g0_Verticesa g0_Verticesl g0_Verticesc v1_ID v1_Value v1_Edgesa v1_Edgesl v1_Edgesc H Q = wpF Ee ⟨[], []⟩ F_graph_edges [.agg ⟨[.slice g0_Verticesa g0_Verticesl g0_Verticesc]⟩, .agg ⟨[.int .i64 v1_ID, .int .i64 v1_Value, .slice v1_Edgesa v1_Edgesl v1_Edgesc]⟩] H Q := by kernel_rfl
  letI : Sy := sy0
  exact wpF_sound (Eq.mp e h)
/-- cohort/graph.Edges -/
def VC_graph_Edges (g0_Verticesa : Option Addr) (g0_Verticesl : Nat) (g0_Verticesc : Nat) (H : AH) (Q : Value → AH → Prop) : Prop :=
 ∀ (H1 : AH),
 H1 = H.new (.cells [.slice g0_Verticesa g0_Verticesl g0_Verticesc] 0) →
 ∀ (H2 : AH),
 H2 = H1.new (.cells [.int .i64 0] 0) →
 ∃ (H3 : AH),
 storeCellsv H2 H1.next 0 [.int .i64 0] = some H3 ∧
 ∃ (t4_Verticesa : Option Addr) (t4_Verticesl : Nat) (t4_Verticesc : Nat),
 H3.cell H.next (0 + 0) = some (.slice t4_Verticesa t4_Verticesl t4_Verticesc) ∧
 FW Ee F_graph_All [.agg ⟨[.slice t4_Verticesa t4_Verticesl t4_Verticesc]⟩] H3 fun v H4 =>
 ∃ (b5 : Nat),
 v = .func (.func F_graph_All_1) ⟨[]⟩ ⟨[.pointer (some ⟨b5, 0, none⟩)]⟩ ∧
 ∀ (L : ALoop),
 RdL 11 Ee.g [(3, .pointer (some ⟨H1.next, 0, none⟩))] (rfOf Ee F_graph_Edges 0) L →
 L.st = .ready →
 L.pend = none →
 FW Ee F_graph_All_1 [.func (.yield H4.next) ⟨[]⟩ ⟨[]⟩, .pointer (some ⟨b5, 0, none⟩)] (H4.new (.loop L)) fun _ H5 =>
 ∃ (L_1 : ALoop),
 H5.get H4.next = some (.loop L_1) ∧
 L_1.st ≠ .busy ∧
 match L_1.pend with
 | none =>
 ∃ (t10_1 : Int),
 (H5.set H4.next (.loop { L_1 with st := .exhausted })).cell H1.next 0 = some (.int .i64 t10_1) ∧
 Q (.int .i64 t10_1) ((H5.set H4.next (.loop { L_1 with st := .exhausted })))
 | some (.exit i) =>
 cond (Nat.beq i 0) (
 ∃ (t10 : Int),
 (H5.set H4.next (.loop { L_1 with st := .exhausted })).cell H1.next 0 = some (.int .i64 t10) ∧
 Q (.int .i64 t10) ((H5.set H4.next (.loop { L_1 with st := .exhausted })))) (
 False)
 | some .ret =>
 Q (.int .i64 0) ((H5.set H4.next (.loop { L_1 with st := .exhausted })))
 | _ =>
 False
set_option maxRecDepth 100000 in
theorem fw_graph_Edges {g0_Verticesa : Option Addr} {g0_Verticesl : Nat} {g0_Verticesc : Nat} {H : AH} {Q : Value → AH → Prop} (h : VC_graph_Edges g0_Verticesa g0_Verticesl g0_Verticesc H Q) : FW Ee F_graph_Edges [.agg ⟨[.slice g0_Verticesa g0_Verticesl g0_Verticesc]⟩] H Q := by
  have e : VC_graph_Edges g0_Verticesa g0_Verticesl g0_Verticesc H Q = wpF Ee ⟨[], []⟩ F_graph_Edges [.agg ⟨[.slice g0_Verticesa g0_Verticesl g0_Verticesc]⟩] H Q := by kernel_rfl
  letI : Sy := sy0
  exact wpF_sound (Eq.mp e h)
/-- cohort/graph.Edges: a round -/
def VC_graph_Edges_r0 (n3b : Nat) (n3o : Nat) (p6 : Int) (p7_To : Int) (p7_Weight : Int) (l : Nat) (H : AH) (Q : Value → AH → Prop) : Prop :=
 ∃ (L : ALoop),
 H.get l = some (.loop L) ∧
 L.st = .ready ∧
 L.body = (rfOf Ee F_graph_Edges 0).2.2 ∧
 ∃ (t8 : Int),
 (H.set l (.loop { L with st := .busy })).cell n3b n3o = some (.int .i64 t8) ∧
 ∀ (t9 : Int),
 t9 = IntKind.i64.wrap (t8 + 1) →
 ∃ (H1 : AH),
 storeCellsv ((H.set l (.loop { L with st := .busy }))) n3b n3o [.int .i64 t9] = some H1 ∧
 ∃ (L_1 : ALoop),
 H1.get l = some (.loop L_1) ∧
 Q (.bool true) (H1.set l (.loop { L_1 with st := .ready, pend := none }))
set_option maxRecDepth 100000 in
theorem rw_graph_Edges_r0 {n3b : Nat} {n3o : Nat} {p6 : Int} {p7_To : Int} {p7_Weight : Int} {l : Nat} {H : AH} {Q : Value → AH → Prop} {L : ALoop} (hl : H.get l = some (.loop L)) (hR : RdL 11 Ee.g [(3, .pointer (some ⟨n3b, n3o, none⟩))] (rfOf Ee F_graph_Edges 0) L) (h : VC_graph_Edges_r0 n3b n3o p6 p7_To p7_Weight l H Q) : RW Ee l [.int .i64 p6, .agg ⟨[.int .i64 p7_To, .int .i64 p7_Weight]⟩] H Q := by
  have e : VC_graph_Edges_r0 n3b n3o p6 p7_To p7_Weight l H Q = wpRound Ee ⟨[], []⟩ (frm 11 Ee.g [(3, .pointer (some ⟨n3b, n3o, none⟩))]) (rfOf Ee F_graph_Edges 0).1 (rfOf Ee F_graph_Edges 0).2.1 (rfOf Ee F_graph_Edges 0).2.2 l [.int .i64 p6, .agg ⟨[.int .i64 p7_To, .int .i64 p7_Weight]⟩] H Q := by kernel_rfl
  letI : Sy := sy0
  exact wpRoundR_sound hl hR (Eq.mp e h)
/-- cohort/graph.Check -/
def VC_graph_Check (g0_Verticesa : Option Addr) (g0_Verticesl : Nat) (g0_Verticesc : Nat) (H : AH) (Q : Value → AH → Prop) : Prop :=
 ∀ (H1 : AH),
 H1 = H.new (.cells [.slice g0_Verticesa g0_Verticesl g0_Verticesc] 0) →
 ∃ (t8a : Option Addr) (t8l : Nat) (t8c : Nat),
 H1.cell H.next 0 = some (.slice t8a t8l t8c) ∧
 cond (decide ((((t8l : Nat) : Int)) > 256)) (
 Q (.int .i64 30) H1) (
 ∃ (t12a : Option Addr) (t12l : Nat) (t12c : Nat),
 H1.cell H.next 0 = some (.slice t12a t12l t12c) ∧
 ∃ (Inv : Nat → Int → Int → AH → Prop),
 (
 ∃ (n_1 : Nat),
 Inv n_1 0 0 H1) ∧
 ∀ (n : Nat),
 ∀ (t2 : Int) (t14 : Int) (H2 : AH),
 Inv n t2 t14 H2 →
 cond (decide (t14 < (((t12l : Nat) : Int)))) (
 grd t12a.isSome (
 (0 : Int) ≤ t14 ∧
 (t14 : Int) < ((t12l : Nat) : Int) ∧
 ∃ (t18_ID : Int) (t18_Value : Int) (t18_Edgesa : Option Addr) (t18_Edgesl : Nat) (t18_Edgesc : Nat),
 H2.cell ((adr t12a).block) ((adr t12a).off + (t14 : Int).toNat * 3 + 0) = some (.int .i64 t18_ID) ∧
 H2.cell ((adr t12a).block) ((adr t12a).off + (t14 : Int).toNat * 3 + 1) = some (.int .i64 t18_Value) ∧
 H2.cell ((adr t12a).block) ((adr t12a).off + (t14 : Int).toNat * 3 + 2) = some (.slice t18_Edgesa t18_Edgesl t18_Edgesc) ∧
 ∀ (H3 : AH),
 H3 = H2.new (.cells [.int .i64 0, .int .i64 0, .slice none 0 0] 0) →
 ∃ (H4 : AH),
 storeCellsv H3 H2.next 0 [.int .i64 t18_ID, .int .i64 t18_Value, .slice t18_Edgesa t18_Edgesl t18_Edgesc] = some H4 ∧
 cond (decide (t14 > 0)) (
 ∃ (t23a : Option Addr) (t23l : Nat) (t23c : Nat),
 H4.cell H.next 0 = some (.slice t23a t23l t23c) ∧
 ∀ (t25 : Int),
 t25 = IntKind.i64.wrap (t14 - 1) →
 grd t23a.isSome (
 (0 : Int) ≤ t25 ∧
 (t25 : Int) < ((t23l : Nat) : Int) ∧
 ∃ (t28 : Int),
 H4.cell ((adr t23a).block) ((adr t23a).off + (t25 : Int).toNat * 3) = some (.int .i64 t28) ∧
 ∃ (t30 : Int),
 H4.cell H2.next 0 = some (.int .i64 t30) ∧
 cond (decide (t28 ≥ t30)) (
 Q (.int .i64 30) H4) (
 ∀ (t33 : Int),
 t33 = IntKind.i64.wrap (t14 + 1) →
 ∃ (m : Nat),
 m < n ∧
 Inv m t2 t33 H4))) (
 ∀ (t33_1 : Int),
 t33_1 = IntKind.i64.wrap (t14 + 1) →
 ∃ (m : Nat),
 m < n ∧
 Inv m t2 t33_1 H4))) (
 ∃ (t34_Verticesa : Option Addr) (t34_Verticesl : Nat) (t34_Verticesc : Nat),
 H2.cell H.next (0 + 0) = some (.slice t34_Verticesa t34_Verticesl t34_Verticesc) ∧
 FW Ee F_graph_Edges [.agg ⟨[.slice t34_Verticesa t34_Verticesl t34_Verticesc]⟩] H2 fun v H5 =>
 ∃ (r35 : Int),
 v = .int .i64 r35 ∧
 cond (decide (r35 > 2048)) (
 Q (.int .i64 31) H5) (
 ∃ (t38a : Option Addr) (t38l : Nat) (t38c : Nat),
 H5.cell H.next 0 = some (.slice t38a t38l t38c) ∧
 ∃ (Inv_1 : Nat → Int → Int → AH → Prop),
 (
 ∃ (n_3 : Nat),
 Inv_1 n_3 t2 0 H5) ∧
 ∀ (n_2 : Nat),
 ∀ (t2_1 : Int) (t40 : Int) (H6 : AH),
 Inv_1 n_2 t2_1 t40 H6 →
 cond (decide (t40 < (((t38l : Nat) : Int)))) (
 grd t38a.isSome (
 (0 : Int) ≤ t40 ∧
 (t40 : Int) < ((t38l : Nat) : Int) ∧
 ∃ (t43_ID : Int) (t43_Value : Int) (t43_Edgesa : Option Addr) (t43_Edgesl : Nat) (t43_Edgesc : Nat),
 H6.cell ((adr t38a).block) ((adr t38a).off + (t40 : Int).toNat * 3 + 0) = some (.int .i64 t43_ID) ∧
 H6.cell ((adr t38a).block) ((adr t38a).off + (t40 : Int).toNat * 3 + 1) = some (.int .i64 t43_Value) ∧
 H6.cell ((adr t38a).block) ((adr t38a).off + (t40 : Int).toNat * 3 + 2) = some (.slice t43_Edgesa t43_Edgesl t43_Edgesc) ∧
 ∀ (H7 : AH),
 H7 = H6.new (.cells [.int .i64 0, .int .i64 0, .slice none 0 0] 0) →
 ∃ (H8 : AH),
 storeCellsv H7 H6.next 0 [.int .i64 t43_ID, .int .i64 t43_Value, .slice t43_Edgesa t43_Edgesl t43_Edgesc] = some H8 ∧
 ∃ (t44_Verticesa : Option Addr) (t44_Verticesl : Nat) (t44_Verticesc : Nat),
 H8.cell H.next (0 + 0) = some (.slice t44_Verticesa t44_Verticesl t44_Verticesc) ∧
 ∃ (t45_ID : Int) (t45_Value : Int) (t45_Edgesa : Option Addr) (t45_Edgesl : Nat) (t45_Edgesc : Nat),
 H8.cell H6.next (0 + 0) = some (.int .i64 t45_ID) ∧
 H8.cell H6.next (0 + 1) = some (.int .i64 t45_Value) ∧
 H8.cell H6.next (0 + 2) = some (.slice t45_Edgesa t45_Edgesl t45_Edgesc) ∧
 FW Ee F_graph_edges [.agg ⟨[.slice t44_Verticesa t44_Verticesl t44_Verticesc]⟩, .agg ⟨[.int .i64 t45_ID, .int .i64 t45_Value, .slice t45_Edgesa t45_Edgesl t45_Edgesc]⟩] H8 fun v_1 H9 =>
 ∃ (r46 : Bool),
 v_1 = .bool r46 ∧
 cond (!r46) (
 Q (.int .i64 31) H9) (
 ∀ (t48 : Int),
 t48 = IntKind.i64.wrap (t40 + 1) →
 ∃ (m_1 : Nat),
 m_1 < n_2 ∧
 Inv_1 m_1 t2_1 t48 H9))) (
 Q (.int .i64 0) H6))))
set_option maxRecDepth 100000 in
theorem fw_graph_Check {g0_Verticesa : Option Addr} {g0_Verticesl : Nat} {g0_Verticesc : Nat} {H : AH} {Q : Value → AH → Prop} (h : VC_graph_Check g0_Verticesa g0_Verticesl g0_Verticesc H Q) : FW Ee F_graph_Check [.agg ⟨[.slice g0_Verticesa g0_Verticesl g0_Verticesc]⟩] H Q := by
  have e : VC_graph_Check g0_Verticesa g0_Verticesl g0_Verticesc H Q = wpF Ee ⟨[], []⟩ F_graph_Check [.agg ⟨[.slice g0_Verticesa g0_Verticesl g0_Verticesc]⟩] H Q := by kernel_rfl
  letI : Sy := sy0
  exact wpF_sound (Eq.mp e h)
/-- cohort/graph.PutVertex -/
def VC_graph_PutVertex (w0b : Nat) (v1_ID : Int) (v1_Value : Int) (v1_Edgesa : Option Addr) (v1_Edgesl : Nat) (v1_Edgesc : Nat) (H : AH) (Q : Value → AH → Prop) : Prop :=
 ∀ (H1 : AH),
 H1 = H.new (.cells [.int .i64 v1_ID, .int .i64 v1_Value, .slice v1_Edgesa v1_Edgesl v1_Edgesc] 0) →
 ∃ (t8 : Int),
 H1.cell H.next 0 = some (.int .i64 t8) ∧
 FW Ee F_wire_Writer_Signed [.pointer (some ⟨w0b, 0, none⟩), .int .i64 t8] H1 fun v H2 =>
 v = .tuple ⟨[]⟩ ∧
 ∃ (t12 : Int),
 H2.cell H.next 1 = some (.int .i64 t12) ∧
 FW Ee F_wire_Writer_Signed [.pointer (some ⟨w0b, 0, none⟩), .int .i64 t12] H2 fun v_1 H3 =>
 v_1 = .tuple ⟨[]⟩ ∧
 ∃ (t16a : Option Addr) (t16l : Nat) (t16c : Nat),
 H3.cell H.next 2 = some (.slice t16a t16l t16c) ∧
 FW Ee F_wire_Writer_Count [.pointer (some ⟨w0b, 0, none⟩), .int .i64 (((t16l : Nat) : Int))] H3 fun v_2 H4 =>
 v_2 = .tuple ⟨[]⟩ ∧
 ∃ (t20a : Option Addr) (t20l : Nat) (t20c : Nat),
 H4.cell H.next 2 = some (.slice t20a t20l t20c) ∧
 ∃ (Inv : Nat → Int → AH → Prop),
 (
 ∃ (n_1 : Nat),
 Inv n_1 0 H4) ∧
 ∀ (n : Nat),
 ∀ (t22 : Int) (H5 : AH),
 Inv n t22 H5 →
 cond (decide (t22 < (((t20l : Nat) : Int)))) (
 grd t20a.isSome (
 (0 : Int) ≤ t22 ∧
 (t22 : Int) < ((t20l : Nat) : Int) ∧
 ∃ (t25_To : Int) (t25_Weight : Int),
 H5.cell ((adr t20a).block) ((adr t20a).off + (t22 : Int).toNat * 2 + 0) = some (.int .i64 t25_To) ∧
 H5.cell ((adr t20a).block) ((adr t20a).off + (t22 : Int).toNat * 2 + 1) = some (.int .i64 t25_Weight) ∧
 ∀ (H6 : AH),
 H6 = H5.new (.cells [.int .i64 0, .int .i64 0] 0) →
 ∃ (H7 : AH),
 storeCellsv H6 H5.next 0 [.int .i64 t25_To, .int .i64 t25_Weight] = some H7 ∧
 ∃ (t28 : Int),
 H7.cell H5.next 0 = some (.int .i64 t28) ∧
 FW Ee F_wire_Writer_Signed [.pointer (some ⟨w0b, 0, none⟩), .int .i64 t28] H7 fun v_3 H8 =>
 v_3 = .tuple ⟨[]⟩ ∧
 ∃ (t32 : Int),
 H8.cell H5.next 1 = some (.int .i64 t32) ∧
 FW Ee F_wire_Writer_Signed [.pointer (some ⟨w0b, 0, none⟩), .int .i64 t32] H8 fun v_4 H9 =>
 v_4 = .tuple ⟨[]⟩ ∧
 ∀ (t34 : Int),
 t34 = IntKind.i64.wrap (t22 + 1) →
 ∃ (m : Nat),
 m < n ∧
 Inv m t34 H9)) (
 Q (.tuple ⟨[]⟩) H5)
set_option maxRecDepth 100000 in
theorem fw_graph_PutVertex {w0b : Nat} {v1_ID : Int} {v1_Value : Int} {v1_Edgesa : Option Addr} {v1_Edgesl : Nat} {v1_Edgesc : Nat} {H : AH} {Q : Value → AH → Prop} (h : VC_graph_PutVertex w0b v1_ID v1_Value v1_Edgesa v1_Edgesl v1_Edgesc H Q) : FW Ee F_graph_PutVertex [.pointer (some ⟨w0b, 0, none⟩), .agg ⟨[.int .i64 v1_ID, .int .i64 v1_Value, .slice v1_Edgesa v1_Edgesl v1_Edgesc]⟩] H Q := by
  have e : VC_graph_PutVertex w0b v1_ID v1_Value v1_Edgesa v1_Edgesl v1_Edgesc H Q = wpF Ee ⟨[], []⟩ F_graph_PutVertex [.pointer (some ⟨w0b, 0, none⟩), .agg ⟨[.int .i64 v1_ID, .int .i64 v1_Value, .slice v1_Edgesa v1_Edgesl v1_Edgesc]⟩] H Q := by kernel_rfl
  letI : Sy := sy0
  exact wpF_sound (Eq.mp e h)
/-- cohort/graph.Put -/
def VC_graph_Put (w0b : Nat) (g1_Verticesa : Option Addr) (g1_Verticesl : Nat) (g1_Verticesc : Nat) (H : AH) (Q : Value → AH → Prop) : Prop :=
 ∀ (H1 : AH),
 H1 = H.new (.cells [.slice g1_Verticesa g1_Verticesl g1_Verticesc] 0) →
 ∃ (t8a : Option Addr) (t8l : Nat) (t8c : Nat),
 H1.cell H.next 0 = some (.slice t8a t8l t8c) ∧
 FW Ee F_wire_Writer_Count [.pointer (some ⟨w0b, 0, none⟩), .int .i64 (((t8l : Nat) : Int))] H1 fun v H2 =>
 v = .tuple ⟨[]⟩ ∧
 ∃ (t12a : Option Addr) (t12l : Nat) (t12c : Nat),
 H2.cell H.next 0 = some (.slice t12a t12l t12c) ∧
 ∃ (Inv : Nat → Int → AH → Prop),
 (
 ∃ (n_1 : Nat),
 Inv n_1 0 H2) ∧
 ∀ (n : Nat),
 ∀ (t14 : Int) (H3 : AH),
 Inv n t14 H3 →
 cond (decide (t14 < (((t12l : Nat) : Int)))) (
 grd t12a.isSome (
 (0 : Int) ≤ t14 ∧
 (t14 : Int) < ((t12l : Nat) : Int) ∧
 ∃ (t17_ID : Int) (t17_Value : Int) (t17_Edgesa : Option Addr) (t17_Edgesl : Nat) (t17_Edgesc : Nat),
 H3.cell ((adr t12a).block) ((adr t12a).off + (t14 : Int).toNat * 3 + 0) = some (.int .i64 t17_ID) ∧
 H3.cell ((adr t12a).block) ((adr t12a).off + (t14 : Int).toNat * 3 + 1) = some (.int .i64 t17_Value) ∧
 H3.cell ((adr t12a).block) ((adr t12a).off + (t14 : Int).toNat * 3 + 2) = some (.slice t17_Edgesa t17_Edgesl t17_Edgesc) ∧
 ∀ (H4 : AH),
 H4 = H3.new (.cells [.int .i64 0, .int .i64 0, .slice none 0 0] 0) →
 ∃ (H5 : AH),
 storeCellsv H4 H3.next 0 [.int .i64 t17_ID, .int .i64 t17_Value, .slice t17_Edgesa t17_Edgesl t17_Edgesc] = some H5 ∧
 ∃ (t19_ID : Int) (t19_Value : Int) (t19_Edgesa : Option Addr) (t19_Edgesl : Nat) (t19_Edgesc : Nat),
 H5.cell H3.next (0 + 0) = some (.int .i64 t19_ID) ∧
 H5.cell H3.next (0 + 1) = some (.int .i64 t19_Value) ∧
 H5.cell H3.next (0 + 2) = some (.slice t19_Edgesa t19_Edgesl t19_Edgesc) ∧
 FW Ee F_graph_PutVertex [.pointer (some ⟨w0b, 0, none⟩), .agg ⟨[.int .i64 t19_ID, .int .i64 t19_Value, .slice t19_Edgesa t19_Edgesl t19_Edgesc]⟩] H5 fun v_1 H6 =>
 v_1 = .tuple ⟨[]⟩ ∧
 ∀ (t21 : Int),
 t21 = IntKind.i64.wrap (t14 + 1) →
 ∃ (m : Nat),
 m < n ∧
 Inv m t21 H6)) (
 Q (.tuple ⟨[]⟩) H3)
set_option maxRecDepth 100000 in
theorem fw_graph_Put {w0b : Nat} {g1_Verticesa : Option Addr} {g1_Verticesl : Nat} {g1_Verticesc : Nat} {H : AH} {Q : Value → AH → Prop} (h : VC_graph_Put w0b g1_Verticesa g1_Verticesl g1_Verticesc H Q) : FW Ee F_graph_Put [.pointer (some ⟨w0b, 0, none⟩), .agg ⟨[.slice g1_Verticesa g1_Verticesl g1_Verticesc]⟩] H Q := by
  have e : VC_graph_Put w0b g1_Verticesa g1_Verticesl g1_Verticesc H Q = wpF Ee ⟨[], []⟩ F_graph_Put [.pointer (some ⟨w0b, 0, none⟩), .agg ⟨[.slice g1_Verticesa g1_Verticesl g1_Verticesc]⟩] H Q := by kernel_rfl
  letI : Sy := sy0
  exact wpF_sound (Eq.mp e h)
/-- cohort/graph.TakeVertex -/
def VC_graph_TakeVertex (r0b : Nat) (H : AH) (Q : Value → AH → Prop) : Prop :=
 ∀ (H1 : AH),
 H1 = H.new (.cells [.int .i64 0, .int .i64 0, .slice none 0 0] 0) →
 FW Ee F_wire_Reader_Signed [.pointer (some ⟨r0b, 0, none⟩)] H1 fun v H2 =>
 ∃ (r6 : Int),
 v = .int .i64 r6 ∧
 FW Ee F_wire_Reader_Signed [.pointer (some ⟨r0b, 0, none⟩)] H2 fun v_1 H3 =>
 ∃ (r8 : Int),
 v_1 = .int .i64 r8 ∧
 ∀ (H4 : AH),
 H4 = H3.new (.cells [.int .i64 0, .int .i64 0, .slice none 0 0] 0) →
 ∃ (H5 : AH),
 storeCellsv H4 H3.next 0 [.int .i64 r6, .int .i64 r8, .slice none 0 0] = some H5 ∧
 FW Ee F_wire_Reader_Count [.pointer (some ⟨r0b, 0, none⟩), .int .i64 2048] H5 fun v_2 H6 =>
 ∃ (r11 : Int),
 v_2 = .int .i64 r11 ∧
 ∃ (Inv : Nat → Int → AH → Prop),
 (
 ∃ (n_1 : Nat),
 Inv n_1 r11 H6) ∧
 ∀ (n : Nat),
 ∀ (n4 : Int) (H7 : AH),
 Inv n n4 H7 →
 cond (decide (n4 > 0)) (
 FW Ee F_wire_Reader_Err [.pointer (some ⟨r0b, 0, none⟩)] H7 fun v_3 H8 =>
 ∃ (r16 : Int),
 v_3 = .int .i64 r16 ∧
 cond (r16 == 0) (
 ∃ (t22a : Option Addr) (t22l : Nat) (t22c : Nat),
 H8.cell H3.next 2 = some (.slice t22a t22l t22c) ∧
 FW Ee F_wire_Reader_Signed [.pointer (some ⟨r0b, 0, none⟩)] H8 fun v_4 H9 =>
 ∃ (r24 : Int),
 v_4 = .int .i64 r24 ∧
 FW Ee F_wire_Reader_Signed [.pointer (some ⟨r0b, 0, none⟩)] H9 fun v_5 H10 =>
 ∃ (r26 : Int),
 v_5 = .int .i64 r26 ∧
 ∀ (H11 : AH),
 H11 = H10.new (.cells [.int .i64 r24, .int .i64 r26] 0) →
 ∃ (t29a : Option Addr) (t29l : Nat) (t29c : Nat) (H12 : AH),
 apnd H11 2 16 t22a t22l t22c (.slice (some ⟨H10.next, 0, none⟩) 1 2) = some (.slice t29a t29l t29c, H12) ∧
 ∃ (H13 : AH),
 storeCellsv H12 H3.next 2 [.slice t29a t29l t29c] = some H13 ∧
 H11.cell H3.next 2 = some (.slice t22a t22l t22c) ∧
 H9.cell H3.next 2 = some (.slice t22a t22l t22c) ∧
 ∀ (t20 : Int),
 t20 = IntKind.i64.wrap (n4 - 1) →
 ∃ (m : Nat),
 m < n ∧
 Inv m t20 H13) (
 ∃ (t31_ID : Int) (t31_Value : Int) (t31_Edgesa : Option Addr) (t31_Edgesl : Nat) (t31_Edgesc : Nat),
 H8.cell H3.next (0 + 0) = some (.int .i64 t31_ID) ∧
 H8.cell H3.next (0 + 1) = some (.int .i64 t31_Value) ∧
 H8.cell H3.next (0 + 2) = some (.slice t31_Edgesa t31_Edgesl t31_Edgesc) ∧
 ∃ (H14 : AH),
 storeCellsv H8 H.next 0 [.int .i64 t31_ID, .int .i64 t31_Value, .slice t31_Edgesa t31_Edgesl t31_Edgesc] = some H14 ∧
 ∃ (r2_ID : Int) (r2_Value : Int) (r2_Edgesa : Option Addr) (r2_Edgesl : Nat) (r2_Edgesc : Nat),
 H14.cell H.next (0 + 0) = some (.int .i64 r2_ID) ∧
 H14.cell H.next (0 + 1) = some (.int .i64 r2_Value) ∧
 H14.cell H.next (0 + 2) = some (.slice r2_Edgesa r2_Edgesl r2_Edgesc) ∧
 Q (.agg ⟨[.int .i64 r2_ID, .int .i64 r2_Value, .slice r2_Edgesa r2_Edgesl r2_Edgesc]⟩) H14)) (
 ∃ (t31_ID_1 : Int) (t31_Value_1 : Int) (t31_Edgesa_1 : Option Addr) (t31_Edgesl_1 : Nat) (t31_Edgesc_1 : Nat),
 H7.cell H3.next (0 + 0) = some (.int .i64 t31_ID_1) ∧
 H7.cell H3.next (0 + 1) = some (.int .i64 t31_Value_1) ∧
 H7.cell H3.next (0 + 2) = some (.slice t31_Edgesa_1 t31_Edgesl_1 t31_Edgesc_1) ∧
 ∃ (H15 : AH),
 storeCellsv H7 H.next 0 [.int .i64 t31_ID_1, .int .i64 t31_Value_1, .slice t31_Edgesa_1 t31_Edgesl_1 t31_Edgesc_1] = some H15 ∧
 ∃ (r2_ID_1 : Int) (r2_Value_1 : Int) (r2_Edgesa_1 : Option Addr) (r2_Edgesl_1 : Nat) (r2_Edgesc_1 : Nat),
 H15.cell H.next (0 + 0) = some (.int .i64 r2_ID_1) ∧
 H15.cell H.next (0 + 1) = some (.int .i64 r2_Value_1) ∧
 H15.cell H.next (0 + 2) = some (.slice r2_Edgesa_1 r2_Edgesl_1 r2_Edgesc_1) ∧
 Q (.agg ⟨[.int .i64 r2_ID_1, .int .i64 r2_Value_1, .slice r2_Edgesa_1 r2_Edgesl_1 r2_Edgesc_1]⟩) H15)
set_option maxRecDepth 100000 in
theorem fw_graph_TakeVertex {r0b : Nat} {H : AH} {Q : Value → AH → Prop} (h : VC_graph_TakeVertex r0b H Q) : FW Ee F_graph_TakeVertex [.pointer (some ⟨r0b, 0, none⟩)] H Q := by
  have e : VC_graph_TakeVertex r0b H Q = wpF Ee ⟨[], []⟩ F_graph_TakeVertex [.pointer (some ⟨r0b, 0, none⟩)] H Q := by kernel_rfl
  letI : Sy := sy0
  exact wpF_sound (Eq.mp e h)
/-- cohort/graph.Take -/
def VC_graph_Take (r0b : Nat) (H : AH) (Q : Value → AH → Prop) : Prop :=
 ∀ (H1 : AH),
 H1 = H.new (.cells [.slice none 0 0] 0) →
 ∀ (H2 : AH),
 H2 = H1.new (.cells [.slice none 0 0] 0) →
 FW Ee F_wire_Reader_Count [.pointer (some ⟨r0b, 0, none⟩), .int .i64 256] H2 fun v H3 =>
 ∃ (r6 : Int),
 v = .int .i64 r6 ∧
 ∃ (Inv : Nat → Int → AH → Prop),
 (
 ∃ (n_1 : Nat),
 Inv n_1 r6 H3) ∧
 ∀ (n : Nat),
 ∀ (n4 : Int) (H4 : AH),
 Inv n n4 H4 →
 cond (decide (n4 > 0)) (
 FW Ee F_wire_Reader_Err [.pointer (some ⟨r0b, 0, none⟩)] H4 fun v_1 H5 =>
 ∃ (r11 : Int),
 v_1 = .int .i64 r11 ∧
 cond (r11 == 0) (
 ∃ (t17a : Option Addr) (t17l : Nat) (t17c : Nat),
 H5.cell H1.next 0 = some (.slice t17a t17l t17c) ∧
 FW Ee F_graph_TakeVertex [.pointer (some ⟨r0b, 0, none⟩)] H5 fun v_2 H6 =>
 ∃ (r19_ID : Int) (r19_Value : Int) (r19_Edgesa : Option Addr) (r19_Edgesl : Nat) (r19_Edgesc : Nat),
 v_2 = .agg ⟨[.int .i64 r19_ID, .int .i64 r19_Value, .slice r19_Edgesa r19_Edgesl r19_Edgesc]⟩ ∧
 ∀ (H7 : AH),
 H7 = H6.new (.cells [.int .i64 r19_ID, .int .i64 r19_Value, .slice r19_Edgesa r19_Edgesl r19_Edgesc] 0) →
 ∃ (t21a : Option Addr) (t21l : Nat) (t21c : Nat) (H8 : AH),
 apnd H7 3 40 t17a t17l t17c (.slice (some ⟨H6.next, 0, none⟩) 1 2) = some (.slice t21a t21l t21c, H8) ∧
 ∃ (H9 : AH),
 storeCellsv H8 H1.next 0 [.slice t21a t21l t21c] = some H9 ∧
 H7.cell H1.next 0 = some (.slice t17a t17l t17c) ∧
 ∀ (t15 : Int),
 t15 = IntKind.i64.wrap (n4 - 1) →
 ∃ (m : Nat),
 m < n ∧
 Inv m t15 H9) (
 FW Ee F_wire_Reader_Err [.pointer (some ⟨r0b, 0, none⟩)] H5 fun v_3 H10 =>
 ∃ (r24 : Int),
 v_3 = .int .i64 r24 ∧
 cond (r24 == 0) (
 ∃ (t27_Verticesa : Option Addr) (t27_Verticesl : Nat) (t27_Verticesc : Nat),
 H10.cell H1.next (0 + 0) = some (.slice t27_Verticesa t27_Verticesl t27_Verticesc) ∧
 FW Ee F_graph_Check [.agg ⟨[.slice t27_Verticesa t27_Verticesl t27_Verticesc]⟩] H10 fun v_4 H11 =>
 ∃ (r28 : Int),
 v_4 = .int .i64 r28 ∧
 FW Ee F_wire_Reader_Fail [.pointer (some ⟨r0b, 0, none⟩), .int .i64 r28] H11 fun v_5 H12 =>
 v_5 = .tuple ⟨[]⟩ ∧
 ∃ (t30_Verticesa : Option Addr) (t30_Verticesl : Nat) (t30_Verticesc : Nat),
 H12.cell H1.next (0 + 0) = some (.slice t30_Verticesa t30_Verticesl t30_Verticesc) ∧
 ∃ (H13 : AH),
 storeCellsv H12 H.next 0 [.slice t30_Verticesa t30_Verticesl t30_Verticesc] = some H13 ∧
 ∃ (r2_Verticesa : Option Addr) (r2_Verticesl : Nat) (r2_Verticesc : Nat),
 H13.cell H.next (0 + 0) = some (.slice r2_Verticesa r2_Verticesl r2_Verticesc) ∧
 Q (.agg ⟨[.slice r2_Verticesa r2_Verticesl r2_Verticesc]⟩) H13) (
 ∃ (t30_Verticesa_1 : Option Addr) (t30_Verticesl_1 : Nat) (t30_Verticesc_1 : Nat),
 H10.cell H1.next (0 + 0) = some (.slice t30_Verticesa_1 t30_Verticesl_1 t30_Verticesc_1) ∧
 ∃ (H14 : AH),
 storeCellsv H10 H.next 0 [.slice t30_Verticesa_1 t30_Verticesl_1 t30_Verticesc_1] = some H14 ∧
 ∃ (r2_Verticesa_1 : Option Addr) (r2_Verticesl_1 : Nat) (r2_Verticesc_1 : Nat),
 H14.cell H.next (0 + 0) = some (.slice r2_Verticesa_1 r2_Verticesl_1 r2_Verticesc_1) ∧
 Q (.agg ⟨[.slice r2_Verticesa_1 r2_Verticesl_1 r2_Verticesc_1]⟩) H14))) (
 FW Ee F_wire_Reader_Err [.pointer (some ⟨r0b, 0, none⟩)] H4 fun v_6 H15 =>
 ∃ (r24_1 : Int),
 v_6 = .int .i64 r24_1 ∧
 cond (r24_1 == 0) (
 ∃ (t27_Verticesa_1 : Option Addr) (t27_Verticesl_1 : Nat) (t27_Verticesc_1 : Nat),
 H15.cell H1.next (0 + 0) = some (.slice t27_Verticesa_1 t27_Verticesl_1 t27_Verticesc_1) ∧
 FW Ee F_graph_Check [.agg ⟨[.slice t27_Verticesa_1 t27_Verticesl_1 t27_Verticesc_1]⟩] H15 fun v_7 H16 =>
 ∃ (r28_1 : Int),
 v_7 = .int .i64 r28_1 ∧
 FW Ee F_wire_Reader_Fail [.pointer (some ⟨r0b, 0, none⟩), .int .i64 r28_1] H16 fun v_8 H17 =>
 v_8 = .tuple ⟨[]⟩ ∧
 ∃ (t30_Verticesa_2 : Option Addr) (t30_Verticesl_2 : Nat) (t30_Verticesc_2 : Nat),
 H17.cell H1.next (0 + 0) = some (.slice t30_Verticesa_2 t30_Verticesl_2 t30_Verticesc_2) ∧
 ∃ (H18 : AH),
 storeCellsv H17 H.next 0 [.slice t30_Verticesa_2 t30_Verticesl_2 t30_Verticesc_2] = some H18 ∧
 ∃ (r2_Verticesa_2 : Option Addr) (r2_Verticesl_2 : Nat) (r2_Verticesc_2 : Nat),
 H18.cell H.next (0 + 0) = some (.slice r2_Verticesa_2 r2_Verticesl_2 r2_Verticesc_2) ∧
 Q (.agg ⟨[.slice r2_Verticesa_2 r2_Verticesl_2 r2_Verticesc_2]⟩) H18) (
 ∃ (t30_Verticesa_3 : Option Addr) (t30_Verticesl_3 : Nat) (t30_Verticesc_3 : Nat),
 H15.cell H1.next (0 + 0) = some (.slice t30_Verticesa_3 t30_Verticesl_3 t30_Verticesc_3) ∧
 ∃ (H19 : AH),
 storeCellsv H15 H.next 0 [.slice t30_Verticesa_3 t30_Verticesl_3 t30_Verticesc_3] = some H19 ∧
 ∃ (r2_Verticesa_3 : Option Addr) (r2_Verticesl_3 : Nat) (r2_Verticesc_3 : Nat),
 H19.cell H.next (0 + 0) = some (.slice r2_Verticesa_3 r2_Verticesl_3 r2_Verticesc_3) ∧
 Q (.agg ⟨[.slice r2_Verticesa_3 r2_Verticesl_3 r2_Verticesc_3]⟩) H19))
set_option maxRecDepth 100000 in
theorem fw_graph_Take {r0b : Nat} {H : AH} {Q : Value → AH → Prop} (h : VC_graph_Take r0b H Q) : FW Ee F_graph_Take [.pointer (some ⟨r0b, 0, none⟩)] H Q := by
  have e : VC_graph_Take r0b H Q = wpF Ee ⟨[], []⟩ F_graph_Take [.pointer (some ⟨r0b, 0, none⟩)] H Q := by kernel_rfl
  letI : Sy := sy0
  exact wpF_sound (Eq.mp e h)
end Go.Proofs.Cx

namespace Go.Proofs.Cx
open Go Go.Ev
set_option linter.unusedVariables false
set_option maxRecDepth 100000
set_option maxHeartbeats 8000000
/-- cohort/kern.Programs -/
def VC_kern_Programs  (H : AH) (Q : Value → AH → Prop) : Prop :=
 ∀ (H1 : AH),
 H1 = H.new (.cells [.string ⟨⟨[98, 102, 115]⟩⟩, .string ⟨⟨[99, 99]⟩⟩, .string ⟨⟨[99, 111, 108, 111, 114, 115]⟩⟩, .string ⟨⟨[100, 101, 103, 114, 101, 101]⟩⟩, .string ⟨⟨[107, 99, 111, 114, 101]⟩⟩, .string ⟨⟨[108, 97, 98, 101, 108, 115]⟩⟩, .string ⟨⟨[109, 97, 116, 99, 104, 105, 110, 103]⟩⟩, .string ⟨⟨[112, 97, 103, 101, 114, 97, 110, 107]⟩⟩, .string ⟨⟨[115, 115, 115, 112]⟩⟩, .string ⟨⟨[116, 114, 105, 97, 110, 103, 108, 101, 115]⟩⟩] 0) →
 Q (.slice (some ⟨H.next, 0, none⟩) 10 20) H1
set_option maxRecDepth 100000 in
theorem fw_kern_Programs  {H : AH} {Q : Value → AH → Prop} (h : VC_kern_Programs  H Q) : FW Ee F_kern_Programs [] H Q := by
  have e : VC_kern_Programs  H Q = wpF Ee ⟨[], []⟩ F_kern_Programs [] H Q := by kernel_rfl
  letI : Sy := sy0
  exact wpF_sound (Eq.mp e h)
/-- cohort/kern.Turns -/
def VC_kern_Turns (params0a : Option Addr) (params0l : Nat) (params0c : Nat) (H : AH) (Q : Value → AH → Prop) : Prop :=
 cond ((((params0l : Nat) : Int)) != 1) (
 Q (.int .i64 71) H) (
 grd params0a.isSome (
 (0 : Int) ≤ 0 ∧
 (0 : Int) < ((params0l : Nat) : Int) ∧
 ∃ (t9 : Int),
 H.cell ((adr params0a).block) ((adr params0a).off + (0 : Int).toNat * 1) = some (.int .i64 t9) ∧
 cond (decide (t9 < 0)) (
 Q (.int .i64 71) H) (
 grd params0a.isSome (
 (0 : Int) ≤ 0 ∧
 (0 : Int) < ((params0l : Nat) : Int) ∧
 ∃ (t15 : Int),
 H.cell ((adr params0a).block) ((adr params0a).off + (0 : Int).toNat * 1) = some (.int .i64 t15) ∧
 cond (decide (t15 > 100)) (
 Q (.int .i64 71) H) (
 Q (.int .i64 0) H)))))
set_option maxRecDepth 100000 in
theorem fw_kern_Turns {params0a : Option Addr} {params0l : Nat} {params0c : Nat} {H : AH} {Q : Value → AH → Prop} (h : VC_kern_Turns params0a params0l params0c H Q) : FW Ee F_kern_Turns [.slice params0a params0l params0c] H Q := by
  have e : VC_kern_Turns params0a params0l params0c H Q = wpF Ee ⟨[], []⟩ F_kern_Turns [.slice params0a params0l params0c] H Q := by kernel_rfl
  letI : Sy := sy0
  exact wpF_sound (Eq.mp e h)
/-- cohort/kern.None -/
def VC_kern_None (params0a : Option Addr) (params0l : Nat) (params0c : Nat) (H : AH) (Q : Value → AH → Prop) : Prop :=
 cond ((((params0l : Nat) : Int)) != 0) (
 Q (.int .i64 71) H) (
 Q (.int .i64 0) H)
set_option maxRecDepth 100000 in
theorem fw_kern_None {params0a : Option Addr} {params0l : Nat} {params0c : Nat} {H : AH} {Q : Value → AH → Prop} (h : VC_kern_None params0a params0l params0c H Q) : FW Ee F_kern_None [.slice params0a params0l params0c] H Q := by
  have e : VC_kern_None params0a params0l params0c H Q = wpF Ee ⟨[], []⟩ F_kern_None [.slice params0a params0l params0c] H Q := by kernel_rfl
  letI : Sy := sy0
  exact wpF_sound (Eq.mp e h)
/-- cohort/kern.Source -/
def VC_kern_Source (g0_Verticesa : Option Addr) (g0_Verticesl : Nat) (g0_Verticesc : Nat) (params1a : Option Addr) (params1l : Nat) (params1c : Nat) (H : AH) (Q : Value → AH → Prop) : Prop :=
 ∀ (H1 : AH),
 H1 = H.new (.cells [.slice g0_Verticesa g0_Verticesl g0_Verticesc] 0) →
 cond ((((params1l : Nat) : Int)) != 1) (
 Q (.int .i64 71) H1) (
 ∃ (t11_Verticesa : Option Addr) (t11_Verticesl : Nat) (t11_Verticesc : Nat),
 H1.cell H.next (0 + 0) = some (.slice t11_Verticesa t11_Verticesl t11_Verticesc) ∧
 grd params1a.isSome (
 (0 : Int) ≤ 0 ∧
 (0 : Int) < ((params1l : Nat) : Int) ∧
 ∃ (t14 : Int),
 H1.cell ((adr params1a).block) ((adr params1a).off + (0 : Int).toNat * 1) = some (.int .i64 t14) ∧
 FW Ee F_graph_Find [.agg ⟨[.slice t11_Verticesa t11_Verticesl t11_Verticesc]⟩, .int .i64 t14] H1 fun v H2 =>
 ∃ (r15_0 : Int) (r15_1 : Bool),
 v = .tuple ⟨[.int .i64 r15_0, .bool r15_1]⟩ ∧
 cond (!r15_1) (
 Q (.int .i64 71) H2) (
 Q (.int .i64 0) H2)))
set_option maxRecDepth 100000 in
theorem fw_kern_Source {g0_Verticesa : Option Addr} {g0_Verticesl : Nat} {g0_Verticesc : Nat} {params1a : Option Addr} {params1l : Nat} {params1c : Nat} {H : AH} {Q : Value → AH → Prop} (h : VC_kern_Source g0_Verticesa g0_Verticesl g0_Verticesc params1a params1l params1c H Q) : FW Ee F_kern_Source [.agg ⟨[.slice g0_Verticesa g0_Verticesl g0_Verticesc]⟩, .slice params1a params1l params1c] H Q := by
  have e : VC_kern_Source g0_Verticesa g0_Verticesl g0_Verticesc params1a params1l params1c H Q = wpF Ee ⟨[], []⟩ F_kern_Source [.agg ⟨[.slice g0_Verticesa g0_Verticesl g0_Verticesc]⟩, .slice params1a params1l params1c] H Q := by kernel_rfl
  letI : Sy := sy0
  exact wpF_sound (Eq.mp e h)
/-- cohort/kern.Check -/
def VC_kern_Check (program0 : List UInt8) (g1_Verticesa : Option Addr) (g1_Verticesl : Nat) (g1_Verticesc : Nat) (params2a : Option Addr) (params2l : Nat) (params2c : Nat) (H : AH) (Q : Value → AH → Prop) : Prop :=
 ∀ (H1 : AH),
 H1 = H.new (.cells [.slice g1_Verticesa g1_Verticesl g1_Verticesc] 0) →
 ∀ (H2 : AH),
 H2 = H1.new (.cells [.int .i64 0] 0) →
 cond ((program0 : List UInt8) == [98, 102, 115]) (
 ∃ (t12_Verticesa : Option Addr) (t12_Verticesl : Nat) (t12_Verticesc : Nat),
 H2.cell H.next (0 + 0) = some (.slice t12_Verticesa t12_Verticesl t12_Verticesc) ∧
 FW Ee F_kern_Source [.agg ⟨[.slice t12_Verticesa t12_Verticesl t12_Verticesc]⟩, .slice params2a params2l params2c] H2 fun v H3 =>
 ∃ (r14 : Int),
 v = .int .i64 r14 ∧
 ∃ (H4 : AH),
 storeCellsv H3 H1.next 0 [.int .i64 r14] = some H4 ∧
 ∃ (r6 : Int),
 H4.cell H1.next 0 = some (.int .i64 r6) ∧
 Q (.int .i64 r6) H4) (
 cond ((program0 : List UInt8) == [115, 115, 115, 112]) (
 ∃ (t17_Verticesa : Option Addr) (t17_Verticesl : Nat) (t17_Verticesc : Nat),
 H2.cell H.next (0 + 0) = some (.slice t17_Verticesa t17_Verticesl t17_Verticesc) ∧
 FW Ee F_graph_All [.agg ⟨[.slice t17_Verticesa t17_Verticesl t17_Verticesc]⟩] H2 fun v_1 H5 =>
 ∃ (b18 : Nat),
 v_1 = .func (.func F_graph_All_1) ⟨[]⟩ ⟨[.pointer (some ⟨b18, 0, none⟩)]⟩ ∧
 ∀ (L : ALoop),
 RdL 36 Ee.g [(6, .pointer (some ⟨H1.next, 0, none⟩))] (rfOf Ee F_kern_Check 0) L →
 L.st = .ready →
 L.pend = none →
 FW Ee F_graph_All_1 [.func (.yield H5.next) ⟨[]⟩ ⟨[]⟩, .pointer (some ⟨b18, 0, none⟩)] (H5.new (.loop L)) fun _ H6 =>
 ∃ (L_1 : ALoop),
 H6.get H5.next = some (.loop L_1) ∧
 L_1.st ≠ .busy ∧
 match L_1.pend with
 | none =>
 ∃ (t24_Verticesa_1 : Option Addr) (t24_Verticesl_1 : Nat) (t24_Verticesc_1 : Nat),
 (H6.set H5.next (.loop { L_1 with st := .exhausted })).cell H.next (0 + 0) = some (.slice t24_Verticesa_1 t24_Verticesl_1 t24_Verticesc_1) ∧
 FW Ee F_kern_Source [.agg ⟨[.slice t24_Verticesa_1 t24_Verticesl_1 t24_Verticesc_1]⟩, .slice params2a params2l params2c] ((H6.set H5.next (.loop { L_1 with st := .exhausted }))) fun v_3 H10 =>
 ∃ (r26_1 : Int),
 v_3 = .int .i64 r26_1 ∧
 ∃ (H11 : AH),
 storeCellsv H10 H1.next 0 [.int .i64 r26_1] = some H11 ∧
 ∃ (r6_3 : Int),
 H11.cell H1.next 0 = some (.int .i64 r6_3) ∧
 Q (.int .i64 r6_3) H11
 | some (.exit i) =>
 cond (Nat.beq i 1) (
 ∃ (t24_Verticesa : Option Addr) (t24_Verticesl : Nat) (t24_Verticesc : Nat),
 (H6.set H5.next (.loop { L_1 with st := .exhausted })).cell H.next (0 + 0) = some (.slice t24_Verticesa t24_Verticesl t24_Verticesc) ∧
 FW Ee F_kern_Source [.agg ⟨[.slice t24_Verticesa t24_Verticesl t24_Verticesc]⟩, .slice params2a params2l params2c] ((H6.set H5.next (.loop { L_1 with st := .exhausted }))) fun v_2 H7 =>
 ∃ (r26 : Int),
 v_2 = .int .i64 r26 ∧
 ∃ (H8 : AH),
 storeCellsv H7 H1.next 0 [.int .i64 r26] = some H8 ∧
 ∃ (r6_1 : Int),
 H8.cell H1.next 0 = some (.int .i64 r6_1) ∧
 Q (.int .i64 r6_1) H8) (
 cond (Nat.beq i 0) (
 ∃ (H9 : AH),
 storeCellsv ((H6.set H5.next (.loop { L_1 with st := .exhausted }))) H1.next 0 [.int .i64 70] = some H9 ∧
 ∃ (r6_2 : Int),
 H9.cell H1.next 0 = some (.int .i64 r6_2) ∧
 Q (.int .i64 r6_2) H9) (
 False))
 | some .ret =>
 ∃ (r6_4 : Int),
 (H6.set H5.next (.loop { L_1 with st := .exhausted })).cell H1.next 0 = some (.int .i64 r6_4) ∧
 Q (.int .i64 r6_4) ((H6.set H5.next (.loop { L_1 with st := .exhausted })))
 | _ =>
 False) (
 cond ((program0 : List UInt8) == [112, 97, 103, 101, 114, 97, 110, 107]) (
 FW Ee F_kern_Turns [.slice params2a params2l params2c] H2 fun v_4 H12 =>
 ∃ (r30 : Int),
 v_4 = .int .i64 r30 ∧
 ∃ (H13 : AH),
 storeCellsv H12 H1.next 0 [.int .i64 r30] = some H13 ∧
 ∃ (r6_5 : Int),
 H13.cell H1.next 0 = some (.int .i64 r6_5) ∧
 Q (.int .i64 r6_5) H13) (
 cond ((program0 : List UInt8) == [100, 101, 103, 114, 101, 101]) (
 FW Ee F_kern_None [.slice params2a params2l params2c] H2 fun v_5 H14 =>
 ∃ (r35 : Int),
 v_5 = .int .i64 r35 ∧
 ∃ (H15 : AH),
 storeCellsv H14 H1.next 0 [.int .i64 r35] = some H15 ∧
 ∃ (r6_6 : Int),
 H15.cell H1.next 0 = some (.int .i64 r6_6) ∧
 Q (.int .i64 r6_6) H15) (
 cond ((program0 : List UInt8) == [99, 99]) (
 FW Ee F_kern_None [.slice params2a params2l params2c] H2 fun v_6 H16 =>
 ∃ (r35_1 : Int),
 v_6 = .int .i64 r35_1 ∧
 ∃ (H17 : AH),
 storeCellsv H16 H1.next 0 [.int .i64 r35_1] = some H17 ∧
 ∃ (r6_7 : Int),
 H17.cell H1.next 0 = some (.int .i64 r6_7) ∧
 Q (.int .i64 r6_7) H17) (
 ∃ (H18 : AH),
 storeCellsv H2 H1.next 0 [.int .i64 70] = some H18 ∧
 ∃ (r6_8 : Int),
 H18.cell H1.next 0 = some (.int .i64 r6_8) ∧
 Q (.int .i64 r6_8) H18)))))
set_option maxRecDepth 100000 in
theorem fw_kern_Check {program0 : List UInt8} {g1_Verticesa : Option Addr} {g1_Verticesl : Nat} {g1_Verticesc : Nat} {params2a : Option Addr} {params2l : Nat} {params2c : Nat} {H : AH} {Q : Value → AH → Prop} (h : VC_kern_Check program0 g1_Verticesa g1_Verticesl g1_Verticesc params2a params2l params2c H Q) : FW Ee F_kern_Check [.string ⟨⟨program0⟩⟩, .agg ⟨[.slice g1_Verticesa g1_Verticesl g1_Verticesc]⟩, .slice params2a params2l params2c] H Q := by
  have e : VC_kern_Check program0 g1_Verticesa g1_Verticesl g1_Verticesc params2a params2l params2c H Q = wpF Ee ⟨[], []⟩ F_kern_Check [.string ⟨⟨program0⟩⟩, .agg ⟨[.slice g1_Verticesa g1_Verticesl g1_Verticesc]⟩, .slice params2a params2l params2c] H Q := by kernel_rfl
  letI : Sy := sy0
  exact wpF_sound (Eq.mp e h)
/-- cohort/kern.Check: a round -/
def VC_kern_Check_r0 (t6b : Nat) (t6o : Nat) (p19 : Int) (p20_To : Int) (p20_Weight : Int) (l : Nat) (H : AH) (Q : Value → AH → Prop) : Prop :=
 ∀ (H1 : AH),
 H1 = H.new (.cells [.int .i64 0, .int .i64 0] 0) →
 ∃ (H2 : AH),
 storeCellsv H1 H.next 0 [.int .i64 p20_To, .int .i64 p20_Weight] = some H2 ∧
 ∃ (L : ALoop),
 H2.get l = some (.loop L) ∧
 L.st = .ready ∧
 L.body = (rfOf Ee F_kern_Check 0).2.2 ∧
 ∃ (t22 : Int),
 (H2.set l (.loop { L with st := .busy })).cell H.next 1 = some (.int .i64 t22) ∧
 cond (decide (t22 < 0)) (
 ∃ (H3 : AH),
 storeCellsv ((H2.set l (.loop { L with st := .busy }))) t6b t6o [.int .i64 71] = some H3 ∧
 ∃ (L_1 : ALoop),
 H3.get l = some (.loop L_1) ∧
 Q (.bool false) (H3.set l (.loop { L_1 with st := .done, pend := some .ret }))) (
 ∃ (L_2 : ALoop),
 (H2.set l (.loop { L with st := .busy })).get l = some (.loop L_2) ∧
 Q (.bool true) ((H2.set l (.loop { L with st := .busy })).set l (.loop { L_2 with st := .ready, pend := none })))
set_option maxRecDepth 100000 in
theorem rw_kern_Check_r0 {t6b : Nat} {t6o : Nat} {p19 : Int} {p20_To : Int} {p20_Weight : Int} {l : Nat} {H : AH} {Q : Value → AH → Prop} {L : ALoop} (hl : H.get l = some (.loop L)) (hR : RdL 36 Ee.g [(6, .pointer (some ⟨t6b, t6o, none⟩))] (rfOf Ee F_kern_Check 0) L) (h : VC_kern_Check_r0 t6b t6o p19 p20_To p20_Weight l H Q) : RW Ee l [.int .i64 p19, .agg ⟨[.int .i64 p20_To, .int .i64 p20_Weight]⟩] H Q := by
  have e : VC_kern_Check_r0 t6b t6o p19 p20_To p20_Weight l H Q = wpRound Ee ⟨[], []⟩ (frm 36 Ee.g [(6, .pointer (some ⟨t6b, t6o, none⟩))]) (rfOf Ee F_kern_Check 0).1 (rfOf Ee F_kern_Check 0).2.1 (rfOf Ee F_kern_Check 0).2.2 l [.int .i64 p19, .agg ⟨[.int .i64 p20_To, .int .i64 p20_Weight]⟩] H Q := by kernel_rfl
  letI : Sy := sy0
  exact wpRoundR_sound hl hR (Eq.mp e h)
/-- cmp.isNaN[string] -/
def VC_cmp_isNaN_string (x0 : List UInt8) (H : AH) (Q : Value → AH → Prop) : Prop :=
 Q (.bool (!((x0 : List UInt8) == x0))) H
set_option maxRecDepth 100000 in
theorem fw_cmp_isNaN_string {x0 : List UInt8} {H : AH} {Q : Value → AH → Prop} (h : VC_cmp_isNaN_string x0 H Q) : FW Ee F_cmp_isNaN_string [.string ⟨⟨x0⟩⟩] H Q := by
  have e : VC_cmp_isNaN_string x0 H Q = wpF Ee ⟨[], []⟩ F_cmp_isNaN_string [.string ⟨⟨x0⟩⟩] H Q := by kernel_rfl
  letI : Sy := sy0
  exact wpF_sound (Eq.mp e h)
/-- cmp.Less[string] -/
def VC_cmp_Less_string (x0 : List UInt8) (y1 : List UInt8) (H : AH) (Q : Value → AH → Prop) : Prop :=
 FW Ee F_cmp_isNaN_string [.string ⟨⟨x0⟩⟩] H fun v H1 =>
 ∃ (r6 : Bool),
 v = .bool r6 ∧
 cond (r6) (
 FW Ee F_cmp_isNaN_string [.string ⟨⟨y1⟩⟩] H1 fun v_1 H2 =>
 ∃ (r9 : Bool),
 v_1 = .bool r9 ∧
 cond (!r9) (
 Q (.bool true) H2) (
 Q (.bool (Op.bytesLess x0 y1)) H2)) (
 Q (.bool (Op.bytesLess x0 y1)) H1)
set_option maxRecDepth 100000 in
theorem fw_cmp_Less_string {x0 : List UInt8} {y1 : List UInt8} {H : AH} {Q : Value → AH → Prop} (h : VC_cmp_Less_string x0 y1 H Q) : FW Ee F_cmp_Less_string [.string ⟨⟨x0⟩⟩, .string ⟨⟨y1⟩⟩] H Q := by
  have e : VC_cmp_Less_string x0 y1 H Q = wpF Ee ⟨[], []⟩ F_cmp_Less_string [.string ⟨⟨x0⟩⟩, .string ⟨⟨y1⟩⟩] H Q := by kernel_rfl
  letI : Sy := sy0
  exact wpF_sound (Eq.mp e h)
/-- slices.isNaN[string] -/
def VC_slices_isNaN_string (x0 : List UInt8) (H : AH) (Q : Value → AH → Prop) : Prop :=
 Q (.bool (!((x0 : List UInt8) == x0))) H
set_option maxRecDepth 100000 in
theorem fw_slices_isNaN_string {x0 : List UInt8} {H : AH} {Q : Value → AH → Prop} (h : VC_slices_isNaN_string x0 H Q) : FW Ee F_slices_isNaN_string [.string ⟨⟨x0⟩⟩] H Q := by
  have e : VC_slices_isNaN_string x0 H Q = wpF Ee ⟨[], []⟩ F_slices_isNaN_string [.string ⟨⟨x0⟩⟩] H Q := by kernel_rfl
  letI : Sy := sy0
  exact wpF_sound (Eq.mp e h)
/-- slices.BinarySearch[[]string,string] -/
def VC_slices_BinarySearch_L_string_string (x0a : Option Addr) (x0l : Nat) (x0c : Nat) (target1 : List UInt8) (H : AH) (Q : Value → AH → Prop) : Prop :=
 ∃ (Inv : Nat → Int → Int → AH → Prop),
 (
 ∃ (n_1 : Nat),
 Inv n_1 0 (((x0l : Nat) : Int)) H) ∧
 ∀ (n : Nat),
 ∀ (i7 : Int) (j8 : Int) (H1 : AH),
 Inv n i7 j8 H1 →
 cond (decide (i7 < j8)) (
 ∀ (t18 : Int),
 t18 = IntKind.i64.wrap (i7 + j8) →
 ∀ (t19 : Int),
 t19 = IntKind.u64.wrap (t18) →
 (0 : Int) ≤ 1 ∧
 ∀ (t20 : Int),
 t20 = (t19 : Int).fdiv (2 ^ (min (1 : Int).toNat IntKind.u64.bits)) →
 ∀ (t21 : Int),
 t21 = IntKind.i64.wrap (t20) →
 grd x0a.isSome (
 (0 : Int) ≤ t21 ∧
 (t21 : Int) < ((x0l : Nat) : Int) ∧
 ∃ (t25 : List UInt8),
 H1.cell ((adr x0a).block) ((adr x0a).off + (t21 : Int).toNat * 1) = some (.string ⟨⟨t25⟩⟩) ∧
 FW Ee F_cmp_Less_string [.string ⟨⟨t25⟩⟩, .string ⟨⟨target1⟩⟩] H1 fun v H2 =>
 ∃ (r27 : Bool),
 v = .bool r27 ∧
 cond (r27) (
 ∀ (t29 : Int),
 t29 = IntKind.i64.wrap (t21 + 1) →
 ∃ (m : Nat),
 m < n ∧
 Inv m t29 j8 H2) (
 ∃ (m : Nat),
 m < n ∧
 Inv m i7 t21 H2))) (
 cond (decide (i7 < (((x0l : Nat) : Int)))) (
 grd x0a.isSome (
 (0 : Int) ≤ i7 ∧
 (i7 : Int) < ((x0l : Nat) : Int) ∧
 ∃ (t39 : List UInt8),
 H1.cell ((adr x0a).block) ((adr x0a).off + (i7 : Int).toNat * 1) = some (.string ⟨⟨t39⟩⟩) ∧
 cond ((t39 : List UInt8) == target1) (
 Q (.tuple ⟨[.int .i64 i7, .bool true]⟩) H1) (
 grd x0a.isSome (
 (0 : Int) ≤ i7 ∧
 (i7 : Int) < ((x0l : Nat) : Int) ∧
 ∃ (t46 : List UInt8),
 H1.cell ((adr x0a).block) ((adr x0a).off + (i7 : Int).toNat * 1) = some (.string ⟨⟨t46⟩⟩) ∧
 FW Ee F_slices_isNaN_string [.string ⟨⟨t46⟩⟩] H1 fun v_1 H3 =>
 ∃ (r47 : Bool),
 v_1 = .bool r47 ∧
 cond (r47) (
 FW Ee F_slices_isNaN_string [.string ⟨⟨target1⟩⟩] H3 fun v_2 H4 =>
 ∃ (r50 : Bool),
 v_2 = .bool r50 ∧
 Q (.tuple ⟨[.int .i64 i7, .bool r50]⟩) H4) (
 Q (.tuple ⟨[.int .i64 i7, .bool false]⟩) H3))))) (
 Q (.tuple ⟨[.int .i64 i7, .bool false]⟩) H1))
set_option maxRecDepth 100000 in
theorem fw_slices_BinarySearch_L_string_string {x0a : Option Addr} {x0l : Nat} {x0c : Nat} {target1 : List UInt8} {H : AH} {Q : Value → AH → Prop} (h : VC_slices_BinarySearch_L_string_string x0a x0l x0c target1 H Q) : FW Ee F_slices_BinarySearch_L_string_string [.slice x0a x0l x0c, .string ⟨⟨target1⟩⟩] H Q := by
  have e : VC_slices_BinarySearch_L_string_string x0a x0l x0c target1 H Q = wpF Ee ⟨[], []⟩ F_slices_BinarySearch_L_string_string [.slice x0a x0l x0c, .string ⟨⟨target1⟩⟩] H Q := by kernel_rfl
  letI : Sy := sy0
  exact wpF_sound (Eq.mp e h)
/-- cohort/more.Known -/
def VC_more_Known (program0 : List UInt8) (H : AH) (Q : Value → AH → Prop) : Prop :=
 FW Ee F_kern_Programs [] H fun v H1 =>
 ∃ (r6a : Option Addr) (r6l : Nat) (r6c : Nat),
 v = .slice r6a r6l r6c ∧
 FW Ee F_slices_BinarySearch_L_string_string [.slice r6a r6l r6c, .string ⟨⟨program0⟩⟩] H1 fun v_1 H2 =>
 ∃ (r8_0 : Int) (r8_1 : Bool),
 v_1 = .tuple ⟨[.int .i64 r8_0, .bool r8_1]⟩ ∧
 Q (.bool r8_1) H2
set_option maxRecDepth 100000 in
theorem fw_more_Known {program0 : List UInt8} {H : AH} {Q : Value → AH → Prop} (h : VC_more_Known program0 H Q) : FW Ee F_more_Known [.string ⟨⟨program0⟩⟩] H Q := by
  have e : VC_more_Known program0 H Q = wpF Ee ⟨[], []⟩ F_more_Known [.string ⟨⟨program0⟩⟩] H Q := by kernel_rfl
  letI : Sy := sy0
  exact wpF_sound (Eq.mp e h)
/-- cohort/more.Check -/
def VC_more_Check (program0 : List UInt8) (g1_Verticesa : Option Addr) (g1_Verticesl : Nat) (g1_Verticesc : Nat) (params2a : Option Addr) (params2l : Nat) (params2c : Nat) (H : AH) (Q : Value → AH → Prop) : Prop :=
 ∀ (H1 : AH),
 H1 = H.new (.cells [.slice g1_Verticesa g1_Verticesl g1_Verticesc] 0) →
 cond ((program0 : List UInt8) == [108, 97, 98, 101, 108, 115]) (
 FW Ee F_kern_Turns [.slice params2a params2l params2c] H1 fun v H2 =>
 ∃ (r11 : Int),
 v = .int .i64 r11 ∧
 Q (.int .i64 r11) H2) (
 cond ((program0 : List UInt8) == [107, 99, 111, 114, 101]) (
 cond ((((params2l : Nat) : Int)) != 1) (
 Q (.int .i64 71) H1) (
 grd params2a.isSome (
 (0 : Int) ≤ 0 ∧
 (0 : Int) < ((params2l : Nat) : Int) ∧
 ∃ (t20 : Int),
 H1.cell ((adr params2a).block) ((adr params2a).off + (0 : Int).toNat * 1) = some (.int .i64 t20) ∧
 cond (decide (t20 < 0)) (
 Q (.int .i64 71) H1) (
 grd params2a.isSome (
 (0 : Int) ≤ 0 ∧
 (0 : Int) < ((params2l : Nat) : Int) ∧
 ∃ (t26 : Int),
 H1.cell ((adr params2a).block) ((adr params2a).off + (0 : Int).toNat * 1) = some (.int .i64 t26) ∧
 cond (decide (t26 > 256)) (
 Q (.int .i64 71) H1) (
 Q (.int .i64 0) H1)))))) (
 cond ((program0 : List UInt8) == [116, 114, 105, 97, 110, 103, 108, 101, 115]) (
 FW Ee F_kern_None [.slice params2a params2l params2c] H1 fun v_1 H3 =>
 ∃ (r34 : Int),
 v_1 = .int .i64 r34 ∧
 Q (.int .i64 r34) H3) (
 cond ((program0 : List UInt8) == [109, 97, 116, 99, 104, 105, 110, 103]) (
 FW Ee F_kern_None [.slice params2a params2l params2c] H1 fun v_2 H4 =>
 ∃ (r34_1 : Int),
 v_2 = .int .i64 r34_1 ∧
 Q (.int .i64 r34_1) H4) (
 cond ((program0 : List UInt8) == [99, 111, 108, 111, 114, 115]) (
 FW Ee F_kern_None [.slice params2a params2l params2c] H1 fun v_3 H5 =>
 ∃ (r34_2 : Int),
 v_3 = .int .i64 r34_2 ∧
 Q (.int .i64 r34_2) H5) (
 ∃ (t36_Verticesa : Option Addr) (t36_Verticesl : Nat) (t36_Verticesc : Nat),
 H1.cell H.next (0 + 0) = some (.slice t36_Verticesa t36_Verticesl t36_Verticesc) ∧
 FW Ee F_kern_Check [.string ⟨⟨program0⟩⟩, .agg ⟨[.slice t36_Verticesa t36_Verticesl t36_Verticesc]⟩, .slice params2a params2l params2c] H1 fun v_4 H6 =>
 ∃ (r38 : Int),
 v_4 = .int .i64 r38 ∧
 Q (.int .i64 r38) H6)))))
set_option maxRecDepth 100000 in
theorem fw_more_Check {program0 : List UInt8} {g1_Verticesa : Option Addr} {g1_Verticesl : Nat} {g1_Verticesc : Nat} {params2a : Option Addr} {params2l : Nat} {params2c : Nat} {H : AH} {Q : Value → AH → Prop} (h : VC_more_Check program0 g1_Verticesa g1_Verticesl g1_Verticesc params2a params2l params2c H Q) : FW Ee F_more_Check [.string ⟨⟨program0⟩⟩, .agg ⟨[.slice g1_Verticesa g1_Verticesl g1_Verticesc]⟩, .slice params2a params2l params2c] H Q := by
  have e : VC_more_Check program0 g1_Verticesa g1_Verticesl g1_Verticesc params2a params2l params2c H Q = wpF Ee ⟨[], []⟩ F_more_Check [.string ⟨⟨program0⟩⟩, .agg ⟨[.slice g1_Verticesa g1_Verticesl g1_Verticesc]⟩, .slice params2a params2l params2c] H Q := by kernel_rfl
  letI : Sy := sy0
  exact wpF_sound (Eq.mp e h)
/-- cohort/cohortref07.Names -/
def VC_cohortref07_Names  (H : AH) (Q : Value → AH → Prop) : Prop :=
 ∀ (H1 : AH),
 H1 = H.new (.cells [.string ⟨⟨[98, 102, 115]⟩⟩, .string ⟨⟨[99, 99]⟩⟩, .string ⟨⟨[99, 111, 108, 111, 114, 115]⟩⟩, .string ⟨⟨[100, 101, 103, 114, 101, 101]⟩⟩, .string ⟨⟨[107, 99, 111, 114, 101]⟩⟩, .string ⟨⟨[108, 97, 98, 101, 108, 115]⟩⟩, .string ⟨⟨[109, 97, 116, 99, 104, 105, 110, 103]⟩⟩, .string ⟨⟨[112, 97, 103, 101, 114, 97, 110, 107]⟩⟩, .string ⟨⟨[115, 115, 115, 112]⟩⟩, .string ⟨⟨[116, 114, 105, 97, 110, 103, 108, 101, 115]⟩⟩] 0) →
 Q (.slice (some ⟨H.next, 0, none⟩) 10 20) H1
set_option maxRecDepth 100000 in
theorem fw_cohortref07_Names  {H : AH} {Q : Value → AH → Prop} (h : VC_cohortref07_Names  H Q) : FW Ee F_cohortref07_Names [] H Q := by
  have e : VC_cohortref07_Names  H Q = wpF Ee ⟨[], []⟩ F_cohortref07_Names [] H Q := by kernel_rfl
  letI : Sy := sy0
  exact wpF_sound (Eq.mp e h)
/-- cohort/cohortref07.Known -/
def VC_cohortref07_Known (s0 : List UInt8) (H : AH) (Q : Value → AH → Prop) : Prop :=
 FW Ee F_cohortref07_Names [] H fun v H1 =>
 ∃ (r5a : Option Addr) (r5l : Nat) (r5c : Nat),
 v = .slice r5a r5l r5c ∧
 ∃ (Inv : Nat → Bool → Int → AH → Prop),
 (
 ∃ (n_1 : Nat),
 Inv n_1 false 0 H1) ∧
 ∀ (n : Nat),
 ∀ (t2 : Bool) (i4 : Int) (H2 : AH),
 Inv n t2 i4 H2 →
 cond (decide (i4 < (((r5l : Nat) : Int)))) (
 grd r5a.isSome (
 (0 : Int) ≤ i4 ∧
 (i4 : Int) < ((r5l : Nat) : Int) ∧
 ∃ (t15 : List UInt8),
 H2.cell ((adr r5a).block) ((adr r5a).off + (i4 : Int).toNat * 1) = some (.string ⟨⟨t15⟩⟩) ∧
 cond ((t15 : List UInt8) == s0) (
 Q (.bool true) H2) (
 ∀ (t11 : Int),
 t11 = IntKind.i64.wrap (i4 + 1) →
 ∃ (m : Nat),
 m < n ∧
 Inv m t2 t11 H2))) (
 Q (.bool false) H2)
set_option maxRecDepth 100000 in
theorem fw_cohortref07_Known {s0 : List UInt8} {H : AH} {Q : Value → AH → Prop} (h : VC_cohortref07_Known s0 H Q) : FW Ee F_cohortref07_Known [.string ⟨⟨s0⟩⟩] H Q := by
  have e : VC_cohortref07_Known s0 H Q = wpF Ee ⟨[], []⟩ F_cohortref07_Known [.string ⟨⟨s0⟩⟩] H Q := by kernel_rfl
  letI : Sy := sy0
  exact wpF_sound (Eq.mp e h)
/-- cohort/cohortref07.Check -/
def VC_cohortref07_Check (program0 : List UInt8) (g1a : Option Addr) (g1l : Nat) (g1c : Nat) (p2a : Option Addr) (p2l : Nat) (p2c : Nat) (H : AH) (Q : Value → AH → Prop) : Prop :=
 cond ((program0 : List UInt8) == [98, 102, 115]) (
 cond ((((p2l : Nat) : Int)) != 1) (
 Q (.int .i64 71) H) (
 grd p2a.isSome (
 (0 : Int) ≤ 0 ∧
 (0 : Int) < ((p2l : Nat) : Int) ∧
 ∃ (t24 : Int),
 H.cell ((adr p2a).block) ((adr p2a).off + (0 : Int).toNat * 1) = some (.int .i64 t24) ∧
 FW Ee F_cohortref03_Find [.slice g1a g1l g1c, .int .i64 t24] H fun v H1 =>
 ∃ (r25_0 : Int) (r25_1 : Bool),
 v = .tuple ⟨[.int .i64 r25_0, .bool r25_1]⟩ ∧
 cond (!r25_1) (
 Q (.int .i64 71) H1) (
 ∃ (Inv : Nat → Int → Int → AH → Prop),
 (
 ∃ (n_1 : Nat),
 Inv n_1 0 0 H1) ∧
 ∀ (n : Nat),
 ∀ (t6 : Int) (i10 : Int) (H2 : AH),
 Inv n t6 i10 H2 →
 cond (decide (i10 < (((g1l : Nat) : Int)))) (
 cond ((program0 : List UInt8) == [115, 115, 115, 112]) (
 ∃ (Inv_1 : Nat → Int → Int → AH → Prop),
 (
 ∃ (n_3 : Nat),
 Inv_1 n_3 t6 0 H2) ∧
 ∀ (n_2 : Nat),
 ∀ (t6_1 : Int) (k11 : Int) (H3 : AH),
 Inv_1 n_2 t6_1 k11 H3 →
 grd g1a.isSome (
 (0 : Int) ≤ i10 ∧
 (i10 : Int) < ((g1l : Nat) : Int) ∧
 ∃ (t45a : Option Addr) (t45l : Nat) (t45c : Nat),
 H3.cell ((adr g1a).block) ((adr g1a).off + (i10 : Int).toNat * 3 + 2) = some (.slice t45a t45l t45c) ∧
 cond (decide (k11 < (((t45l : Nat) : Int)))) (
 grd g1a.isSome (
 (0 : Int) ≤ i10 ∧
 (i10 : Int) < ((g1l : Nat) : Int) ∧
 ∃ (t54a : Option Addr) (t54l : Nat) (t54c : Nat),
 H3.cell ((adr g1a).block) ((adr g1a).off + (i10 : Int).toNat * 3 + 2) = some (.slice t54a t54l t54c) ∧
 grd t54a.isSome (
 (0 : Int) ≤ k11 ∧
 (k11 : Int) < ((t54l : Nat) : Int) ∧
 ∃ (t58 : Int),
 H3.cell ((adr t54a).block) ((adr t54a).off + (k11 : Int).toNat * 2 + 1) = some (.int .i64 t58) ∧
 cond (decide (t58 < 0)) (
 Q (.int .i64 71) H3) (
 ∀ (t49 : Int),
 t49 = IntKind.i64.wrap (k11 + 1) →
 ∃ (m_1 : Nat),
 m_1 < n_2 ∧
 Inv_1 m_1 t6_1 t49 H3)))) (
 ∀ (t39 : Int),
 t39 = IntKind.i64.wrap (i10 + 1) →
 ∃ (m : Nat),
 m < n ∧
 Inv m t6_1 t39 H3))) (
 Q (.int .i64 0) H2)) (
 Q (.int .i64 0) H2))))) (
 cond ((program0 : List UInt8) == [115, 115, 115, 112]) (
 cond ((((p2l : Nat) : Int)) != 1) (
 Q (.int .i64 71) H) (
 grd p2a.isSome (
 (0 : Int) ≤ 0 ∧
 (0 : Int) < ((p2l : Nat) : Int) ∧
 ∃ (t24_1 : Int),
 H.cell ((adr p2a).block) ((adr p2a).off + (0 : Int).toNat * 1) = some (.int .i64 t24_1) ∧
 FW Ee F_cohortref03_Find [.slice g1a g1l g1c, .int .i64 t24_1] H fun v_1 H4 =>
 ∃ (r25_0_1 : Int) (r25_1_1 : Bool),
 v_1 = .tuple ⟨[.int .i64 r25_0_1, .bool r25_1_1]⟩ ∧
 cond (!r25_1_1) (
 Q (.int .i64 71) H4) (
 ∃ (Inv_2 : Nat → Int → Int → AH → Prop),
 (
 ∃ (n_5 : Nat),
 Inv_2 n_5 0 0 H4) ∧
 ∀ (n_4 : Nat),
 ∀ (t6_2 : Int) (i10_1 : Int) (H5 : AH),
 Inv_2 n_4 t6_2 i10_1 H5 →
 cond (decide (i10_1 < (((g1l : Nat) : Int)))) (
 cond ((program0 : List UInt8) == [115, 115, 115, 112]) (
 ∃ (Inv_3 : Nat → Int → Int → AH → Prop),
 (
 ∃ (n_7 : Nat),
 Inv_3 n_7 t6_2 0 H5) ∧
 ∀ (n_6 : Nat),
 ∀ (t6_3 : Int) (k11_1 : Int) (H6 : AH),
 Inv_3 n_6 t6_3 k11_1 H6 →
 grd g1a.isSome (
 (0 : Int) ≤ i10_1 ∧
 (i10_1 : Int) < ((g1l : Nat) : Int) ∧
 ∃ (t45a_1 : Option Addr) (t45l_1 : Nat) (t45c_1 : Nat),
 H6.cell ((adr g1a).block) ((adr g1a).off + (i10_1 : Int).toNat * 3 + 2) = some (.slice t45a_1 t45l_1 t45c_1) ∧
 cond (decide (k11_1 < (((t45l_1 : Nat) : Int)))) (
 grd g1a.isSome (
 (0 : Int) ≤ i10_1 ∧
 (i10_1 : Int) < ((g1l : Nat) : Int) ∧
 ∃ (t54a_1 : Option Addr) (t54l_1 : Nat) (t54c_1 : Nat),
 H6.cell ((adr g1a).block) ((adr g1a).off + (i10_1 : Int).toNat * 3 + 2) = some (.slice t54a_1 t54l_1 t54c_1) ∧
 grd t54a_1.isSome (
 (0 : Int) ≤ k11_1 ∧
 (k11_1 : Int) < ((t54l_1 : Nat) : Int) ∧
 ∃ (t58_1 : Int),
 H6.cell ((adr t54a_1).block) ((adr t54a_1).off + (k11_1 : Int).toNat * 2 + 1) = some (.int .i64 t58_1) ∧
 cond (decide (t58_1 < 0)) (
 Q (.int .i64 71) H6) (
 ∀ (t49_1 : Int),
 t49_1 = IntKind.i64.wrap (k11_1 + 1) →
 ∃ (m_3 : Nat),
 m_3 < n_6 ∧
 Inv_3 m_3 t6_3 t49_1 H6)))) (
 ∀ (t39_1 : Int),
 t39_1 = IntKind.i64.wrap (i10_1 + 1) →
 ∃ (m_2 : Nat),
 m_2 < n_4 ∧
 Inv_2 m_2 t6_3 t39_1 H6))) (
 Q (.int .i64 0) H5)) (
 Q (.int .i64 0) H5))))) (
 cond ((program0 : List UInt8) == [112, 97, 103, 101, 114, 97, 110, 107]) (
 cond ((((p2l : Nat) : Int)) != 1) (
 Q (.int .i64 71) H) (
 grd p2a.isSome (
 (0 : Int) ≤ 0 ∧
 (0 : Int) < ((p2l : Nat) : Int) ∧
 ∃ (t68 : Int),
 H.cell ((adr p2a).block) ((adr p2a).off + (0 : Int).toNat * 1) = some (.int .i64 t68) ∧
 cond (decide (t68 < 0)) (
 Q (.int .i64 71) H) (
 grd p2a.isSome (
 (0 : Int) ≤ 0 ∧
 (0 : Int) < ((p2l : Nat) : Int) ∧
 ∃ (t74 : Int),
 H.cell ((adr p2a).block) ((adr p2a).off + (0 : Int).toNat * 1) = some (.int .i64 t74) ∧
 cond (decide (t74 > 100)) (
 Q (.int .i64 71) H) (
 Q (.int .i64 0) H)))))) (
 cond ((program0 : List UInt8) == [108, 97, 98, 101, 108, 115]) (
 cond ((((p2l : Nat) : Int)) != 1) (
 Q (.int .i64 71) H) (
 grd p2a.isSome (
 (0 : Int) ≤ 0 ∧
 (0 : Int) < ((p2l : Nat) : Int) ∧
 ∃ (t68_1 : Int),
 H.cell ((adr p2a).block) ((adr p2a).off + (0 : Int).toNat * 1) = some (.int .i64 t68_1) ∧
 cond (decide (t68_1 < 0)) (
 Q (.int .i64 71) H) (
 grd p2a.isSome (
 (0 : Int) ≤ 0 ∧
 (0 : Int) < ((p2l : Nat) : Int) ∧
 ∃ (t74_1 : Int),
 H.cell ((adr p2a).block) ((adr p2a).off + (0 : Int).toNat * 1) = some (.int .i64 t74_1) ∧
 cond (decide (t74_1 > 100)) (
 Q (.int .i64 71) H) (
 Q (.int .i64 0) H)))))) (
 cond ((program0 : List UInt8) == [107, 99, 111, 114, 101]) (
 cond ((((p2l : Nat) : Int)) != 1) (
 Q (.int .i64 71) H) (
 grd p2a.isSome (
 (0 : Int) ≤ 0 ∧
 (0 : Int) < ((p2l : Nat) : Int) ∧
 ∃ (t84 : Int),
 H.cell ((adr p2a).block) ((adr p2a).off + (0 : Int).toNat * 1) = some (.int .i64 t84) ∧
 cond (decide (t84 < 0)) (
 Q (.int .i64 71) H) (
 grd p2a.isSome (
 (0 : Int) ≤ 0 ∧
 (0 : Int) < ((p2l : Nat) : Int) ∧
 ∃ (t90 : Int),
 H.cell ((adr p2a).block) ((adr p2a).off + (0 : Int).toNat * 1) = some (.int .i64 t90) ∧
 cond (decide (t90 > 256)) (
 Q (.int .i64 71) H) (
 Q (.int .i64 0) H)))))) (
 FW Ee F_cohortref07_Known [.string ⟨⟨program0⟩⟩] H fun v_2 H7 =>
 ∃ (r94 : Bool),
 v_2 = .bool r94 ∧
 cond (!r94) (
 Q (.int .i64 70) H7) (
 cond ((((p2l : Nat) : Int)) != 0) (
 Q (.int .i64 71) H7) (
 Q (.int .i64 0) H7)))))))
set_option maxRecDepth 100000 in
theorem fw_cohortref07_Check {program0 : List UInt8} {g1a : Option Addr} {g1l : Nat} {g1c : Nat} {p2a : Option Addr} {p2l : Nat} {p2c : Nat} {H : AH} {Q : Value → AH → Prop} (h : VC_cohortref07_Check program0 g1a g1l g1c p2a p2l p2c H Q) : FW Ee F_cohortref07_Check [.string ⟨⟨program0⟩⟩, .slice g1a g1l g1c, .slice p2a p2l p2c] H Q := by
  have e : VC_cohortref07_Check program0 g1a g1l g1c p2a p2l p2c H Q = wpF Ee ⟨[], []⟩ F_cohortref07_Check [.string ⟨⟨program0⟩⟩, .slice g1a g1l g1c, .slice p2a p2l p2c] H Q := by kernel_rfl
  letI : Sy := sy0
  exact wpF_sound (Eq.mp e h)
/-- cohort/run.Check -/
def VC_run_Check (j0_Program : List UInt8) (j0_Graph_Verticesa : Option Addr) (j0_Graph_Verticesl : Nat) (j0_Graph_Verticesc : Nat) (j0_Paramsa : Option Addr) (j0_Paramsl : Nat) (j0_Paramsc : Nat) (j0_Steps : Int) (j0_Sent : Int) (j0_Parts : Int) (H : AH) (Q : Value → AH → Prop) : Prop :=
 ∀ (H1 : AH),
 H1 = H.new (.cells [.string ⟨⟨j0_Program⟩⟩, .slice j0_Graph_Verticesa j0_Graph_Verticesl j0_Graph_Verticesc, .slice j0_Paramsa j0_Paramsl j0_Paramsc, .int .i64 j0_Steps, .int .i64 j0_Sent, .int .i64 j0_Parts] 0) →
 ∃ (t6 : List UInt8),
 H1.cell H.next 0 = some (.string ⟨⟨t6⟩⟩) ∧
 FW Ee F_more_Known [.string ⟨⟨t6⟩⟩] H1 fun v H2 =>
 ∃ (r7 : Bool),
 v = .bool r7 ∧
 cond (!r7) (
 Q (.int .i64 70) H2) (
 ∃ (t10_Verticesa : Option Addr) (t10_Verticesl : Nat) (t10_Verticesc : Nat),
 H2.cell H.next (1 + 0) = some (.slice t10_Verticesa t10_Verticesl t10_Verticesc) ∧
 FW Ee F_graph_Check [.agg ⟨[.slice t10_Verticesa t10_Verticesl t10_Verticesc]⟩] H2 fun v_1 H3 =>
 ∃ (r11 : Int),
 v_1 = .int .i64 r11 ∧
 cond (r11 != 0) (
 Q (.int .i64 r11) H3) (
 ∃ (t16a : Option Addr) (t16l : Nat) (t16c : Nat),
 H3.cell H.next 2 = some (.slice t16a t16l t16c) ∧
 cond (decide ((((t16l : Nat) : Int)) > 4)) (
 Q (.int .i64 71) H3) (
 ∃ (t20 : List UInt8),
 H3.cell H.next 0 = some (.string ⟨⟨t20⟩⟩) ∧
 ∃ (t22_Verticesa : Option Addr) (t22_Verticesl : Nat) (t22_Verticesc : Nat),
 H3.cell H.next (1 + 0) = some (.slice t22_Verticesa t22_Verticesl t22_Verticesc) ∧
 ∃ (t24a : Option Addr) (t24l : Nat) (t24c : Nat),
 H3.cell H.next 2 = some (.slice t24a t24l t24c) ∧
 FW Ee F_more_Check [.string ⟨⟨t20⟩⟩, .agg ⟨[.slice t22_Verticesa t22_Verticesl t22_Verticesc]⟩, .slice t24a t24l t24c] H3 fun v_2 H4 =>
 ∃ (r25 : Int),
 v_2 = .int .i64 r25 ∧
 cond (r25 != 0) (
 Q (.int .i64 r25) H4) (
 ∃ (t30 : Int),
 H4.cell H.next 3 = some (.int .i64 t30) ∧
 cond (decide (t30 < 1)) (
 Q (.int .i64 90) H4) (
 ∃ (t34 : Int),
 H4.cell H.next 3 = some (.int .i64 t34) ∧
 cond (decide (t34 > 1000)) (
 Q (.int .i64 90) H4) (
 ∃ (t39 : Int),
 H4.cell H.next 4 = some (.int .i64 t39) ∧
 cond (decide (t39 < 0)) (
 Q (.int .i64 90) H4) (
 ∃ (t44 : Int),
 H4.cell H.next 4 = some (.int .i64 t44) ∧
 cond (decide (t44 > 65536)) (
 Q (.int .i64 90) H4) (
 ∃ (t49 : Int),
 H4.cell H.next 5 = some (.int .i64 t49) ∧
 cond (decide (t49 < 1)) (
 Q (.int .i64 90) H4) (
 ∃ (t54 : Int),
 H4.cell H.next 5 = some (.int .i64 t54) ∧
 cond (decide (t54 > 16)) (
 Q (.int .i64 90) H4) (
 Q (.int .i64 0) H4))))))))))
set_option maxRecDepth 100000 in
theorem fw_run_Check {j0_Program : List UInt8} {j0_Graph_Verticesa : Option Addr} {j0_Graph_Verticesl : Nat} {j0_Graph_Verticesc : Nat} {j0_Paramsa : Option Addr} {j0_Paramsl : Nat} {j0_Paramsc : Nat} {j0_Steps : Int} {j0_Sent : Int} {j0_Parts : Int} {H : AH} {Q : Value → AH → Prop} (h : VC_run_Check j0_Program j0_Graph_Verticesa j0_Graph_Verticesl j0_Graph_Verticesc j0_Paramsa j0_Paramsl j0_Paramsc j0_Steps j0_Sent j0_Parts H Q) : FW Ee F_run_Check [.agg ⟨[.string ⟨⟨j0_Program⟩⟩, .slice j0_Graph_Verticesa j0_Graph_Verticesl j0_Graph_Verticesc, .slice j0_Paramsa j0_Paramsl j0_Paramsc, .int .i64 j0_Steps, .int .i64 j0_Sent, .int .i64 j0_Parts]⟩] H Q := by
  have e : VC_run_Check j0_Program j0_Graph_Verticesa j0_Graph_Verticesl j0_Graph_Verticesc j0_Paramsa j0_Paramsl j0_Paramsc j0_Steps j0_Sent j0_Parts H Q = wpF Ee ⟨[], []⟩ F_run_Check [.agg ⟨[.string ⟨⟨j0_Program⟩⟩, .slice j0_Graph_Verticesa j0_Graph_Verticesl j0_Graph_Verticesc, .slice j0_Paramsa j0_Paramsl j0_Paramsc, .int .i64 j0_Steps, .int .i64 j0_Sent, .int .i64 j0_Parts]⟩] H Q := by kernel_rfl
  letI : Sy := sy0
  exact wpF_sound (Eq.mp e h)
/-- cohort/cohortref09.Check -/
def VC_cohortref09_Check (j0_Program : List UInt8) (j0_Grapha : Option Addr) (j0_Graphl : Nat) (j0_Graphc : Nat) (j0_Paramsa : Option Addr) (j0_Paramsl : Nat) (j0_Paramsc : Nat) (j0_Steps : Int) (j0_Sent : Int) (j0_Parts : Int) (H : AH) (Q : Value → AH → Prop) : Prop :=
 ∀ (H1 : AH),
 H1 = H.new (.cells [.string ⟨⟨j0_Program⟩⟩, .slice j0_Grapha j0_Graphl j0_Graphc, .slice j0_Paramsa j0_Paramsl j0_Paramsc, .int .i64 j0_Steps, .int .i64 j0_Sent, .int .i64 j0_Parts] 0) →
 ∃ (t6 : List UInt8),
 H1.cell H.next 0 = some (.string ⟨⟨t6⟩⟩) ∧
 FW Ee F_cohortref07_Known [.string ⟨⟨t6⟩⟩] H1 fun v H2 =>
 ∃ (r7 : Bool),
 v = .bool r7 ∧
 cond (!r7) (
 Q (.int .i64 70) H2) (
 ∃ (t10a : Option Addr) (t10l : Nat) (t10c : Nat),
 H2.cell H.next 1 = some (.slice t10a t10l t10c) ∧
 FW Ee F_cohortref03_Check [.slice t10a t10l t10c] H2 fun v_1 H3 =>
 ∃ (r11 : Int),
 v_1 = .int .i64 r11 ∧
 cond (r11 != 0) (
 Q (.int .i64 r11) H3) (
 ∃ (t16a : Option Addr) (t16l : Nat) (t16c : Nat),
 H3.cell H.next 2 = some (.slice t16a t16l t16c) ∧
 cond (decide ((((t16l : Nat) : Int)) > 4)) (
 Q (.int .i64 71) H3) (
 ∃ (t20 : List UInt8),
 H3.cell H.next 0 = some (.string ⟨⟨t20⟩⟩) ∧
 ∃ (t22a : Option Addr) (t22l : Nat) (t22c : Nat),
 H3.cell H.next 1 = some (.slice t22a t22l t22c) ∧
 ∃ (t24a : Option Addr) (t24l : Nat) (t24c : Nat),
 H3.cell H.next 2 = some (.slice t24a t24l t24c) ∧
 FW Ee F_cohortref07_Check [.string ⟨⟨t20⟩⟩, .slice t22a t22l t22c, .slice t24a t24l t24c] H3 fun v_2 H4 =>
 ∃ (r25 : Int),
 v_2 = .int .i64 r25 ∧
 cond (r25 != 0) (
 Q (.int .i64 r25) H4) (
 ∃ (t30 : Int),
 H4.cell H.next 3 = some (.int .i64 t30) ∧
 cond (decide (t30 < 1)) (
 Q (.int .i64 90) H4) (
 ∃ (t34 : Int),
 H4.cell H.next 3 = some (.int .i64 t34) ∧
 cond (decide (t34 > 1000)) (
 Q (.int .i64 90) H4) (
 ∃ (t39 : Int),
 H4.cell H.next 4 = some (.int .i64 t39) ∧
 cond (decide (t39 < 0)) (
 Q (.int .i64 90) H4) (
 ∃ (t44 : Int),
 H4.cell H.next 4 = some (.int .i64 t44) ∧
 cond (decide (t44 > 65536)) (
 Q (.int .i64 90) H4) (
 ∃ (t49 : Int),
 H4.cell H.next 5 = some (.int .i64 t49) ∧
 cond (decide (t49 < 1)) (
 Q (.int .i64 90) H4) (
 ∃ (t54 : Int),
 H4.cell H.next 5 = some (.int .i64 t54) ∧
 cond (decide (t54 > 16)) (
 Q (.int .i64 90) H4) (
 Q (.int .i64 0) H4))))))))))
set_option maxRecDepth 100000 in
theorem fw_cohortref09_Check {j0_Program : List UInt8} {j0_Grapha : Option Addr} {j0_Graphl : Nat} {j0_Graphc : Nat} {j0_Paramsa : Option Addr} {j0_Paramsl : Nat} {j0_Paramsc : Nat} {j0_Steps : Int} {j0_Sent : Int} {j0_Parts : Int} {H : AH} {Q : Value → AH → Prop} (h : VC_cohortref09_Check j0_Program j0_Grapha j0_Graphl j0_Graphc j0_Paramsa j0_Paramsl j0_Paramsc j0_Steps j0_Sent j0_Parts H Q) : FW Ee F_cohortref09_Check [.agg ⟨[.string ⟨⟨j0_Program⟩⟩, .slice j0_Grapha j0_Graphl j0_Graphc, .slice j0_Paramsa j0_Paramsl j0_Paramsc, .int .i64 j0_Steps, .int .i64 j0_Sent, .int .i64 j0_Parts]⟩] H Q := by
  have e : VC_cohortref09_Check j0_Program j0_Grapha j0_Graphl j0_Graphc j0_Paramsa j0_Paramsl j0_Paramsc j0_Steps j0_Sent j0_Parts H Q = wpF Ee ⟨[], []⟩ F_cohortref09_Check [.agg ⟨[.string ⟨⟨j0_Program⟩⟩, .slice j0_Grapha j0_Graphl j0_Graphc, .slice j0_Paramsa j0_Paramsl j0_Paramsc, .int .i64 j0_Steps, .int .i64 j0_Sent, .int .i64 j0_Parts]⟩] H Q := by kernel_rfl
  letI : Sy := sy0
  exact wpF_sound (Eq.mp e h)
/-- cohort/cohortlaw09.Ref -/
def VC_cohortlaw09_Ref (j0_Program : List UInt8) (j0_Graph_Verticesa : Option Addr) (j0_Graph_Verticesl : Nat) (j0_Graph_Verticesc : Nat) (j0_Paramsa : Option Addr) (j0_Paramsl : Nat) (j0_Paramsc : Nat) (j0_Steps : Int) (j0_Sent : Int) (j0_Parts : Int) (H : AH) (Q : Value → AH → Prop) : Prop :=
 ∀ (H1 : AH),
 H1 = H.new (.cells [.string ⟨⟨j0_Program⟩⟩, .slice j0_Graph_Verticesa j0_Graph_Verticesl j0_Graph_Verticesc, .slice j0_Paramsa j0_Paramsl j0_Paramsc, .int .i64 j0_Steps, .int .i64 j0_Sent, .int .i64 j0_Parts] 0) →
 ∀ (H2 : AH),
 H2 = H1.new (.cells [.string ⟨⟨[]⟩⟩, .slice none 0 0, .slice none 0 0, .int .i64 0, .int .i64 0, .int .i64 0] 0) →
 ∃ (t4 : List UInt8),
 H2.cell H.next 0 = some (.string ⟨⟨t4⟩⟩) ∧
 ∃ (t6_Verticesa : Option Addr) (t6_Verticesl : Nat) (t6_Verticesc : Nat),
 H2.cell H.next (1 + 0) = some (.slice t6_Verticesa t6_Verticesl t6_Verticesc) ∧
 FW Ee F_cohortlaw03_Ref [.agg ⟨[.slice t6_Verticesa t6_Verticesl t6_Verticesc]⟩] H2 fun v H3 =>
 ∃ (r7a : Option Addr) (r7l : Nat) (r7c : Nat),
 v = .slice r7a r7l r7c ∧
 ∃ (t9a : Option Addr) (t9l : Nat) (t9c : Nat),
 H3.cell H.next 2 = some (.slice t9a t9l t9c) ∧
 ∃ (t11 : Int),
 H3.cell H.next 3 = some (.int .i64 t11) ∧
 ∃ (t13 : Int),
 H3.cell H.next 4 = some (.int .i64 t13) ∧
 ∃ (t15 : Int),
 H3.cell H.next 5 = some (.int .i64 t15) ∧
 ∃ (H4 : AH),
 storeCellsv H3 H1.next 0 [.string ⟨⟨t4⟩⟩, .slice r7a r7l r7c, .slice t9a t9l t9c, .int .i64 t11, .int .i64 t13, .int .i64 t15] = some H4 ∧
 H2.cell H.next 5 = some (.int .i64 t15) ∧
 H2.cell H.next 4 = some (.int .i64 t13) ∧
 H2.cell H.next 3 = some (.int .i64 t11) ∧
 H2.cell H.next 2 = some (.slice t9a t9l t9c) ∧
 H3.cell H.next 0 = some (.string ⟨⟨t4⟩⟩) ∧
 ∃ (r2_Program : List UInt8) (r2_Grapha : Option Addr) (r2_Graphl : Nat) (r2_Graphc : Nat) (r2_Paramsa : Option Addr) (r2_Paramsl : Nat) (r2_Paramsc : Nat) (r2_Steps : Int) (r2_Sent : Int) (r2_Parts : Int),
 H4.cell H1.next (0 + 0) = some (.string ⟨⟨r2_Program⟩⟩) ∧
 H4.cell H1.next (0 + 1) = some (.slice r2_Grapha r2_Graphl r2_Graphc) ∧
 H4.cell H1.next (0 + 2) = some (.slice r2_Paramsa r2_Paramsl r2_Paramsc) ∧
 H4.cell H1.next (0 + 3) = some (.int .i64 r2_Steps) ∧
 H4.cell H1.next (0 + 4) = some (.int .i64 r2_Sent) ∧
 H4.cell H1.next (0 + 5) = some (.int .i64 r2_Parts) ∧
 Q (.agg ⟨[.string ⟨⟨r2_Program⟩⟩, .slice r2_Grapha r2_Graphl r2_Graphc, .slice r2_Paramsa r2_Paramsl r2_Paramsc, .int .i64 r2_Steps, .int .i64 r2_Sent, .int .i64 r2_Parts]⟩) H4
set_option maxRecDepth 100000 in
theorem fw_cohortlaw09_Ref {j0_Program : List UInt8} {j0_Graph_Verticesa : Option Addr} {j0_Graph_Verticesl : Nat} {j0_Graph_Verticesc : Nat} {j0_Paramsa : Option Addr} {j0_Paramsl : Nat} {j0_Paramsc : Nat} {j0_Steps : Int} {j0_Sent : Int} {j0_Parts : Int} {H : AH} {Q : Value → AH → Prop} (h : VC_cohortlaw09_Ref j0_Program j0_Graph_Verticesa j0_Graph_Verticesl j0_Graph_Verticesc j0_Paramsa j0_Paramsl j0_Paramsc j0_Steps j0_Sent j0_Parts H Q) : FW Ee F_cohortlaw09_Ref [.agg ⟨[.string ⟨⟨j0_Program⟩⟩, .slice j0_Graph_Verticesa j0_Graph_Verticesl j0_Graph_Verticesc, .slice j0_Paramsa j0_Paramsl j0_Paramsc, .int .i64 j0_Steps, .int .i64 j0_Sent, .int .i64 j0_Parts]⟩] H Q := by
  have e : VC_cohortlaw09_Ref j0_Program j0_Graph_Verticesa j0_Graph_Verticesl j0_Graph_Verticesc j0_Paramsa j0_Paramsl j0_Paramsc j0_Steps j0_Sent j0_Parts H Q = wpF Ee ⟨[], []⟩ F_cohortlaw09_Ref [.agg ⟨[.string ⟨⟨j0_Program⟩⟩, .slice j0_Graph_Verticesa j0_Graph_Verticesl j0_Graph_Verticesc, .slice j0_Paramsa j0_Paramsl j0_Paramsc, .int .i64 j0_Steps, .int .i64 j0_Sent, .int .i64 j0_Parts]⟩] H Q := by kernel_rfl
  letI : Sy := sy0
  exact wpF_sound (Eq.mp e h)
/-- cohort/run.PutJob -/
def VC_run_PutJob (w0b : Nat) (j1_Program : List UInt8) (j1_Graph_Verticesa : Option Addr) (j1_Graph_Verticesl : Nat) (j1_Graph_Verticesc : Nat) (j1_Paramsa : Option Addr) (j1_Paramsl : Nat) (j1_Paramsc : Nat) (j1_Steps : Int) (j1_Sent : Int) (j1_Parts : Int) (H : AH) (Q : Value → AH → Prop) : Prop :=
 ∀ (H1 : AH),
 H1 = H.new (.cells [.string ⟨⟨j1_Program⟩⟩, .slice j1_Graph_Verticesa j1_Graph_Verticesl j1_Graph_Verticesc, .slice j1_Paramsa j1_Paramsl j1_Paramsc, .int .i64 j1_Steps, .int .i64 j1_Sent, .int .i64 j1_Parts] 0) →
 ∃ (t8 : List UInt8),
 H1.cell H.next 0 = some (.string ⟨⟨t8⟩⟩) ∧
 FW Ee F_wire_Writer_Text [.pointer (some ⟨w0b, 0, none⟩), .string ⟨⟨t8⟩⟩] H1 fun v H2 =>
 v = .tuple ⟨[]⟩ ∧
 ∃ (t12_Verticesa : Option Addr) (t12_Verticesl : Nat) (t12_Verticesc : Nat),
 H2.cell H.next (1 + 0) = some (.slice t12_Verticesa t12_Verticesl t12_Verticesc) ∧
 FW Ee F_graph_Put [.pointer (some ⟨w0b, 0, none⟩), .agg ⟨[.slice t12_Verticesa t12_Verticesl t12_Verticesc]⟩] H2 fun v_1 H3 =>
 v_1 = .tuple ⟨[]⟩ ∧
 ∃ (t16a : Option Addr) (t16l : Nat) (t16c : Nat),
 H3.cell H.next 2 = some (.slice t16a t16l t16c) ∧
 FW Ee F_wire_Writer_Count [.pointer (some ⟨w0b, 0, none⟩), .int .i64 (((t16l : Nat) : Int))] H3 fun v_2 H4 =>
 v_2 = .tuple ⟨[]⟩ ∧
 ∃ (t20a : Option Addr) (t20l : Nat) (t20c : Nat),
 H4.cell H.next 2 = some (.slice t20a t20l t20c) ∧
 ∃ (Inv : Nat → Int → AH → Prop),
 (
 ∃ (n_1 : Nat),
 Inv n_1 0 H4) ∧
 ∀ (n : Nat),
 ∀ (t22 : Int) (H5 : AH),
 Inv n t22 H5 →
 cond (decide (t22 < (((t20l : Nat) : Int)))) (
 grd t20a.isSome (
 (0 : Int) ≤ t22 ∧
 (t22 : Int) < ((t20l : Nat) : Int) ∧
 ∃ (t25 : Int),
 H5.cell ((adr t20a).block) ((adr t20a).off + (t22 : Int).toNat * 1) = some (.int .i64 t25) ∧
 FW Ee F_wire_Writer_Signed [.pointer (some ⟨w0b, 0, none⟩), .int .i64 t25] H5 fun v_3 H6 =>
 v_3 = .tuple ⟨[]⟩ ∧
 ∀ (t29 : Int),
 t29 = IntKind.i64.wrap (t22 + 1) →
 ∃ (m : Nat),
 m < n ∧
 Inv m t29 H6)) (
 ∃ (t32 : Int),
 H5.cell H.next 3 = some (.int .i64 t32) ∧
 FW Ee F_wire_Writer_Count [.pointer (some ⟨w0b, 0, none⟩), .int .i64 t32] H5 fun v_4 H7 =>
 v_4 = .tuple ⟨[]⟩ ∧
 ∃ (t36 : Int),
 H7.cell H.next 4 = some (.int .i64 t36) ∧
 FW Ee F_wire_Writer_Count [.pointer (some ⟨w0b, 0, none⟩), .int .i64 t36] H7 fun v_5 H8 =>
 v_5 = .tuple ⟨[]⟩ ∧
 ∃ (t40 : Int),
 H8.cell H.next 5 = some (.int .i64 t40) ∧
 FW Ee F_wire_Writer_Count [.pointer (some ⟨w0b, 0, none⟩), .int .i64 t40] H8 fun v_6 H9 =>
 v_6 = .tuple ⟨[]⟩ ∧
 Q (.tuple ⟨[]⟩) H9)
set_option maxRecDepth 100000 in
theorem fw_run_PutJob {w0b : Nat} {j1_Program : List UInt8} {j1_Graph_Verticesa : Option Addr} {j1_Graph_Verticesl : Nat} {j1_Graph_Verticesc : Nat} {j1_Paramsa : Option Addr} {j1_Paramsl : Nat} {j1_Paramsc : Nat} {j1_Steps : Int} {j1_Sent : Int} {j1_Parts : Int} {H : AH} {Q : Value → AH → Prop} (h : VC_run_PutJob w0b j1_Program j1_Graph_Verticesa j1_Graph_Verticesl j1_Graph_Verticesc j1_Paramsa j1_Paramsl j1_Paramsc j1_Steps j1_Sent j1_Parts H Q) : FW Ee F_run_PutJob [.pointer (some ⟨w0b, 0, none⟩), .agg ⟨[.string ⟨⟨j1_Program⟩⟩, .slice j1_Graph_Verticesa j1_Graph_Verticesl j1_Graph_Verticesc, .slice j1_Paramsa j1_Paramsl j1_Paramsc, .int .i64 j1_Steps, .int .i64 j1_Sent, .int .i64 j1_Parts]⟩] H Q := by
  have e : VC_run_PutJob w0b j1_Program j1_Graph_Verticesa j1_Graph_Verticesl j1_Graph_Verticesc j1_Paramsa j1_Paramsl j1_Paramsc j1_Steps j1_Sent j1_Parts H Q = wpF Ee ⟨[], []⟩ F_run_PutJob [.pointer (some ⟨w0b, 0, none⟩), .agg ⟨[.string ⟨⟨j1_Program⟩⟩, .slice j1_Graph_Verticesa j1_Graph_Verticesl j1_Graph_Verticesc, .slice j1_Paramsa j1_Paramsl j1_Paramsc, .int .i64 j1_Steps, .int .i64 j1_Sent, .int .i64 j1_Parts]⟩] H Q := by kernel_rfl
  letI : Sy := sy0
  exact wpF_sound (Eq.mp e h)
/-- cohort/run.TakeJob -/
def VC_run_TakeJob (r0b : Nat) (H : AH) (Q : Value → AH → Prop) : Prop :=
 ∀ (H1 : AH),
 H1 = H.new (.cells [.string ⟨⟨[]⟩⟩, .slice none 0 0, .slice none 0 0, .int .i64 0, .int .i64 0, .int .i64 0] 0) →
 FW Ee F_wire_Reader_Text [.pointer (some ⟨r0b, 0, none⟩)] H1 fun v H2 =>
 ∃ (r6 : List UInt8),
 v = .string ⟨⟨r6⟩⟩ ∧
 FW Ee F_graph_Take [.pointer (some ⟨r0b, 0, none⟩)] H2 fun v_1 H3 =>
 ∃ (r8_Verticesa : Option Addr) (r8_Verticesl : Nat) (r8_Verticesc : Nat),
 v_1 = .agg ⟨[.slice r8_Verticesa r8_Verticesl r8_Verticesc]⟩ ∧
 ∀ (H4 : AH),
 H4 = H3.new (.cells [.string ⟨⟨[]⟩⟩, .slice none 0 0, .slice none 0 0, .int .i64 0, .int .i64 0, .int .i64 0] 0) →
 ∃ (H5 : AH),
 storeCellsv H4 H3.next 0 [.string ⟨⟨r6⟩⟩, .slice r8_Verticesa r8_Verticesl r8_Verticesc, .slice none 0 0, .int .i64 0, .int .i64 0, .int .i64 0] = some H5 ∧
 FW Ee F_wire_Reader_Count [.pointer (some ⟨r0b, 0, none⟩), .int .i64 4] H5 fun v_2 H6 =>
 ∃ (r11 : Int),
 v_2 = .int .i64 r11 ∧
 ∃ (J_1 : Int → AH → Prop),
 (
 ∃ (Inv : Nat → Int → AH → Prop),
 (
 ∃ (n_1 : Nat),
 Inv n_1 r11 H6) ∧
 ∀ (n : Nat),
 ∀ (n4 : Int) (H7 : AH),
 Inv n n4 H7 →
 cond (decide (n4 > 0)) (
 FW Ee F_wire_Reader_Err [.pointer (some ⟨r0b, 0, none⟩)] H7 fun v_3 H8 =>
 ∃ (r16 : Int),
 v_3 = .int .i64 r16 ∧
 cond (r16 == 0) (
 ∃ (t22a : Option Addr) (t22l : Nat) (t22c : Nat),
 H8.cell H3.next 2 = some (.slice t22a t22l t22c) ∧
 FW Ee F_wire_Reader_Signed [.pointer (some ⟨r0b, 0, none⟩)] H8 fun v_4 H9 =>
 ∃ (r24 : Int),
 v_4 = .int .i64 r24 ∧
 ∀ (H10 : AH),
 H10 = H9.new (.cells [.int .i64 r24] 0) →
 ∃ (t26a : Option Addr) (t26l : Nat) (t26c : Nat) (H11 : AH),
 apnd H10 1 8 t22a t22l t22c (.slice (some ⟨H9.next, 0, none⟩) 1 2) = some (.slice t26a t26l t26c, H11) ∧
 ∃ (H12 : AH),
 storeCellsv H11 H3.next 2 [.slice t26a t26l t26c] = some H12 ∧
 H10.cell H3.next 2 = some (.slice t22a t22l t22c) ∧
 ∀ (t20 : Int),
 t20 = IntKind.i64.wrap (n4 - 1) →
 ∃ (m : Nat),
 m < n ∧
 Inv m t20 H12) (
 J_1 n4 H8)) (
 J_1 n4 H7)) ∧
 ∀ (n4_1 : Int) (H13 : AH),
 J_1 n4_1 H13 →
 FW Ee F_wire_Reader_Count [.pointer (some ⟨r0b, 0, none⟩), .int .i64 1000] H13 fun v_5 H14 =>
 ∃ (r29 : Int),
 v_5 = .int .i64 r29 ∧
 FW Ee F_wire_Reader_Count [.pointer (some ⟨r0b, 0, none⟩), .int .i64 65536] H14 fun v_6 H15 =>
 ∃ (r31 : Int),
 v_6 = .int .i64 r31 ∧
 FW Ee F_wire_Reader_Count [.pointer (some ⟨r0b, 0, none⟩), .int .i64 16] H15 fun v_7 H16 =>
 ∃ (r33 : Int),
 v_7 = .int .i64 r33 ∧
 ∃ (H17 : AH),
 storeCellsv H16 H3.next 3 [.int .i64 r29] = some H17 ∧
 ∃ (H18 : AH),
 storeCellsv H17 H3.next 4 [.int .i64 r31] = some H18 ∧
 ∃ (H19 : AH),
 storeCellsv H18 H3.next 5 [.int .i64 r33] = some H19 ∧
 FW Ee F_wire_Reader_Err [.pointer (some ⟨r0b, 0, none⟩)] H19 fun v_8 H20 =>
 ∃ (r38 : Int),
 v_8 = .int .i64 r38 ∧
 cond (r38 == 0) (
 ∃ (t41_Program : List UInt8) (t41_Graph_Verticesa : Option Addr) (t41_Graph_Verticesl : Nat) (t41_Graph_Verticesc : Nat) (t41_Paramsa : Option Addr) (t41_Paramsl : Nat) (t41_Paramsc : Nat) (t41_Steps : Int) (t41_Sent : Int) (t41_Parts : Int),
 H20.cell H3.next (0 + 0) = some (.string ⟨⟨t41_Program⟩⟩) ∧
 H20.cell H3.next (0 + 1) = some (.slice t41_Graph_Verticesa t41_Graph_Verticesl t41_Graph_Verticesc) ∧
 H20.cell H3.next (0 + 2) = some (.slice t41_Paramsa t41_Paramsl t41_Paramsc) ∧
 H20.cell H3.next (0 + 3) = some (.int .i64 t41_Steps) ∧
 H20.cell H3.next (0 + 4) = some (.int .i64 t41_Sent) ∧
 H20.cell H3.next (0 + 5) = some (.int .i64 t41_Parts) ∧
 FW Ee F_run_Check [.agg ⟨[.string ⟨⟨t41_Program⟩⟩, .slice t41_Graph_Verticesa t41_Graph_Verticesl t41_Graph_Verticesc, .slice t41_Paramsa t41_Paramsl t41_Paramsc, .int .i64 t41_Steps, .int .i64 t41_Sent, .int .i64 t41_Parts]⟩] H20 fun v_9 H21 =>
 ∃ (r42 : Int),
 v_9 = .int .i64 r42 ∧
 FW Ee F_wire_Reader_Fail [.pointer (some ⟨r0b, 0, none⟩), .int .i64 r42] H21 fun v_10 H22 =>
 v_10 = .tuple ⟨[]⟩ ∧
 ∃ (t44_Program : List UInt8) (t44_Graph_Verticesa : Option Addr) (t44_Graph_Verticesl : Nat) (t44_Graph_Verticesc : Nat) (t44_Paramsa : Option Addr) (t44_Paramsl : Nat) (t44_Paramsc : Nat) (t44_Steps : Int) (t44_Sent : Int) (t44_Parts : Int),
 H22.cell H3.next (0 + 0) = some (.string ⟨⟨t44_Program⟩⟩) ∧
 H22.cell H3.next (0 + 1) = some (.slice t44_Graph_Verticesa t44_Graph_Verticesl t44_Graph_Verticesc) ∧
 H22.cell H3.next (0 + 2) = some (.slice t44_Paramsa t44_Paramsl t44_Paramsc) ∧
 H22.cell H3.next (0 + 3) = some (.int .i64 t44_Steps) ∧
 H22.cell H3.next (0 + 4) = some (.int .i64 t44_Sent) ∧
 H22.cell H3.next (0 + 5) = some (.int .i64 t44_Parts) ∧
 ∃ (H23 : AH),
 storeCellsv H22 H.next 0 [.string ⟨⟨t44_Program⟩⟩, .slice t44_Graph_Verticesa t44_Graph_Verticesl t44_Graph_Verticesc, .slice t44_Paramsa t44_Paramsl t44_Paramsc, .int .i64 t44_Steps, .int .i64 t44_Sent, .int .i64 t44_Parts] = some H23 ∧
 ∃ (r2_Program : List UInt8) (r2_Graph_Verticesa : Option Addr) (r2_Graph_Verticesl : Nat) (r2_Graph_Verticesc : Nat) (r2_Paramsa : Option Addr) (r2_Paramsl : Nat) (r2_Paramsc : Nat) (r2_Steps : Int) (r2_Sent : Int) (r2_Parts : Int),
 H23.cell H.next (0 + 0) = some (.string ⟨⟨r2_Program⟩⟩) ∧
 H23.cell H.next (0 + 1) = some (.slice r2_Graph_Verticesa r2_Graph_Verticesl r2_Graph_Verticesc) ∧
 H23.cell H.next (0 + 2) = some (.slice r2_Paramsa r2_Paramsl r2_Paramsc) ∧
 H23.cell H.next (0 + 3) = some (.int .i64 r2_Steps) ∧
 H23.cell H.next (0 + 4) = some (.int .i64 r2_Sent) ∧
 H23.cell H.next (0 + 5) = some (.int .i64 r2_Parts) ∧
 Q (.agg ⟨[.string ⟨⟨r2_Program⟩⟩, .slice r2_Graph_Verticesa r2_Graph_Verticesl r2_Graph_Verticesc, .slice r2_Paramsa r2_Paramsl r2_Paramsc, .int .i64 r2_Steps, .int .i64 r2_Sent, .int .i64 r2_Parts]⟩) H23) (
 ∃ (t44_Program_1 : List UInt8) (t44_Graph_Verticesa_1 : Option Addr) (t44_Graph_Verticesl_1 : Nat) (t44_Graph_Verticesc_1 : Nat) (t44_Paramsa_1 : Option Addr) (t44_Paramsl_1 : Nat) (t44_Paramsc_1 : Nat) (t44_Steps_1 : Int) (t44_Sent_1 : Int) (t44_Parts_1 : Int),
 H20.cell H3.next (0 + 0) = some (.string ⟨⟨t44_Program_1⟩⟩) ∧
 H20.cell H3.next (0 + 1) = some (.slice t44_Graph_Verticesa_1 t44_Graph_Verticesl_1 t44_Graph_Verticesc_1) ∧
 H20.cell H3.next (0 + 2) = some (.slice t44_Paramsa_1 t44_Paramsl_1 t44_Paramsc_1) ∧
 H20.cell H3.next (0 + 3) = some (.int .i64 t44_Steps_1) ∧
 H20.cell H3.next (0 + 4) = some (.int .i64 t44_Sent_1) ∧
 H20.cell H3.next (0 + 5) = some (.int .i64 t44_Parts_1) ∧
 ∃ (H24 : AH),
 storeCellsv H20 H.next 0 [.string ⟨⟨t44_Program_1⟩⟩, .slice t44_Graph_Verticesa_1 t44_Graph_Verticesl_1 t44_Graph_Verticesc_1, .slice t44_Paramsa_1 t44_Paramsl_1 t44_Paramsc_1, .int .i64 t44_Steps_1, .int .i64 t44_Sent_1, .int .i64 t44_Parts_1] = some H24 ∧
 ∃ (r2_Program_1 : List UInt8) (r2_Graph_Verticesa_1 : Option Addr) (r2_Graph_Verticesl_1 : Nat) (r2_Graph_Verticesc_1 : Nat) (r2_Paramsa_1 : Option Addr) (r2_Paramsl_1 : Nat) (r2_Paramsc_1 : Nat) (r2_Steps_1 : Int) (r2_Sent_1 : Int) (r2_Parts_1 : Int),
 H24.cell H.next (0 + 0) = some (.string ⟨⟨r2_Program_1⟩⟩) ∧
 H24.cell H.next (0 + 1) = some (.slice r2_Graph_Verticesa_1 r2_Graph_Verticesl_1 r2_Graph_Verticesc_1) ∧
 H24.cell H.next (0 + 2) = some (.slice r2_Paramsa_1 r2_Paramsl_1 r2_Paramsc_1) ∧
 H24.cell H.next (0 + 3) = some (.int .i64 r2_Steps_1) ∧
 H24.cell H.next (0 + 4) = some (.int .i64 r2_Sent_1) ∧
 H24.cell H.next (0 + 5) = some (.int .i64 r2_Parts_1) ∧
 Q (.agg ⟨[.string ⟨⟨r2_Program_1⟩⟩, .slice r2_Graph_Verticesa_1 r2_Graph_Verticesl_1 r2_Graph_Verticesc_1, .slice r2_Paramsa_1 r2_Paramsl_1 r2_Paramsc_1, .int .i64 r2_Steps_1, .int .i64 r2_Sent_1, .int .i64 r2_Parts_1]⟩) H24)
set_option maxRecDepth 100000 in
theorem fw_run_TakeJob {r0b : Nat} {H : AH} {Q : Value → AH → Prop} (h : VC_run_TakeJob r0b H Q) : FW Ee F_run_TakeJob [.pointer (some ⟨r0b, 0, none⟩)] H Q := by
  have e : VC_run_TakeJob r0b H Q = wpF Ee ⟨[0], []⟩ F_run_TakeJob [.pointer (some ⟨r0b, 0, none⟩)] H Q := by kernel_rfl
  letI : Sy := sy0
  exact wpF_sound (Eq.mp e h)
/-- cohort/run.EncodeJob -/
def VC_run_EncodeJob (j0_Program : List UInt8) (j0_Graph_Verticesa : Option Addr) (j0_Graph_Verticesl : Nat) (j0_Graph_Verticesc : Nat) (j0_Paramsa : Option Addr) (j0_Paramsl : Nat) (j0_Paramsc : Nat) (j0_Steps : Int) (j0_Sent : Int) (j0_Parts : Int) (H : AH) (Q : Value → AH → Prop) : Prop :=
 ∀ (H1 : AH),
 H1 = H.new (.cells [.string ⟨⟨j0_Program⟩⟩, .slice j0_Graph_Verticesa j0_Graph_Verticesl j0_Graph_Verticesc, .slice j0_Paramsa j0_Paramsl j0_Paramsc, .int .i64 j0_Steps, .int .i64 j0_Sent, .int .i64 j0_Parts] 0) →
 ∃ (t6_Program : List UInt8) (t6_Graph_Verticesa : Option Addr) (t6_Graph_Verticesl : Nat) (t6_Graph_Verticesc : Nat) (t6_Paramsa : Option Addr) (t6_Paramsl : Nat) (t6_Paramsc : Nat) (t6_Steps : Int) (t6_Sent : Int) (t6_Parts : Int),
 H1.cell H.next (0 + 0) = some (.string ⟨⟨t6_Program⟩⟩) ∧
 H1.cell H.next (0 + 1) = some (.slice t6_Graph_Verticesa t6_Graph_Verticesl t6_Graph_Verticesc) ∧
 H1.cell H.next (0 + 2) = some (.slice t6_Paramsa t6_Paramsl t6_Paramsc) ∧
 H1.cell H.next (0 + 3) = some (.int .i64 t6_Steps) ∧
 H1.cell H.next (0 + 4) = some (.int .i64 t6_Sent) ∧
 H1.cell H.next (0 + 5) = some (.int .i64 t6_Parts) ∧
 FW Ee F_run_Check [.agg ⟨[.string ⟨⟨t6_Program⟩⟩, .slice t6_Graph_Verticesa t6_Graph_Verticesl t6_Graph_Verticesc, .slice t6_Paramsa t6_Paramsl t6_Paramsc, .int .i64 t6_Steps, .int .i64 t6_Sent, .int .i64 t6_Parts]⟩] H1 fun v H2 =>
 ∃ (r7 : Int),
 v = .int .i64 r7 ∧
 cond (r7 != 0) (
 Q (.tuple ⟨[.string ⟨⟨[]⟩⟩, .int .i64 r7]⟩) H2) (
 FW Ee F_wire_NewWriter [] H2 fun v_1 H3 =>
 ∃ (r11 : Option Addr),
 v_1 = .pointer r11 ∧
 ∃ (t13_Program : List UInt8) (t13_Graph_Verticesa : Option Addr) (t13_Graph_Verticesl : Nat) (t13_Graph_Verticesc : Nat) (t13_Paramsa : Option Addr) (t13_Paramsl : Nat) (t13_Paramsc : Nat) (t13_Steps : Int) (t13_Sent : Int) (t13_Parts : Int),
 H3.cell H.next (0 + 0) = some (.string ⟨⟨t13_Program⟩⟩) ∧
 H3.cell H.next (0 + 1) = some (.slice t13_Graph_Verticesa t13_Graph_Verticesl t13_Graph_Verticesc) ∧
 H3.cell H.next (0 + 2) = some (.slice t13_Paramsa t13_Paramsl t13_Paramsc) ∧
 H3.cell H.next (0 + 3) = some (.int .i64 t13_Steps) ∧
 H3.cell H.next (0 + 4) = some (.int .i64 t13_Sent) ∧
 H3.cell H.next (0 + 5) = some (.int .i64 t13_Parts) ∧
 FW Ee F_run_PutJob [.pointer r11, .agg ⟨[.string ⟨⟨t13_Program⟩⟩, .slice t13_Graph_Verticesa t13_Graph_Verticesl t13_Graph_Verticesc, .slice t13_Paramsa t13_Paramsl t13_Paramsc, .int .i64 t13_Steps, .int .i64 t13_Sent, .int .i64 t13_Parts]⟩] H3 fun v_2 H4 =>
 v_2 = .tuple ⟨[]⟩ ∧
 FW Ee F_wire_Writer_All [.pointer r11] H4 fun v_3 H5 =>
 ∃ (r16 : List UInt8),
 v_3 = .string ⟨⟨r16⟩⟩ ∧
 Q (.tuple ⟨[.string ⟨⟨r16⟩⟩, .int .i64 0]⟩) H5)
set_option maxRecDepth 100000 in
theorem fw_run_EncodeJob {j0_Program : List UInt8} {j0_Graph_Verticesa : Option Addr} {j0_Graph_Verticesl : Nat} {j0_Graph_Verticesc : Nat} {j0_Paramsa : Option Addr} {j0_Paramsl : Nat} {j0_Paramsc : Nat} {j0_Steps : Int} {j0_Sent : Int} {j0_Parts : Int} {H : AH} {Q : Value → AH → Prop} (h : VC_run_EncodeJob j0_Program j0_Graph_Verticesa j0_Graph_Verticesl j0_Graph_Verticesc j0_Paramsa j0_Paramsl j0_Paramsc j0_Steps j0_Sent j0_Parts H Q) : FW Ee F_run_EncodeJob [.agg ⟨[.string ⟨⟨j0_Program⟩⟩, .slice j0_Graph_Verticesa j0_Graph_Verticesl j0_Graph_Verticesc, .slice j0_Paramsa j0_Paramsl j0_Paramsc, .int .i64 j0_Steps, .int .i64 j0_Sent, .int .i64 j0_Parts]⟩] H Q := by
  have e : VC_run_EncodeJob j0_Program j0_Graph_Verticesa j0_Graph_Verticesl j0_Graph_Verticesc j0_Paramsa j0_Paramsl j0_Paramsc j0_Steps j0_Sent j0_Parts H Q = wpF Ee ⟨[], []⟩ F_run_EncodeJob [.agg ⟨[.string ⟨⟨j0_Program⟩⟩, .slice j0_Graph_Verticesa j0_Graph_Verticesl j0_Graph_Verticesc, .slice j0_Paramsa j0_Paramsl j0_Paramsc, .int .i64 j0_Steps, .int .i64 j0_Sent, .int .i64 j0_Parts]⟩] H Q := by kernel_rfl
  letI : Sy := sy0
  exact wpF_sound (Eq.mp e h)
/-- cohort/run.DecodeJob -/
def VC_run_DecodeJob (s0 : List UInt8) (H : AH) (Q : Value → AH → Prop) : Prop :=
 ∀ (H1 : AH),
 H1 = H.new (.cells [.string ⟨⟨[]⟩⟩, .slice none 0 0, .slice none 0 0, .int .i64 0, .int .i64 0, .int .i64 0] 0) →
 FW Ee F_wire_NewReader [.string ⟨⟨s0⟩⟩] H1 fun v H2 =>
 ∃ (r8 : Option Addr),
 v = .pointer r8 ∧
 FW Ee F_run_TakeJob [.pointer r8] H2 fun v_1 H3 =>
 ∃ (r10_Program : List UInt8) (r10_Graph_Verticesa : Option Addr) (r10_Graph_Verticesl : Nat) (r10_Graph_Verticesc : Nat) (r10_Paramsa : Option Addr) (r10_Paramsl : Nat) (r10_Paramsc : Nat) (r10_Steps : Int) (r10_Sent : Int) (r10_Parts : Int),
 v_1 = .agg ⟨[.string ⟨⟨r10_Program⟩⟩, .slice r10_Graph_Verticesa r10_Graph_Verticesl r10_Graph_Verticesc, .slice r10_Paramsa r10_Paramsl r10_Paramsc, .int .i64 r10_Steps, .int .i64 r10_Sent, .int .i64 r10_Parts]⟩ ∧
 ∀ (H4 : AH),
 H4 = H3.new (.cells [.string ⟨⟨[]⟩⟩, .slice none 0 0, .slice none 0 0, .int .i64 0, .int .i64 0, .int .i64 0] 0) →
 ∃ (H5 : AH),
 storeCellsv H4 H3.next 0 [.string ⟨⟨r10_Program⟩⟩, .slice r10_Graph_Verticesa r10_Graph_Verticesl r10_Graph_Verticesc, .slice r10_Paramsa r10_Paramsl r10_Paramsc, .int .i64 r10_Steps, .int .i64 r10_Sent, .int .i64 r10_Parts] = some H5 ∧
 FW Ee F_wire_Reader_End [.pointer r8] H5 fun v_2 H6 =>
 ∃ (r12 : Int),
 v_2 = .int .i64 r12 ∧
 cond (r12 != 0) (
 ∃ (H7 : AH),
 storeCellsv H6 H.next 0 [.string ⟨⟨[]⟩⟩, .slice none 0 0, .slice none 0 0, .int .i64 0, .int .i64 0, .int .i64 0] = some H7 ∧
 ∃ (r2_Program : List UInt8) (r2_Graph_Verticesa : Option Addr) (r2_Graph_Verticesl : Nat) (r2_Graph_Verticesc : Nat) (r2_Paramsa : Option Addr) (r2_Paramsl : Nat) (r2_Paramsc : Nat) (r2_Steps : Int) (r2_Sent : Int) (r2_Parts : Int),
 H7.cell H.next (0 + 0) = some (.string ⟨⟨r2_Program⟩⟩) ∧
 H7.cell H.next (0 + 1) = some (.slice r2_Graph_Verticesa r2_Graph_Verticesl r2_Graph_Verticesc) ∧
 H7.cell H.next (0 + 2) = some (.slice r2_Paramsa r2_Paramsl r2_Paramsc) ∧
 H7.cell H.next (0 + 3) = some (.int .i64 r2_Steps) ∧
 H7.cell H.next (0 + 4) = some (.int .i64 r2_Sent) ∧
 H7.cell H.next (0 + 5) = some (.int .i64 r2_Parts) ∧
 Q (.tuple ⟨[.agg ⟨[.string ⟨⟨r2_Program⟩⟩, .slice r2_Graph_Verticesa r2_Graph_Verticesl r2_Graph_Verticesc, .slice r2_Paramsa r2_Paramsl r2_Paramsc, .int .i64 r2_Steps, .int .i64 r2_Sent, .int .i64 r2_Parts]⟩, .int .i64 r12]⟩) H7) (
 ∃ (t17_Program : List UInt8) (t17_Graph_Verticesa : Option Addr) (t17_Graph_Verticesl : Nat) (t17_Graph_Verticesc : Nat) (t17_Paramsa : Option Addr) (t17_Paramsl : Nat) (t17_Paramsc : Nat) (t17_Steps : Int) (t17_Sent : Int) (t17_Parts : Int),
 H6.cell H3.next (0 + 0) = some (.string ⟨⟨t17_Program⟩⟩) ∧
 H6.cell H3.next (0 + 1) = some (.slice t17_Graph_Verticesa t17_Graph_Verticesl t17_Graph_Verticesc) ∧
 H6.cell H3.next (0 + 2) = some (.slice t17_Paramsa t17_Paramsl t17_Paramsc) ∧
 H6.cell H3.next (0 + 3) = some (.int .i64 t17_Steps) ∧
 H6.cell H3.next (0 + 4) = some (.int .i64 t17_Sent) ∧
 H6.cell H3.next (0 + 5) = some (.int .i64 t17_Parts) ∧
 ∃ (H8 : AH),
 storeCellsv H6 H.next 0 [.string ⟨⟨t17_Program⟩⟩, .slice t17_Graph_Verticesa t17_Graph_Verticesl t17_Graph_Verticesc, .slice t17_Paramsa t17_Paramsl t17_Paramsc, .int .i64 t17_Steps, .int .i64 t17_Sent, .int .i64 t17_Parts] = some H8 ∧
 ∃ (r2_Program_1 : List UInt8) (r2_Graph_Verticesa_1 : Option Addr) (r2_Graph_Verticesl_1 : Nat) (r2_Graph_Verticesc_1 : Nat) (r2_Paramsa_1 : Option Addr) (r2_Paramsl_1 : Nat) (r2_Paramsc_1 : Nat) (r2_Steps_1 : Int) (r2_Sent_1 : Int) (r2_Parts_1 : Int),
 H8.cell H.next (0 + 0) = some (.string ⟨⟨r2_Program_1⟩⟩) ∧
 H8.cell H.next (0 + 1) = some (.slice r2_Graph_Verticesa_1 r2_Graph_Verticesl_1 r2_Graph_Verticesc_1) ∧
 H8.cell H.next (0 + 2) = some (.slice r2_Paramsa_1 r2_Paramsl_1 r2_Paramsc_1) ∧
 H8.cell H.next (0 + 3) = some (.int .i64 r2_Steps_1) ∧
 H8.cell H.next (0 + 4) = some (.int .i64 r2_Sent_1) ∧
 H8.cell H.next (0 + 5) = some (.int .i64 r2_Parts_1) ∧
 Q (.tuple ⟨[.agg ⟨[.string ⟨⟨r2_Program_1⟩⟩, .slice r2_Graph_Verticesa_1 r2_Graph_Verticesl_1 r2_Graph_Verticesc_1, .slice r2_Paramsa_1 r2_Paramsl_1 r2_Paramsc_1, .int .i64 r2_Steps_1, .int .i64 r2_Sent_1, .int .i64 r2_Parts_1]⟩, .int .i64 0]⟩) H8)
set_option maxRecDepth 100000 in
theorem fw_run_DecodeJob {s0 : List UInt8} {H : AH} {Q : Value → AH → Prop} (h : VC_run_DecodeJob s0 H Q) : FW Ee F_run_DecodeJob [.string ⟨⟨s0⟩⟩] H Q := by
  have e : VC_run_DecodeJob s0 H Q = wpF Ee ⟨[], []⟩ F_run_DecodeJob [.string ⟨⟨s0⟩⟩] H Q := by kernel_rfl
  letI : Sy := sy0
  exact wpF_sound (Eq.mp e h)
end Go.Proofs.Cx

namespace Go.Proofs.Cx
open Go Go.Ev
set_option linter.unusedVariables false
set_option maxRecDepth 100000
set_option maxHeartbeats 8000000
/-- (*cohort/wire.Writer).Bool -/
def VC_wire_Writer_Bool (w0b : Nat) (b1 : Bool) (H : AH) (Q : Value → AH → Prop) : Prop :=
 cond (b1) (
 FW Ee F_wire_Writer_Number [.pointer (some ⟨w0b, 0, none⟩), .int .u64 1] H fun v H1 =>
 v = .tuple ⟨[]⟩ ∧
 Q (.tuple ⟨[]⟩) H1) (
 FW Ee F_wire_Writer_Number [.pointer (some ⟨w0b, 0, none⟩), .int .u64 0] H fun v_1 H2 =>
 v_1 = .tuple ⟨[]⟩ ∧
 Q (.tuple ⟨[]⟩) H2)
set_option maxRecDepth 100000 in
theorem fw_wire_Writer_Bool {w0b : Nat} {b1 : Bool} {H : AH} {Q : Value → AH → Prop} (h : VC_wire_Writer_Bool w0b b1 H Q) : FW Ee F_wire_Writer_Bool [.pointer (some ⟨w0b, 0, none⟩), .bool b1] H Q := by
  have e : VC_wire_Writer_Bool w0b b1 H Q = wpF Ee ⟨[], []⟩ F_wire_Writer_Bool [.pointer (some ⟨w0b, 0, none⟩), .bool b1] H Q := by kernel_rfl
  letI : Sy := sy0
  exact wpF_sound (Eq.mp e h)
/-- cohort/agg.Put -/
def VC_agg_Put (w0b : Nat) (x1_Has_0 : Bool) (x1_Has_1 : Bool) (x1_Has_2 : Bool) (x1_Has_3 : Bool) (x1_Has_4 : Bool) (x1_V_0 : Int) (x1_V_1 : Int) (x1_V_2 : Int) (x1_V_3 : Int) (x1_V_4 : Int) (H : AH) (Q : Value → AH → Prop) : Prop :=
 ∀ (H1 : AH),
 H1 = H.new (.cells [.bool x1_Has_0, .bool x1_Has_1, .bool x1_Has_2, .bool x1_Has_3, .bool x1_Has_4, .int .i64 x1_V_0, .int .i64 x1_V_1, .int .i64 x1_V_2, .int .i64 x1_V_3, .int .i64 x1_V_4] 0) →
 ∃ (t7_0 : Bool) (t7_1 : Bool) (t7_2 : Bool) (t7_3 : Bool) (t7_4 : Bool),
 H1.cell H.next (0 + 0) = some (.bool t7_0) ∧
 H1.cell H.next (0 + 1) = some (.bool t7_1) ∧
 H1.cell H.next (0 + 2) = some (.bool t7_2) ∧
 H1.cell H.next (0 + 3) = some (.bool t7_3) ∧
 H1.cell H.next (0 + 4) = some (.bool t7_4) ∧
 ∃ (Inv : Nat → Int → AH → Prop),
 (
 ∃ (n_1 : Nat),
 Inv n_1 0 H1) ∧
 ∀ (n : Nat),
 ∀ (t8 : Int) (H2 : AH),
 Inv n t8 H2 →
 cond (decide (t8 < 5)) (
 ∃ (t11_1 : Bool),
 indexv Ee T_5_bool (.agg ⟨[.bool t7_0, .bool t7_1, .bool t7_2, .bool t7_3, .bool t7_4]⟩) (.int .i64 t8) = some (.bool t11_1) ∧
 FW Ee F_wire_Writer_Bool [.pointer (some ⟨w0b, 0, none⟩), .bool t11_1] H2 fun v H3 =>
 v = .tuple ⟨[]⟩ ∧
 cond (t11_1) (
 (0 : Int) ≤ t8 ∧
 (t8 : Int) < ((5 : Nat) : Int) ∧
 ∃ (t20 : Int),
 H3.cell H.next (5 + (t8 : Int).toNat * 1) = some (.int .i64 t20) ∧
 FW Ee F_wire_Writer_Signed [.pointer (some ⟨w0b, 0, none⟩), .int .i64 t20] H3 fun v_1 H4 =>
 v_1 = .tuple ⟨[]⟩ ∧
 ∀ (t22 : Int),
 t22 = IntKind.i64.wrap (t8 + 1) →
 ∃ (m : Nat),
 m < n ∧
 Inv m t22 H4) (
 ∀ (t22_1 : Int),
 t22_1 = IntKind.i64.wrap (t8 + 1) →
 ∃ (m : Nat),
 m < n ∧
 Inv m t22_1 H3)) (
 Q (.tuple ⟨[]⟩) H2)
set_option maxRecDepth 100000 in
theorem fw_agg_Put {w0b : Nat} {x1_Has_0 : Bool} {x1_Has_1 : Bool} {x1_Has_2 : Bool} {x1_Has_3 : Bool} {x1_Has_4 : Bool} {x1_V_0 : Int} {x1_V_1 : Int} {x1_V_2 : Int} {x1_V_3 : Int} {x1_V_4 : Int} {H : AH} {Q : Value → AH → Prop} (h : VC_agg_Put w0b x1_Has_0 x1_Has_1 x1_Has_2 x1_Has_3 x1_Has_4 x1_V_0 x1_V_1 x1_V_2 x1_V_3 x1_V_4 H Q) : FW Ee F_agg_Put [.pointer (some ⟨w0b, 0, none⟩), .agg ⟨[.bool x1_Has_0, .bool x1_Has_1, .bool x1_Has_2, .bool x1_Has_3, .bool x1_Has_4, .int .i64 x1_V_0, .int .i64 x1_V_1, .int .i64 x1_V_2, .int .i64 x1_V_3, .int .i64 x1_V_4]⟩] H Q := by
  have e : VC_agg_Put w0b x1_Has_0 x1_Has_1 x1_Has_2 x1_Has_3 x1_Has_4 x1_V_0 x1_V_1 x1_V_2 x1_V_3 x1_V_4 H Q = wpF Ee ⟨[], []⟩ F_agg_Put [.pointer (some ⟨w0b, 0, none⟩), .agg ⟨[.bool x1_Has_0, .bool x1_Has_1, .bool x1_Has_2, .bool x1_Has_3, .bool x1_Has_4, .int .i64 x1_V_0, .int .i64 x1_V_1, .int .i64 x1_V_2, .int .i64 x1_V_3, .int .i64 x1_V_4]⟩] H Q := by kernel_rfl
  letI : Sy := sy0
  exact wpF_sound (Eq.mp e h)
end Go.Proofs.Cx

namespace Go.Proofs.Cx
open Go Go.Ev
set_option linter.unusedVariables false
set_option maxRecDepth 100000
set_option maxHeartbeats 8000000
end Go.Proofs.Cx
