/- What calls come to, as formulas: printed by a program. -/
import Derived.Test.YtkkcknfeljgdcaaGreatVc0
namespace Go.Proofs.Cx
open Go Go.Ev
set_option linter.unusedVariables false
set_option maxRecDepth 100000
set_option maxHeartbeats 8000000
/-- cohort/wire.NewWriter -/
def VC_wire_NewWriter  (H : AH) (Q : Value → AH → Prop) : Prop :=
 ∀ (H1 : AH),
 H1 = H.new (.cells [.slice none 0 0] 0) →
 Q (.pointer (some ⟨H.next, 0, none⟩)) H1
set_option maxRecDepth 100000 in
theorem fw_wire_NewWriter  {H : AH} {Q : Value → AH → Prop} (h : VC_wire_NewWriter  H Q) : FW Ee F_wire_NewWriter [] H Q := by
  have e : VC_wire_NewWriter  H Q = wpF Ee ⟨[], []⟩ F_wire_NewWriter [] H Q := by kernel_rfl
  letI : Sy := sy0
  exact wpF_sound (Eq.mp e h)
/-- cohort/wire.NewReader -/
def VC_wire_NewReader (s0 : List UInt8) (H : AH) (Q : Value → AH → Prop) : Prop :=
 ∀ (H1 : AH),
 H1 = H.new (.cells [.string ⟨⟨s0⟩⟩, .int .i64 0, .int .i64 0] 0) →
 Q (.pointer (some ⟨H.next, 0, none⟩)) H1
set_option maxRecDepth 100000 in
theorem fw_wire_NewReader {s0 : List UInt8} {H : AH} {Q : Value → AH → Prop} (h : VC_wire_NewReader s0 H Q) : FW Ee F_wire_NewReader [.string ⟨⟨s0⟩⟩] H Q := by
  have e : VC_wire_NewReader s0 H Q = wpF Ee ⟨[], []⟩ F_wire_NewReader [.string ⟨⟨s0⟩⟩] H Q := by kernel_rfl
  letI : Sy := sy0
  exact wpF_sound (Eq.mp e h)
/-- cohort/wire.Number -/
def VC_wire_Number (n0 : Int) (H : AH) (Q : Value → AH → Prop) : Prop :=
 ∃ (Inv : Nat → Option Addr → Nat → Nat → Int → AH → Prop),
 (
 ∃ (n_1 : Nat),
 Inv n_1 none 0 0 n0 H) ∧
 ∀ (n : Nat),
 ∀ (out3a : Option Addr) (out3l : Nat) (out3c : Nat) (n0_1 : Int) (H1 : AH),
 Inv n out3a out3l out3c n0_1 H1 →
 cond (decide (n0_1 > 127)) (
 ∀ (t8 : Int),
 t8 = IntKind.u8.wrap (n0_1) →
 ∀ (t9 : Int),
 t9 = ior .u8 t8 128 →
 ∀ (H2 : AH),
 H2 = H1.new (.cells [.int .u8 t9] 0) →
 ∃ (t11a : Option Addr) (t11l : Nat) (t11c : Nat) (H3 : AH),
 apnd H2 1 1 out3a out3l out3c (.slice (some ⟨H1.next, 0, none⟩) 1 2) = some (.slice t11a t11l t11c, H3) ∧
 (0 : Int) ≤ 7 ∧
 ∀ (t13 : Int),
 t13 = (n0_1 : Int).fdiv (2 ^ (min (7 : Int).toNat IntKind.u64.bits)) →
 ∃ (m : Nat),
 m < n ∧
 Inv m t11a t11l t11c t13 H3) (
 ∀ (t16 : Int),
 t16 = IntKind.u8.wrap (n0_1) →
 ∀ (H4 : AH),
 H4 = H1.new (.cells [.int .u8 t16] 0) →
 ∃ (t18a : Option Addr) (t18l : Nat) (t18c : Nat) (H5 : AH),
 apnd H4 1 1 out3a out3l out3c (.slice (some ⟨H1.next, 0, none⟩) 1 2) = some (.slice t18a t18l t18c, H5) ∧
 ∃ (t19 : List UInt8),
 bytesToStr Ee H5 T_L_uint8 T_string (.slice t18a t18l t18c) = some (.string ⟨⟨t19⟩⟩) ∧
 Q (.string ⟨⟨t19⟩⟩) H5)
set_option maxRecDepth 100000 in
theorem fw_wire_Number {n0 : Int} {H : AH} {Q : Value → AH → Prop} (h : VC_wire_Number n0 H Q) : FW Ee F_wire_Number [.int .u64 n0] H Q := by
  have e : VC_wire_Number n0 H Q = wpF Ee ⟨[], []⟩ F_wire_Number [.int .u64 n0] H Q := by kernel_rfl
  letI : Sy := sy0
  exact wpF_sound (Eq.mp e h)
/-- cohort/wire.Fold -/
def VC_wire_Fold (n0 : Int) (H : AH) (Q : Value → AH → Prop) : Prop :=
 ∀ (t4 : Int),
 t4 = IntKind.u64.wrap (n0) →
 (0 : Int) ≤ 1 ∧
 ∀ (t5 : Int),
 t5 = IntKind.u64.wrap ((t4 : Int) * 2 ^ (min (1 : Int).toNat IntKind.u64.bits)) →
 (0 : Int) ≤ 63 ∧
 ∀ (t7 : Int),
 t7 = (n0 : Int).fdiv (2 ^ (min (63 : Int).toNat IntKind.i64.bits)) →
 ∀ (t8 : Int),
 t8 = IntKind.u64.wrap (t7) →
 ∀ (t9 : Int),
 t9 = ixor .u64 t5 t8 →
 Q (.int .u64 t9) H
set_option maxRecDepth 100000 in
theorem fw_wire_Fold {n0 : Int} {H : AH} {Q : Value → AH → Prop} (h : VC_wire_Fold n0 H Q) : FW Ee F_wire_Fold [.int .i64 n0] H Q := by
  have e : VC_wire_Fold n0 H Q = wpF Ee ⟨[], []⟩ F_wire_Fold [.int .i64 n0] H Q := by kernel_rfl
  letI : Sy := sy0
  exact wpF_sound (Eq.mp e h)
/-- cohort/wire.Unfold -/
def VC_wire_Unfold (n0 : Int) (H : AH) (Q : Value → AH → Prop) : Prop :=
 (0 : Int) ≤ 1 ∧
 ∀ (t4 : Int),
 t4 = (n0 : Int).fdiv (2 ^ (min (1 : Int).toNat IntKind.u64.bits)) →
 ∀ (t5 : Int),
 t5 = IntKind.i64.wrap (t4) →
 ∀ (t7 : Int),
 t7 = iand .u64 n0 1 →
 ∀ (t8 : Int),
 t8 = IntKind.i64.wrap (t7) →
 ∀ (t9 : Int),
 t9 = IntKind.i64.wrap ((0 : Int) - t8) →
 ∀ (t10 : Int),
 t10 = ixor .i64 t5 t9 →
 Q (.int .i64 t10) H
set_option maxRecDepth 100000 in
theorem fw_wire_Unfold {n0 : Int} {H : AH} {Q : Value → AH → Prop} (h : VC_wire_Unfold n0 H Q) : FW Ee F_wire_Unfold [.int .u64 n0] H Q := by
  have e : VC_wire_Unfold n0 H Q = wpF Ee ⟨[], []⟩ F_wire_Unfold [.int .u64 n0] H Q := by kernel_rfl
  letI : Sy := sy0
  exact wpF_sound (Eq.mp e h)
/-- (*cohort/wire.Writer).Bytes -/
def VC_wire_Writer_Bytes (w0b : Nat) (s1 : List UInt8) (H : AH) (Q : Value → AH → Prop) : Prop :=
 ∃ (t10a : Option Addr) (t10l : Nat) (t10c : Nat),
 H.cell w0b 0 = some (.slice t10a t10l t10c) ∧
 ∃ (t12a : Option Addr) (t12l : Nat) (t12c : Nat) (H1 : AH),
 apnd H 1 1 t10a t10l t10c (.string ⟨⟨s1⟩⟩) = some (.slice t12a t12l t12c, H1) ∧
 ∃ (H2 : AH),
 storeCellsv H1 w0b 0 [.slice t12a t12l t12c] = some H2 ∧
 Q (.tuple ⟨[]⟩) H2
set_option maxRecDepth 100000 in
theorem fw_wire_Writer_Bytes {w0b : Nat} {s1 : List UInt8} {H : AH} {Q : Value → AH → Prop} (h : VC_wire_Writer_Bytes w0b s1 H Q) : FW Ee F_wire_Writer_Bytes [.pointer (some ⟨w0b, 0, none⟩), .string ⟨⟨s1⟩⟩] H Q := by
  have e : VC_wire_Writer_Bytes w0b s1 H Q = wpF Ee ⟨[], []⟩ F_wire_Writer_Bytes [.pointer (some ⟨w0b, 0, none⟩), .string ⟨⟨s1⟩⟩] H Q := by kernel_rfl
  letI : Sy := sy0
  exact wpF_sound (Eq.mp e h)
/-- (*cohort/wire.Writer).Number -/
def VC_wire_Writer_Number (w0b : Nat) (n1 : Int) (H : AH) (Q : Value → AH → Prop) : Prop :=
 FW Ee F_wire_Number [.int .u64 n1] H fun v H1 =>
 ∃ (r6 : List UInt8),
 v = .string ⟨⟨r6⟩⟩ ∧
 FW Ee F_wire_Writer_Bytes [.pointer (some ⟨w0b, 0, none⟩), .string ⟨⟨r6⟩⟩] H1 fun v_1 H2 =>
 v_1 = .tuple ⟨[]⟩ ∧
 Q (.tuple ⟨[]⟩) H2
set_option maxRecDepth 100000 in
theorem fw_wire_Writer_Number {w0b : Nat} {n1 : Int} {H : AH} {Q : Value → AH → Prop} (h : VC_wire_Writer_Number w0b n1 H Q) : FW Ee F_wire_Writer_Number [.pointer (some ⟨w0b, 0, none⟩), .int .u64 n1] H Q := by
  have e : VC_wire_Writer_Number w0b n1 H Q = wpF Ee ⟨[], []⟩ F_wire_Writer_Number [.pointer (some ⟨w0b, 0, none⟩), .int .u64 n1] H Q := by kernel_rfl
  letI : Sy := sy0
  exact wpF_sound (Eq.mp e h)
/-- (*cohort/wire.Writer).Signed -/
def VC_wire_Writer_Signed (w0b : Nat) (n1 : Int) (H : AH) (Q : Value → AH → Prop) : Prop :=
 FW Ee F_wire_Fold [.int .i64 n1] H fun v H1 =>
 ∃ (r6 : Int),
 v = .int .u64 r6 ∧
 FW Ee F_wire_Writer_Number [.pointer (some ⟨w0b, 0, none⟩), .int .u64 r6] H1 fun v_1 H2 =>
 v_1 = .tuple ⟨[]⟩ ∧
 Q (.tuple ⟨[]⟩) H2
set_option maxRecDepth 100000 in
theorem fw_wire_Writer_Signed {w0b : Nat} {n1 : Int} {H : AH} {Q : Value → AH → Prop} (h : VC_wire_Writer_Signed w0b n1 H Q) : FW Ee F_wire_Writer_Signed [.pointer (some ⟨w0b, 0, none⟩), .int .i64 n1] H Q := by
  have e : VC_wire_Writer_Signed w0b n1 H Q = wpF Ee ⟨[], []⟩ F_wire_Writer_Signed [.pointer (some ⟨w0b, 0, none⟩), .int .i64 n1] H Q := by kernel_rfl
  letI : Sy := sy0
  exact wpF_sound (Eq.mp e h)
/-- (*cohort/wire.Writer).Count -/
def VC_wire_Writer_Count (w0b : Nat) (n1 : Int) (H : AH) (Q : Value → AH → Prop) : Prop :=
 ∀ (t7 : Int),
 t7 = IntKind.u64.wrap (if (0 : Int) > n1 then 0 else n1) →
 FW Ee F_wire_Writer_Number [.pointer (some ⟨w0b, 0, none⟩), .int .u64 t7] H fun v H1 =>
 v = .tuple ⟨[]⟩ ∧
 Q (.tuple ⟨[]⟩) H1
set_option maxRecDepth 100000 in
theorem fw_wire_Writer_Count {w0b : Nat} {n1 : Int} {H : AH} {Q : Value → AH → Prop} (h : VC_wire_Writer_Count w0b n1 H Q) : FW Ee F_wire_Writer_Count [.pointer (some ⟨w0b, 0, none⟩), .int .i64 n1] H Q := by
  have e : VC_wire_Writer_Count w0b n1 H Q = wpF Ee ⟨[], []⟩ F_wire_Writer_Count [.pointer (some ⟨w0b, 0, none⟩), .int .i64 n1] H Q := by kernel_rfl
  letI : Sy := sy0
  exact wpF_sound (Eq.mp e h)
/-- (*cohort/wire.Writer).All -/
def VC_wire_Writer_All (w0b : Nat) (H : AH) (Q : Value → AH → Prop) : Prop :=
 ∃ (t8a : Option Addr) (t8l : Nat) (t8c : Nat),
 H.cell w0b 0 = some (.slice t8a t8l t8c) ∧
 ∃ (t9 : List UInt8),
 bytesToStr Ee H T_L_uint8 T_string (.slice t8a t8l t8c) = some (.string ⟨⟨t9⟩⟩) ∧
 Q (.string ⟨⟨t9⟩⟩) H
set_option maxRecDepth 100000 in
theorem fw_wire_Writer_All {w0b : Nat} {H : AH} {Q : Value → AH → Prop} (h : VC_wire_Writer_All w0b H Q) : FW Ee F_wire_Writer_All [.pointer (some ⟨w0b, 0, none⟩)] H Q := by
  have e : VC_wire_Writer_All w0b H Q = wpF Ee ⟨[], []⟩ F_wire_Writer_All [.pointer (some ⟨w0b, 0, none⟩)] H Q := by kernel_rfl
  letI : Sy := sy0
  exact wpF_sound (Eq.mp e h)
/-- (*cohort/wire.Reader).Err -/
def VC_wire_Reader_Err (r0b : Nat) (H : AH) (Q : Value → AH → Prop) : Prop :=
 ∃ (t8 : Int),
 H.cell r0b 2 = some (.int .i64 t8) ∧
 Q (.int .i64 t8) H
set_option maxRecDepth 100000 in
theorem fw_wire_Reader_Err {r0b : Nat} {H : AH} {Q : Value → AH → Prop} (h : VC_wire_Reader_Err r0b H Q) : FW Ee F_wire_Reader_Err [.pointer (some ⟨r0b, 0, none⟩)] H Q := by
  have e : VC_wire_Reader_Err r0b H Q = wpF Ee ⟨[], []⟩ F_wire_Reader_Err [.pointer (some ⟨r0b, 0, none⟩)] H Q := by kernel_rfl
  letI : Sy := sy0
  exact wpF_sound (Eq.mp e h)
/-- (*cohort/wire.Reader).At -/
def VC_wire_Reader_At (r0b : Nat) (H : AH) (Q : Value → AH → Prop) : Prop :=
 ∃ (t8 : Int),
 H.cell r0b 1 = some (.int .i64 t8) ∧
 Q (.int .i64 t8) H
set_option maxRecDepth 100000 in
theorem fw_wire_Reader_At {r0b : Nat} {H : AH} {Q : Value → AH → Prop} (h : VC_wire_Reader_At r0b H Q) : FW Ee F_wire_Reader_At [.pointer (some ⟨r0b, 0, none⟩)] H Q := by
  have e : VC_wire_Reader_At r0b H Q = wpF Ee ⟨[], []⟩ F_wire_Reader_At [.pointer (some ⟨r0b, 0, none⟩)] H Q := by kernel_rfl
  letI : Sy := sy0
  exact wpF_sound (Eq.mp e h)
/-- (*cohort/wire.Reader).Left -/
def VC_wire_Reader_Left (r0b : Nat) (H : AH) (Q : Value → AH → Prop) : Prop :=
 ∃ (t8 : List UInt8),
 H.cell r0b 0 = some (.string ⟨⟨t8⟩⟩) ∧
 ∃ (t13 : Int),
 H.cell r0b 1 = some (.int .i64 t13) ∧
 ∀ (t14 : Int),
 t14 = IntKind.i64.wrap (((((t8 : List UInt8).length : Nat) : Int)) - t13) →
 Q (.int .i64 t14) H
set_option maxRecDepth 100000 in
theorem fw_wire_Reader_Left {r0b : Nat} {H : AH} {Q : Value → AH → Prop} (h : VC_wire_Reader_Left r0b H Q) : FW Ee F_wire_Reader_Left [.pointer (some ⟨r0b, 0, none⟩)] H Q := by
  have e : VC_wire_Reader_Left r0b H Q = wpF Ee ⟨[], []⟩ F_wire_Reader_Left [.pointer (some ⟨r0b, 0, none⟩)] H Q := by kernel_rfl
  letI : Sy := sy0
  exact wpF_sound (Eq.mp e h)
/-- (*cohort/wire.Reader).Fail -/
def VC_wire_Reader_Fail (r0b : Nat) (e1 : Int) (H : AH) (Q : Value → AH → Prop) : Prop :=
 ∃ (t10 : Int),
 H.cell r0b 2 = some (.int .i64 t10) ∧
 cond (t10 == 0) (
 ∃ (H1 : AH),
 storeCellsv H r0b 2 [.int .i64 e1] = some H1 ∧
 Q (.tuple ⟨[]⟩) H1) (
 Q (.tuple ⟨[]⟩) H)
set_option maxRecDepth 100000 in
theorem fw_wire_Reader_Fail {r0b : Nat} {e1 : Int} {H : AH} {Q : Value → AH → Prop} (h : VC_wire_Reader_Fail r0b e1 H Q) : FW Ee F_wire_Reader_Fail [.pointer (some ⟨r0b, 0, none⟩), .int .i64 e1] H Q := by
  have e : VC_wire_Reader_Fail r0b e1 H Q = wpF Ee ⟨[], []⟩ F_wire_Reader_Fail [.pointer (some ⟨r0b, 0, none⟩), .int .i64 e1] H Q := by kernel_rfl
  letI : Sy := sy0
  exact wpF_sound (Eq.mp e h)
/-- (*cohort/wire.Reader).Number -/
def VC_wire_Reader_Number (r0b : Nat) (H : AH) (Q : Value → AH → Prop) : Prop :=
 FW Ee F_wire_Reader_Err [.pointer (some ⟨r0b, 0, none⟩)] H fun v H1 =>
 ∃ (r7 : Int),
 v = .int .i64 r7 ∧
 cond (r7 != 0) (
 Q (.int .u64 0) H1) (
 ∃ (Inv : Nat → Int → Int → Int → AH → Prop),
 (
 ∃ (n_1 : Nat),
 Inv n_1 0 0 0 H1) ∧
 ∀ (n : Nat),
 ∀ (t2 : Int) (n3 : Int) (t9 : Int) (H2 : AH),
 Inv n t2 n3 t9 H2 →
 cond (decide (t9 < 10)) (
 ∃ (t15 : Int),
 H2.cell r0b 1 = some (.int .i64 t15) ∧
 ∀ (t17 : Int),
 t17 = IntKind.i64.wrap (t15 + t9) →
 ∃ (t21 : List UInt8),
 H2.cell r0b 0 = some (.string ⟨⟨t21⟩⟩) ∧
 cond (decide (t17 ≥ ((((t21 : List UInt8).length : Nat) : Int)))) (
 ∃ (H3 : AH),
 storeCellsv H2 r0b 2 [.int .i64 4] = some H3 ∧
 Q (.int .u64 0) H3) (
 ∃ (t30 : List UInt8),
 H2.cell r0b 0 = some (.string ⟨⟨t30⟩⟩) ∧
 ∃ (t34 : Int),
 H2.cell r0b 1 = some (.int .i64 t34) ∧
 ∀ (t36 : Int),
 t36 = IntKind.i64.wrap (t34 + t9) →
 (0 : Int) ≤ t36 ∧
 (t36 : Int) < (((t30 : List UInt8).length : Nat) : Int) ∧
 cond (t9 == 9) (
 cond (decide ((byteAt t30 t36) > 1)) (
 ∃ (H4 : AH),
 storeCellsv H2 r0b 2 [.int .i64 6] = some H4 ∧
 Q (.int .u64 0) H4) (
 cond ((byteAt t30 t36) == 0) (
 cond (decide (t9 > 0)) (
 ∃ (H5 : AH),
 storeCellsv H2 r0b 2 [.int .i64 6] = some H5 ∧
 Q (.int .u64 0) H5) (
 ∀ (t57 : Int),
 t57 = iand .u8 (byteAt t30 t36) 127 →
 ∀ (t58 : Int),
 t58 = IntKind.u64.wrap (t57) →
 ∀ (t60 : Int),
 t60 = IntKind.i64.wrap (7 * t9) →
 (0 : Int) ≤ t60 ∧
 ∀ (t61 : Int),
 t61 = IntKind.u64.wrap ((t58 : Int) * 2 ^ (min (t60 : Int).toNat IntKind.u64.bits)) →
 ∀ (t62 : Int),
 t62 = ior .u64 n3 t61 →
 ∀ (t64 : Int),
 t64 = iand .u8 (byteAt t30 t36) 128 →
 cond (t64 == 0) (
 ∃ (t69 : Int),
 H2.cell r0b 1 = some (.int .i64 t69) ∧
 ∀ (t71 : Int),
 t71 = IntKind.i64.wrap (t9 + 1) →
 ∀ (t72 : Int),
 t72 = IntKind.i64.wrap (t69 + t71) →
 ∃ (H6 : AH),
 storeCellsv H2 r0b 1 [.int .i64 t72] = some H6 ∧
 Q (.int .u64 t62) H6) (
 ∀ (t76 : Int),
 t76 = IntKind.i64.wrap (t9 + 1) →
 ∃ (m : Nat),
 m < n ∧
 Inv m t2 t62 t76 H2))) (
 ∀ (t57_1 : Int),
 t57_1 = iand .u8 (byteAt t30 t36) 127 →
 ∀ (t58_1 : Int),
 t58_1 = IntKind.u64.wrap (t57_1) →
 ∀ (t60_1 : Int),
 t60_1 = IntKind.i64.wrap (7 * t9) →
 (0 : Int) ≤ t60_1 ∧
 ∀ (t61_1 : Int),
 t61_1 = IntKind.u64.wrap ((t58_1 : Int) * 2 ^ (min (t60_1 : Int).toNat IntKind.u64.bits)) →
 ∀ (t62_1 : Int),
 t62_1 = ior .u64 n3 t61_1 →
 ∀ (t64_1 : Int),
 t64_1 = iand .u8 (byteAt t30 t36) 128 →
 cond (t64_1 == 0) (
 ∃ (t69_1 : Int),
 H2.cell r0b 1 = some (.int .i64 t69_1) ∧
 ∀ (t71_1 : Int),
 t71_1 = IntKind.i64.wrap (t9 + 1) →
 ∀ (t72_1 : Int),
 t72_1 = IntKind.i64.wrap (t69_1 + t71_1) →
 ∃ (H7 : AH),
 storeCellsv H2 r0b 1 [.int .i64 t72_1] = some H7 ∧
 Q (.int .u64 t62_1) H7) (
 ∀ (t76_1 : Int),
 t76_1 = IntKind.i64.wrap (t9 + 1) →
 ∃ (m : Nat),
 m < n ∧
 Inv m t2 t62_1 t76_1 H2)))) (
 cond ((byteAt t30 t36) == 0) (
 cond (decide (t9 > 0)) (
 ∃ (H8 : AH),
 storeCellsv H2 r0b 2 [.int .i64 6] = some H8 ∧
 Q (.int .u64 0) H8) (
 ∀ (t57_2 : Int),
 t57_2 = iand .u8 (byteAt t30 t36) 127 →
 ∀ (t58_2 : Int),
 t58_2 = IntKind.u64.wrap (t57_2) →
 ∀ (t60_2 : Int),
 t60_2 = IntKind.i64.wrap (7 * t9) →
 (0 : Int) ≤ t60_2 ∧
 ∀ (t61_2 : Int),
 t61_2 = IntKind.u64.wrap ((t58_2 : Int) * 2 ^ (min (t60_2 : Int).toNat IntKind.u64.bits)) →
 ∀ (t62_2 : Int),
 t62_2 = ior .u64 n3 t61_2 →
 ∀ (t64_2 : Int),
 t64_2 = iand .u8 (byteAt t30 t36) 128 →
 cond (t64_2 == 0) (
 ∃ (t69_2 : Int),
 H2.cell r0b 1 = some (.int .i64 t69_2) ∧
 ∀ (t71_2 : Int),
 t71_2 = IntKind.i64.wrap (t9 + 1) →
 ∀ (t72_2 : Int),
 t72_2 = IntKind.i64.wrap (t69_2 + t71_2) →
 ∃ (H9 : AH),
 storeCellsv H2 r0b 1 [.int .i64 t72_2] = some H9 ∧
 Q (.int .u64 t62_2) H9) (
 ∀ (t76_2 : Int),
 t76_2 = IntKind.i64.wrap (t9 + 1) →
 ∃ (m : Nat),
 m < n ∧
 Inv m t2 t62_2 t76_2 H2))) (
 ∀ (t57_3 : Int),
 t57_3 = iand .u8 (byteAt t30 t36) 127 →
 ∀ (t58_3 : Int),
 t58_3 = IntKind.u64.wrap (t57_3) →
 ∀ (t60_3 : Int),
 t60_3 = IntKind.i64.wrap (7 * t9) →
 (0 : Int) ≤ t60_3 ∧
 ∀ (t61_3 : Int),
 t61_3 = IntKind.u64.wrap ((t58_3 : Int) * 2 ^ (min (t60_3 : Int).toNat IntKind.u64.bits)) →
 ∀ (t62_3 : Int),
 t62_3 = ior .u64 n3 t61_3 →
 ∀ (t64_3 : Int),
 t64_3 = iand .u8 (byteAt t30 t36) 128 →
 cond (t64_3 == 0) (
 ∃ (t69_3 : Int),
 H2.cell r0b 1 = some (.int .i64 t69_3) ∧
 ∀ (t71_3 : Int),
 t71_3 = IntKind.i64.wrap (t9 + 1) →
 ∀ (t72_3 : Int),
 t72_3 = IntKind.i64.wrap (t69_3 + t71_3) →
 ∃ (H10 : AH),
 storeCellsv H2 r0b 1 [.int .i64 t72_3] = some H10 ∧
 Q (.int .u64 t62_3) H10) (
 ∀ (t76_3 : Int),
 t76_3 = IntKind.i64.wrap (t9 + 1) →
 ∃ (m : Nat),
 m < n ∧
 Inv m t2 t62_3 t76_3 H2))))) (
 ∃ (H11 : AH),
 storeCellsv H2 r0b 2 [.int .i64 6] = some H11 ∧
 Q (.int .u64 0) H11))
set_option maxRecDepth 100000 in
theorem fw_wire_Reader_Number {r0b : Nat} {H : AH} {Q : Value → AH → Prop} (h : VC_wire_Reader_Number r0b H Q) : FW Ee F_wire_Reader_Number [.pointer (some ⟨r0b, 0, none⟩)] H Q := by
  have e : VC_wire_Reader_Number r0b H Q = wpF Ee ⟨[], []⟩ F_wire_Reader_Number [.pointer (some ⟨r0b, 0, none⟩)] H Q := by kernel_rfl
  letI : Sy := sy0
  exact wpF_sound (Eq.mp e h)
/-- (*cohort/wire.Reader).Signed -/
def VC_wire_Reader_Signed (r0b : Nat) (H : AH) (Q : Value → AH → Prop) : Prop :=
 FW Ee F_wire_Reader_Number [.pointer (some ⟨r0b, 0, none⟩)] H fun v H1 =>
 ∃ (r4 : Int),
 v = .int .u64 r4 ∧
 FW Ee F_wire_Unfold [.int .u64 r4] H1 fun v_1 H2 =>
 ∃ (r5 : Int),
 v_1 = .int .i64 r5 ∧
 Q (.int .i64 r5) H2
set_option maxRecDepth 100000 in
theorem fw_wire_Reader_Signed {r0b : Nat} {H : AH} {Q : Value → AH → Prop} (h : VC_wire_Reader_Signed r0b H Q) : FW Ee F_wire_Reader_Signed [.pointer (some ⟨r0b, 0, none⟩)] H Q := by
  have e : VC_wire_Reader_Signed r0b H Q = wpF Ee ⟨[], []⟩ F_wire_Reader_Signed [.pointer (some ⟨r0b, 0, none⟩)] H Q := by kernel_rfl
  letI : Sy := sy0
  exact wpF_sound (Eq.mp e h)
/-- (*cohort/wire.Reader).Count -/
def VC_wire_Reader_Count (r0b : Nat) (most1 : Int) (H : AH) (Q : Value → AH → Prop) : Prop :=
 FW Ee F_wire_Reader_At [.pointer (some ⟨r0b, 0, none⟩)] H fun v H1 =>
 ∃ (r8 : Int),
 v = .int .i64 r8 ∧
 FW Ee F_wire_Reader_Number [.pointer (some ⟨r0b, 0, none⟩)] H1 fun v_1 H2 =>
 ∃ (r10 : Int),
 v_1 = .int .u64 r10 ∧
 FW Ee F_wire_Reader_Err [.pointer (some ⟨r0b, 0, none⟩)] H2 fun v_2 H3 =>
 ∃ (r12 : Int),
 v_2 = .int .i64 r12 ∧
 cond (r12 != 0) (
 Q (.int .i64 0) H3) (
 cond (decide (most1 < 0)) (
 ∃ (H4 : AH),
 storeCellsv H3 r0b 1 [.int .i64 r8] = some H4 ∧
 ∃ (H5 : AH),
 storeCellsv H4 r0b 2 [.int .i64 5] = some H5 ∧
 Q (.int .i64 0) H5) (
 ∀ (t19 : Int),
 t19 = IntKind.u64.wrap (most1) →
 cond (decide (r10 > t19)) (
 ∃ (H6 : AH),
 storeCellsv H3 r0b 1 [.int .i64 r8] = some H6 ∧
 ∃ (H7 : AH),
 storeCellsv H6 r0b 2 [.int .i64 5] = some H7 ∧
 Q (.int .i64 0) H7) (
 ∀ (t30 : Int),
 t30 = IntKind.i64.wrap (r10) →
 Q (.int .i64 t30) H3)))
set_option maxRecDepth 100000 in
theorem fw_wire_Reader_Count {r0b : Nat} {most1 : Int} {H : AH} {Q : Value → AH → Prop} (h : VC_wire_Reader_Count r0b most1 H Q) : FW Ee F_wire_Reader_Count [.pointer (some ⟨r0b, 0, none⟩), .int .i64 most1] H Q := by
  have e : VC_wire_Reader_Count r0b most1 H Q = wpF Ee ⟨[], []⟩ F_wire_Reader_Count [.pointer (some ⟨r0b, 0, none⟩), .int .i64 most1] H Q := by kernel_rfl
  letI : Sy := sy0
  exact wpF_sound (Eq.mp e h)
/-- cmp.isNaN[int64] -/
def VC_cmp_isNaN_int64 (x0 : Int) (H : AH) (Q : Value → AH → Prop) : Prop :=
 Q (.bool (x0 != x0)) H
set_option maxRecDepth 100000 in
theorem fw_cmp_isNaN_int64 {x0 : Int} {H : AH} {Q : Value → AH → Prop} (h : VC_cmp_isNaN_int64 x0 H Q) : FW Ee F_cmp_isNaN_int64 [.int .i64 x0] H Q := by
  have e : VC_cmp_isNaN_int64 x0 H Q = wpF Ee ⟨[], []⟩ F_cmp_isNaN_int64 [.int .i64 x0] H Q := by kernel_rfl
  letI : Sy := sy0
  exact wpF_sound (Eq.mp e h)
/-- cmp.Compare[int64] -/
def VC_cmp_Compare_int64 (x0 : Int) (y1 : Int) (H : AH) (Q : Value → AH → Prop) : Prop :=
 FW Ee F_cmp_isNaN_int64 [.int .i64 x0] H fun v H1 =>
 ∃ (r8 : Bool),
 v = .bool r8 ∧
 FW Ee F_cmp_isNaN_int64 [.int .i64 y1] H1 fun v_1 H2 =>
 ∃ (r10 : Bool),
 v_1 = .bool r10 ∧
 cond (r8) (
 cond (r10) (
 Q (.int .i64 0) H2) (
 Q (.int .i64 (-1)) H2)) (
 cond (r10) (
 Q (.int .i64 1) H2) (
 cond (decide (x0 < y1)) (
 Q (.int .i64 (-1)) H2) (
 cond (decide (x0 > y1)) (
 Q (.int .i64 1) H2) (
 Q (.int .i64 0) H2))))
set_option maxRecDepth 100000 in
theorem fw_cmp_Compare_int64 {x0 : Int} {y1 : Int} {H : AH} {Q : Value → AH → Prop} (h : VC_cmp_Compare_int64 x0 y1 H Q) : FW Ee F_cmp_Compare_int64 [.int .i64 x0, .int .i64 y1] H Q := by
  have e : VC_cmp_Compare_int64 x0 y1 H Q = wpF Ee ⟨[], []⟩ F_cmp_Compare_int64 [.int .i64 x0, .int .i64 y1] H Q := by kernel_rfl
  letI : Sy := sy0
  exact wpF_sound (Eq.mp e h)
/-- cohort/graph.Find$1 -/
def VC_graph_Find_1 (v0_ID : Int) (v0_Value : Int) (v0_Edgesa : Option Addr) (v0_Edgesl : Nat) (v0_Edgesc : Nat) (id1 : Int) (H : AH) (Q : Value → AH → Prop) : Prop :=
 ∀ (H1 : AH),
 H1 = H.new (.cells [.int .i64 v0_ID, .int .i64 v0_Value, .slice v0_Edgesa v0_Edgesl v0_Edgesc] 0) →
 ∃ (t6 : Int),
 H1.cell H.next 0 = some (.int .i64 t6) ∧
 FW Ee F_cmp_Compare_int64 [.int .i64 t6, .int .i64 id1] H1 fun v H2 =>
 ∃ (r8 : Int),
 v = .int .i64 r8 ∧
 Q (.int .i64 r8) H2
set_option maxRecDepth 100000 in
theorem fw_graph_Find_1 {v0_ID : Int} {v0_Value : Int} {v0_Edgesa : Option Addr} {v0_Edgesl : Nat} {v0_Edgesc : Nat} {id1 : Int} {H : AH} {Q : Value → AH → Prop} (h : VC_graph_Find_1 v0_ID v0_Value v0_Edgesa v0_Edgesl v0_Edgesc id1 H Q) : FW Ee F_graph_Find_1 [.agg ⟨[.int .i64 v0_ID, .int .i64 v0_Value, .slice v0_Edgesa v0_Edgesl v0_Edgesc]⟩, .int .i64 id1] H Q := by
  have e : VC_graph_Find_1 v0_ID v0_Value v0_Edgesa v0_Edgesl v0_Edgesc id1 H Q = wpF Ee ⟨[], []⟩ F_graph_Find_1 [.agg ⟨[.int .i64 v0_ID, .int .i64 v0_Value, .slice v0_Edgesa v0_Edgesl v0_Edgesc]⟩, .int .i64 id1] H Q := by kernel_rfl
  letI : Sy := sy0
  exact wpF_sound (Eq.mp e h)
/-- slices.BinarySearchFunc[[]cohort/api.Vertex,cohort/api.Vertex,int64] -/
def VC_slices_BinarySearchFunc_L_api_Vertex_api_Vertex_int64 (x0a : Option Addr) (x0l : Nat) (x0c : Nat) (target1 : Int) (H : AH) (Q : Value → AH → Prop) : Prop :=
 ∃ (Inv : Nat → Int → Int → AH → Prop),
 (
 ∃ (n_1 : Nat),
 Inv n_1 0 (((x0l : Nat) : Int)) H) ∧
 ∀ (n : Nat),
 ∀ (i9 : Int) (j10 : Int) (H1 : AH),
 Inv n i9 j10 H1 →
 cond (decide (i9 < j10)) (
 ∀ (t20 : Int),
 t20 = IntKind.i64.wrap (i9 + j10) →
 ∀ (t21 : Int),
 t21 = IntKind.u64.wrap (t20) →
 (0 : Int) ≤ 1 ∧
 ∀ (t22 : Int),
 t22 = (t21 : Int).fdiv (2 ^ (min (1 : Int).toNat IntKind.u64.bits)) →
 ∀ (t23 : Int),
 t23 = IntKind.i64.wrap (t22) →
 grd x0a.isSome (
 (0 : Int) ≤ t23 ∧
 (t23 : Int) < ((x0l : Nat) : Int) ∧
 ∃ (t28_ID : Int) (t28_Value : Int) (t28_Edgesa : Option Addr) (t28_Edgesl : Nat) (t28_Edgesc : Nat),
 H1.cell ((adr x0a).block) ((adr x0a).off + (t23 : Int).toNat * 3 + 0) = some (.int .i64 t28_ID) ∧
 H1.cell ((adr x0a).block) ((adr x0a).off + (t23 : Int).toNat * 3 + 1) = some (.int .i64 t28_Value) ∧
 H1.cell ((adr x0a).block) ((adr x0a).off + (t23 : Int).toNat * 3 + 2) = some (.slice t28_Edgesa t28_Edgesl t28_Edgesc) ∧
 FW Ee F_graph_Find_1 [.agg ⟨[.int .i64 t28_ID, .int .i64 t28_Value, .slice t28_Edgesa t28_Edgesl t28_Edgesc]⟩, .int .i64 target1] H1 fun v H2 =>
 ∃ (r30 : Int),
 v = .int .i64 r30 ∧
 cond (decide (r30 < 0)) (
 ∀ (t33 : Int),
 t33 = IntKind.i64.wrap (t23 + 1) →
 ∃ (m : Nat),
 m < n ∧
 Inv m t33 j10 H2) (
 ∃ (m : Nat),
 m < n ∧
 Inv m i9 t23 H2))) (
 cond (decide (i9 < (((x0l : Nat) : Int)))) (
 grd x0a.isSome (
 (0 : Int) ≤ i9 ∧
 (i9 : Int) < ((x0l : Nat) : Int) ∧
 ∃ (t44_ID : Int) (t44_Value : Int) (t44_Edgesa : Option Addr) (t44_Edgesl : Nat) (t44_Edgesc : Nat),
 H1.cell ((adr x0a).block) ((adr x0a).off + (i9 : Int).toNat * 3 + 0) = some (.int .i64 t44_ID) ∧
 H1.cell ((adr x0a).block) ((adr x0a).off + (i9 : Int).toNat * 3 + 1) = some (.int .i64 t44_Value) ∧
 H1.cell ((adr x0a).block) ((adr x0a).off + (i9 : Int).toNat * 3 + 2) = some (.slice t44_Edgesa t44_Edgesl t44_Edgesc) ∧
 FW Ee F_graph_Find_1 [.agg ⟨[.int .i64 t44_ID, .int .i64 t44_Value, .slice t44_Edgesa t44_Edgesl t44_Edgesc]⟩, .int .i64 target1] H1 fun v_1 H3 =>
 ∃ (r46 : Int),
 v_1 = .int .i64 r46 ∧
 Q (.tuple ⟨[.int .i64 i9, .bool (r46 == 0)]⟩) H3)) (
 Q (.tuple ⟨[.int .i64 i9, .bool false]⟩) H1))
set_option maxRecDepth 100000 in
theorem fw_slices_BinarySearchFunc_L_api_Vertex_api_Vertex_int64 {x0a : Option Addr} {x0l : Nat} {x0c : Nat} {target1 : Int} {H : AH} {Q : Value → AH → Prop} (h : VC_slices_BinarySearchFunc_L_api_Vertex_api_Vertex_int64 x0a x0l x0c target1 H Q) : FW Ee F_slices_BinarySearchFunc_L_api_Vertex_api_Vertex_int64 [.slice x0a x0l x0c, .int .i64 target1, .func (.func F_graph_Find_1) ⟨[]⟩ ⟨[]⟩] H Q := by
  have e : VC_slices_BinarySearchFunc_L_api_Vertex_api_Vertex_int64 x0a x0l x0c target1 H Q = wpF Ee ⟨[], []⟩ F_slices_BinarySearchFunc_L_api_Vertex_api_Vertex_int64 [.slice x0a x0l x0c, .int .i64 target1, .func (.func F_graph_Find_1) ⟨[]⟩ ⟨[]⟩] H Q := by kernel_rfl
  letI : Sy := sy0
  exact wpF_sound (Eq.mp e h)
/-- cohort/graph.Find -/
def VC_graph_Find (g0_Verticesa : Option Addr) (g0_Verticesl : Nat) (g0_Verticesc : Nat) (id1 : Int) (H : AH) (Q : Value → AH → Prop) : Prop :=
 ∀ (H1 : AH),
 H1 = H.new (.cells [.slice g0_Verticesa g0_Verticesl g0_Verticesc] 0) →
 ∃ (t7a : Option Addr) (t7l : Nat) (t7c : Nat),
 H1.cell H.next 0 = some (.slice t7a t7l t7c) ∧
 FW Ee F_slices_BinarySearchFunc_L_api_Vertex_api_Vertex_int64 [.slice t7a t7l t7c, .int .i64 id1, .func (.func F_graph_Find_1) ⟨[]⟩ ⟨[]⟩] H1 fun v H2 =>
 ∃ (r9_0 : Int) (r9_1 : Bool),
 v = .tuple ⟨[.int .i64 r9_0, .bool r9_1]⟩ ∧
 Q (.tuple ⟨[.int .i64 r9_0, .bool r9_1]⟩) H2
set_option maxRecDepth 100000 in
theorem fw_graph_Find {g0_Verticesa : Option Addr} {g0_Verticesl : Nat} {g0_Verticesc : Nat} {id1 : Int} {H : AH} {Q : Value → AH → Prop} (h : VC_graph_Find g0_Verticesa g0_Verticesl g0_Verticesc id1 H Q) : FW Ee F_graph_Find [.agg ⟨[.slice g0_Verticesa g0_Verticesl g0_Verticesc]⟩, .int .i64 id1] H Q := by
  have e : VC_graph_Find g0_Verticesa g0_Verticesl g0_Verticesc id1 H Q = wpF Ee ⟨[], []⟩ F_graph_Find [.agg ⟨[.slice g0_Verticesa g0_Verticesl g0_Verticesc]⟩, .int .i64 id1] H Q := by kernel_rfl
  letI : Sy := sy0
  exact wpF_sound (Eq.mp e h)
/-- cohort/graph.All -/
def VC_graph_All (g0_Verticesa : Option Addr) (g0_Verticesl : Nat) (g0_Verticesc : Nat) (H : AH) (Q : Value → AH → Prop) : Prop :=
 ∀ (H1 : AH),
 H1 = H.new (.cells [.slice g0_Verticesa g0_Verticesl g0_Verticesc] 0) →
 Q (.func (.func F_graph_All_1) ⟨[]⟩ ⟨[.pointer (some ⟨H.next, 0, none⟩)]⟩) H1
set_option maxRecDepth 100000 in
theorem fw_graph_All {g0_Verticesa : Option Addr} {g0_Verticesl : Nat} {g0_Verticesc : Nat} {H : AH} {Q : Value → AH → Prop} (h : VC_graph_All g0_Verticesa g0_Verticesl g0_Verticesc H Q) : FW Ee F_graph_All [.agg ⟨[.slice g0_Verticesa g0_Verticesl g0_Verticesc]⟩] H Q := by
  have e : VC_graph_All g0_Verticesa g0_Verticesl g0_Verticesc H Q = wpF Ee ⟨[], []⟩ F_graph_All [.agg ⟨[.slice g0_Verticesa g0_Verticesl g0_Verticesc]⟩] H Q := by kernel_rfl
  letI : Sy := sy0
  exact wpF_sound (Eq.mp e h)
/-- cohort/graph.All$1 -/
def VC_graph_All_1 (yield0l : Nat) (t1b : Nat) (t1o : Nat) (H : AH) (Q : Value → AH → Prop) : Prop :=
 ∃ (t8a : Option Addr) (t8l : Nat) (t8c : Nat),
 H.cell t1b t1o = some (.slice t8a t8l t8c) ∧
 ∃ (Inv : Nat → Int → AH → Prop),
 (
 ∃ (n_1 : Nat),
 Inv n_1 0 H) ∧
 ∀ (n : Nat),
 ∀ (t10 : Int) (H1 : AH),
 Inv n t10 H1 →
 cond (decide (t10 < (((t8l : Nat) : Int)))) (
 grd t8a.isSome (
 (0 : Int) ≤ t10 ∧
 (t10 : Int) < ((t8l : Nat) : Int) ∧
 ∃ (t13_ID : Int) (t13_Value : Int) (t13_Edgesa : Option Addr) (t13_Edgesl : Nat) (t13_Edgesc : Nat),
 H1.cell ((adr t8a).block) ((adr t8a).off + (t10 : Int).toNat * 3 + 0) = some (.int .i64 t13_ID) ∧
 H1.cell ((adr t8a).block) ((adr t8a).off + (t10 : Int).toNat * 3 + 1) = some (.int .i64 t13_Value) ∧
 H1.cell ((adr t8a).block) ((adr t8a).off + (t10 : Int).toNat * 3 + 2) = some (.slice t13_Edgesa t13_Edgesl t13_Edgesc) ∧
 ∀ (H2 : AH),
 H2 = H1.new (.cells [.int .i64 0, .int .i64 0, .slice none 0 0] 0) →
 ∃ (H3 : AH),
 storeCellsv H2 H1.next 0 [.int .i64 t13_ID, .int .i64 t13_Value, .slice t13_Edgesa t13_Edgesl t13_Edgesc] = some H3 ∧
 ∃ (t15a : Option Addr) (t15l : Nat) (t15c : Nat),
 H3.cell H1.next 2 = some (.slice t15a t15l t15c) ∧
 ∃ (Inv_1 : Nat → Int → AH → Prop),
 (
 ∃ (n_3 : Nat),
 Inv_1 n_3 0 H3) ∧
 ∀ (n_2 : Nat),
 ∀ (t17 : Int) (H4 : AH),
 Inv_1 n_2 t17 H4 →
 cond (decide (t17 < (((t15l : Nat) : Int)))) (
 grd t15a.isSome (
 (0 : Int) ≤ t17 ∧
 (t17 : Int) < ((t15l : Nat) : Int) ∧
 ∃ (t20_To : Int) (t20_Weight : Int),
 H4.cell ((adr t15a).block) ((adr t15a).off + (t17 : Int).toNat * 2 + 0) = some (.int .i64 t20_To) ∧
 H4.cell ((adr t15a).block) ((adr t15a).off + (t17 : Int).toNat * 2 + 1) = some (.int .i64 t20_Weight) ∧
 ∀ (H5 : AH),
 H5 = H4.new (.cells [.int .i64 0, .int .i64 0] 0) →
 ∃ (H6 : AH),
 storeCellsv H5 H4.next 0 [.int .i64 t20_To, .int .i64 t20_Weight] = some H6 ∧
 ∃ (t23 : Int),
 H6.cell H1.next 0 = some (.int .i64 t23) ∧
 ∃ (t24_To : Int) (t24_Weight : Int),
 H6.cell H4.next (0 + 0) = some (.int .i64 t24_To) ∧
 H6.cell H4.next (0 + 1) = some (.int .i64 t24_Weight) ∧
 RW Ee yield0l [.int .i64 t23, .agg ⟨[.int .i64 t24_To, .int .i64 t24_Weight]⟩] H6 fun v H7 =>
 ∃ (t25 : Bool),
 v = .bool t25 ∧
 cond (!t25) (
 Q (.tuple ⟨[]⟩) H7) (
 ∀ (t27 : Int),
 t27 = IntKind.i64.wrap (t17 + 1) →
 ∃ (m_1 : Nat),
 m_1 < n_2 ∧
 Inv_1 m_1 t27 H7))) (
 ∀ (t28 : Int),
 t28 = IntKind.i64.wrap (t10 + 1) →
 ∃ (m : Nat),
 m < n ∧
 Inv m t28 H4))) (
 Q (.tuple ⟨[]⟩) H1)
set_option maxRecDepth 100000 in
theorem fw_graph_All_1 {yield0l : Nat} {t1b : Nat} {t1o : Nat} {H : AH} {Q : Value → AH → Prop} (h : VC_graph_All_1 yield0l t1b t1o H Q) : FW Ee F_graph_All_1 [.func (.yield yield0l) ⟨[]⟩ ⟨[]⟩, .pointer (some ⟨t1b, t1o, none⟩)] H Q := by
  have e : VC_graph_All_1 yield0l t1b t1o H Q = wpF Ee ⟨[], []⟩ F_graph_All_1 [.func (.yield yield0l) ⟨[]⟩ ⟨[]⟩, .pointer (some ⟨t1b, t1o, none⟩)] H Q := by kernel_rfl
  letI : Sy := sy0
  exact wpF_sound (Eq.mp e h)
/-- cohort/cohortref03.Find -/
def VC_cohortref03_Find (g0a : Option Addr) (g0l : Nat) (g0c : Nat) (id1 : Int) (H : AH) (Q : Value → AH → Prop) : Prop :=
 ∃ (Inv : Nat → Int → AH → Prop),
 (
 ∃ (n_1 : Nat),
 Inv n_1 0 H) ∧
 ∀ (n : Nat),
 ∀ (at6 : Int) (H1 : AH),
 Inv n at6 H1 →
 cond (decide (at6 < (((g0l : Nat) : Int)))) (
 grd g0a.isSome (
 (0 : Int) ≤ at6 ∧
 (at6 : Int) < ((g0l : Nat) : Int) ∧
 ∃ (t16 : Int),
 H1.cell ((adr g0a).block) ((adr g0a).off + (at6 : Int).toNat * 3) = some (.int .i64 t16) ∧
 cond (decide (t16 < id1)) (
 ∀ (t21 : Int),
 t21 = IntKind.i64.wrap (at6 + 1) →
 ∃ (m : Nat),
 m < n ∧
 Inv m t21 H1) (
 cond (decide (at6 < (((g0l : Nat) : Int)))) (
 grd g0a.isSome (
 (0 : Int) ≤ at6 ∧
 (at6 : Int) < ((g0l : Nat) : Int) ∧
 ∃ (t32 : Int),
 H1.cell ((adr g0a).block) ((adr g0a).off + (at6 : Int).toNat * 3) = some (.int .i64 t32) ∧
 Q (.tuple ⟨[.int .i64 at6, .bool (t32 == id1)]⟩) H1)) (
 Q (.tuple ⟨[.int .i64 at6, .bool false]⟩) H1)))) (
 cond (decide (at6 < (((g0l : Nat) : Int)))) (
 grd g0a.isSome (
 (0 : Int) ≤ at6 ∧
 (at6 : Int) < ((g0l : Nat) : Int) ∧
 ∃ (t32_1 : Int),
 H1.cell ((adr g0a).block) ((adr g0a).off + (at6 : Int).toNat * 3) = some (.int .i64 t32_1) ∧
 Q (.tuple ⟨[.int .i64 at6, .bool (t32_1 == id1)]⟩) H1)) (
 Q (.tuple ⟨[.int .i64 at6, .bool false]⟩) H1))
set_option maxRecDepth 100000 in
theorem fw_cohortref03_Find {g0a : Option Addr} {g0l : Nat} {g0c : Nat} {id1 : Int} {H : AH} {Q : Value → AH → Prop} (h : VC_cohortref03_Find g0a g0l g0c id1 H Q) : FW Ee F_cohortref03_Find [.slice g0a g0l g0c, .int .i64 id1] H Q := by
  have e : VC_cohortref03_Find g0a g0l g0c id1 H Q = wpF Ee ⟨[], []⟩ F_cohortref03_Find [.slice g0a g0l g0c, .int .i64 id1] H Q := by kernel_rfl
  letI : Sy := sy0
  exact wpF_sound (Eq.mp e h)
/-- cohort/cohortref03.Edges -/
def VC_cohortref03_Edges (g0a : Option Addr) (g0l : Nat) (g0c : Nat) (H : AH) (Q : Value → AH → Prop) : Prop :=
 ∃ (Inv : Nat → Int → Int → AH → Prop),
 (
 ∃ (n_1 : Nat),
 Inv n_1 0 0 H) ∧
 ∀ (n : Nat),
 ∀ (n3 : Int) (i4 : Int) (H1 : AH),
 Inv n n3 i4 H1 →
 cond (decide (i4 < (((g0l : Nat) : Int)))) (
 grd g0a.isSome (
 (0 : Int) ≤ i4 ∧
 (i4 : Int) < ((g0l : Nat) : Int) ∧
 ∃ (t16a : Option Addr) (t16l : Nat) (t16c : Nat),
 H1.cell ((adr g0a).block) ((adr g0a).off + (i4 : Int).toNat * 3 + 2) = some (.slice t16a t16l t16c) ∧
 ∀ (t18 : Int),
 t18 = IntKind.i64.wrap (n3 + (((t16l : Nat) : Int))) →
 ∀ (t10 : Int),
 t10 = IntKind.i64.wrap (i4 + 1) →
 ∃ (m : Nat),
 m < n ∧
 Inv m t18 t10 H1)) (
 Q (.int .i64 n3) H1)
set_option maxRecDepth 100000 in
theorem fw_cohortref03_Edges {g0a : Option Addr} {g0l : Nat} {g0c : Nat} {H : AH} {Q : Value → AH → Prop} (h : VC_cohortref03_Edges g0a g0l g0c H Q) : FW Ee F_cohortref03_Edges [.slice g0a g0l g0c] H Q := by
  have e : VC_cohortref03_Edges g0a g0l g0c H Q = wpF Ee ⟨[], []⟩ F_cohortref03_Edges [.slice g0a g0l g0c] H Q := by kernel_rfl
  letI : Sy := sy0
  exact wpF_sound (Eq.mp e h)
/-- cohort/cohortref03.Check -/
def VC_cohortref03_Check (g0a : Option Addr) (g0l : Nat) (g0c : Nat) (H : AH) (Q : Value → AH → Prop) : Prop :=
 cond (decide ((((g0l : Nat) : Int)) > 256)) (
 Q (.int .i64 30) H) (
 ∃ (Inv : Nat → Int → Int → AH → Prop),
 (
 ∃ (n_1 : Nat),
 Inv n_1 0 1 H) ∧
 ∀ (n : Nat),
 ∀ (t2 : Int) (i3 : Int) (H1 : AH),
 Inv n t2 i3 H1 →
 cond (decide (i3 < (((g0l : Nat) : Int)))) (
 ∀ (t20 : Int),
 t20 = IntKind.i64.wrap (i3 - 1) →
 grd g0a.isSome (
 (0 : Int) ≤ t20 ∧
 (t20 : Int) < ((g0l : Nat) : Int) ∧
 ∃ (t23 : Int),
 H1.cell ((adr g0a).block) ((adr g0a).off + (t20 : Int).toNat * 3) = some (.int .i64 t23) ∧
 grd g0a.isSome (
 (0 : Int) ≤ i3 ∧
 (i3 : Int) < ((g0l : Nat) : Int) ∧
 ∃ (t28 : Int),
 H1.cell ((adr g0a).block) ((adr g0a).off + (i3 : Int).toNat * 3) = some (.int .i64 t28) ∧
 cond (decide (t23 ≥ t28)) (
 Q (.int .i64 30) H1) (
 ∀ (t17 : Int),
 t17 = IntKind.i64.wrap (i3 + 1) →
 ∃ (m : Nat),
 m < n ∧
 Inv m t2 t17 H1)))) (
 FW Ee F_cohortref03_Edges [.slice g0a g0l g0c] H1 fun v H2 =>
 ∃ (r31 : Int),
 v = .int .i64 r31 ∧
 cond (decide (r31 > 2048)) (
 Q (.int .i64 31) H2) (
 ∃ (Inv_1 : Nat → Int → Int → AH → Prop),
 (
 ∃ (n_3 : Nat),
 Inv_1 n_3 t2 0 H2) ∧
 ∀ (n_2 : Nat),
 ∀ (t2_1 : Int) (i4 : Int) (H3 : AH),
 Inv_1 n_2 t2_1 i4 H3 →
 cond (decide (i4 < (((g0l : Nat) : Int)))) (
 grd g0a.isSome (
 (0 : Int) ≤ i4 ∧
 (i4 : Int) < ((g0l : Nat) : Int) ∧
 ∃ (t43a : Option Addr) (t43l : Nat) (t43c : Nat),
 H3.cell ((adr g0a).block) ((adr g0a).off + (i4 : Int).toNat * 3 + 2) = some (.slice t43a t43l t43c) ∧
 ∃ (Inv_2 : Nat → Int → Int → AH → Prop),
 (
 ∃ (n_5 : Nat),
 Inv_2 n_5 t2_1 0 H3) ∧
 ∀ (n_4 : Nat),
 ∀ (t2_2 : Int) (k6 : Int) (H4 : AH),
 Inv_2 n_4 t2_2 k6 H4 →
 cond (decide (k6 < (((t43l : Nat) : Int)))) (
 grd t43a.isSome (
 (0 : Int) ≤ k6 ∧
 (k6 : Int) < ((t43l : Nat) : Int) ∧
 ∃ (t56 : Int),
 H4.cell ((adr t43a).block) ((adr t43a).off + (k6 : Int).toNat * 2) = some (.int .i64 t56) ∧
 FW Ee F_cohortref03_Find [.slice g0a g0l g0c, .int .i64 t56] H4 fun v_1 H5 =>
 ∃ (r57_0 : Int) (r57_1 : Bool),
 v_1 = .tuple ⟨[.int .i64 r57_0, .bool r57_1]⟩ ∧
 cond (!r57_1) (
 Q (.int .i64 31) H5) (
 cond (decide (k6 > 0)) (
 ∀ (t68 : Int),
 t68 = IntKind.i64.wrap (k6 - 1) →
 grd t43a.isSome (
 (0 : Int) ≤ t68 ∧
 (t68 : Int) < ((t43l : Nat) : Int) ∧
 ∃ (t71 : Int),
 H5.cell ((adr t43a).block) ((adr t43a).off + (t68 : Int).toNat * 2) = some (.int .i64 t71) ∧
 grd t43a.isSome (
 (0 : Int) ≤ k6 ∧
 (k6 : Int) < ((t43l : Nat) : Int) ∧
 ∃ (t76 : Int),
 H5.cell ((adr t43a).block) ((adr t43a).off + (k6 : Int).toNat * 2) = some (.int .i64 t76) ∧
 cond (decide (t71 ≥ t76)) (
 Q (.int .i64 31) H5) (
 ∀ (t49 : Int),
 t49 = IntKind.i64.wrap (k6 + 1) →
 ∃ (m_2 : Nat),
 m_2 < n_4 ∧
 Inv_2 m_2 t2_2 t49 H5)))) (
 ∀ (t49_1 : Int),
 t49_1 = IntKind.i64.wrap (k6 + 1) →
 ∃ (m_2 : Nat),
 m_2 < n_4 ∧
 Inv_2 m_2 t2_2 t49_1 H5)))) (
 ∀ (t38 : Int),
 t38 = IntKind.i64.wrap (i4 + 1) →
 ∃ (m_1 : Nat),
 m_1 < n_2 ∧
 Inv_1 m_1 t2_2 t38 H4))) (
 Q (.int .i64 0) H3))))
set_option maxRecDepth 100000 in
theorem fw_cohortref03_Check {g0a : Option Addr} {g0l : Nat} {g0c : Nat} {H : AH} {Q : Value → AH → Prop} (h : VC_cohortref03_Check g0a g0l g0c H Q) : FW Ee F_cohortref03_Check [.slice g0a g0l g0c] H Q := by
  have e : VC_cohortref03_Check g0a g0l g0c H Q = wpF Ee ⟨[], []⟩ F_cohortref03_Check [.slice g0a g0l g0c] H Q := by kernel_rfl
  letI : Sy := sy0
  exact wpF_sound (Eq.mp e h)
/-- cohort/cohortlaw03.Ref -/
def VC_cohortlaw03_Ref (g0_Verticesa : Option Addr) (g0_Verticesl : Nat) (g0_Verticesc : Nat) (H : AH) (Q : Value → AH → Prop) : Prop :=
 ∀ (H1 : AH),
 H1 = H.new (.cells [.slice g0_Verticesa g0_Verticesl g0_Verticesc] 0) →
 ∀ (H2 : AH),
 H2 = H1.new (.cells [] 0) →
 ∃ (Inv : Nat → Option Addr → Nat → Nat → Int → AH → Prop),
 (
 ∃ (n_1 : Nat),
 Inv n_1 (some ⟨H1.next, 0, none⟩) 0 0 0 H2) ∧
 ∀ (n : Nat),
 ∀ (out3a : Option Addr) (out3l : Nat) (out3c : Nat) (i4 : Int) (H3 : AH),
 Inv n out3a out3l out3c i4 H3 →
 ∃ (t11a : Option Addr) (t11l : Nat) (t11c : Nat),
 H3.cell H.next 0 = some (.slice t11a t11l t11c) ∧
 cond (decide (i4 < (((t11l : Nat) : Int)))) (
 ∃ (t17a : Option Addr) (t17l : Nat) (t17c : Nat),
 H3.cell H.next 0 = some (.slice t17a t17l t17c) ∧
 grd t17a.isSome (
 (0 : Int) ≤ i4 ∧
 (i4 : Int) < ((t17l : Nat) : Int) ∧
 ∃ (t20_ID : Int) (t20_Value : Int) (t20_Edgesa : Option Addr) (t20_Edgesl : Nat) (t20_Edgesc : Nat),
 H3.cell ((adr t17a).block) ((adr t17a).off + (i4 : Int).toNat * 3 + 0) = some (.int .i64 t20_ID) ∧
 H3.cell ((adr t17a).block) ((adr t17a).off + (i4 : Int).toNat * 3 + 1) = some (.int .i64 t20_Value) ∧
 H3.cell ((adr t17a).block) ((adr t17a).off + (i4 : Int).toNat * 3 + 2) = some (.slice t20_Edgesa t20_Edgesl t20_Edgesc) ∧
 ∀ (H4 : AH),
 H4 = H3.new (.cells [.int .i64 0, .int .i64 0, .slice none 0 0] 0) →
 ∃ (H5 : AH),
 storeCellsv H4 H3.next 0 [.int .i64 t20_ID, .int .i64 t20_Value, .slice t20_Edgesa t20_Edgesl t20_Edgesc] = some H5 ∧
 ∃ (t22 : Int),
 H5.cell H3.next 0 = some (.int .i64 t22) ∧
 ∃ (t24 : Int),
 H5.cell H3.next 1 = some (.int .i64 t24) ∧
 ∀ (H6 : AH),
 H6 = H5.new (.cells [.int .i64 0, .int .i64 0, .slice none 0 0] 0) →
 ∃ (H7 : AH),
 storeCellsv H6 H5.next 0 [.int .i64 t22, .int .i64 t24, .slice none 0 0] = some H7 ∧
 ∃ (Inv_1 : Nat → Int → AH → Prop),
 (
 ∃ (n_3 : Nat),
 Inv_1 n_3 0 H7) ∧
 ∀ (n_2 : Nat),
 ∀ (k7 : Int) (H8 : AH),
 Inv_1 n_2 k7 H8 →
 ∃ (t28a : Option Addr) (t28l : Nat) (t28c : Nat),
 H8.cell H3.next 2 = some (.slice t28a t28l t28c) ∧
 cond (decide (k7 < (((t28l : Nat) : Int)))) (
 ∃ (t34a : Option Addr) (t34l : Nat) (t34c : Nat),
 H8.cell H5.next 2 = some (.slice t34a t34l t34c) ∧
 ∃ (t36a : Option Addr) (t36l : Nat) (t36c : Nat),
 H8.cell H3.next 2 = some (.slice t36a t36l t36c) ∧
 grd t36a.isSome (
 (0 : Int) ≤ k7 ∧
 (k7 : Int) < ((t36l : Nat) : Int) ∧
 ∃ (t40 : Int),
 H8.cell ((adr t36a).block) ((adr t36a).off + (k7 : Int).toNat * 2) = some (.int .i64 t40) ∧
 ∃ (t42a : Option Addr) (t42l : Nat) (t42c : Nat),
 H8.cell H3.next 2 = some (.slice t42a t42l t42c) ∧
 grd t42a.isSome (
 (0 : Int) ≤ k7 ∧
 (k7 : Int) < ((t42l : Nat) : Int) ∧
 ∃ (t46 : Int),
 H8.cell ((adr t42a).block) ((adr t42a).off + (k7 : Int).toNat * 2 + 1) = some (.int .i64 t46) ∧
 ∀ (H9 : AH),
 H9 = H8.new (.cells [.int .i64 t40, .int .i64 t46] 0) →
 ∃ (t49a : Option Addr) (t49l : Nat) (t49c : Nat) (H10 : AH),
 apnd H9 2 16 t34a t34l t34c (.slice (some ⟨H8.next, 0, none⟩) 1 2) = some (.slice t49a t49l t49c, H10) ∧
 ∃ (H11 : AH),
 storeCellsv H10 H5.next 2 [.slice t49a t49l t49c] = some H11 ∧
 H9.cell ((adr t42a).block) ((adr t42a).off + (k7 : Int).toNat * 2 + 1) = some (.int .i64 t46) ∧
 H9.cell H3.next 2 = some (.slice t42a t42l t42c) ∧
 H9.cell ((adr t36a).block) ((adr t36a).off + (k7 : Int).toNat * 2) = some (.int .i64 t40) ∧
 H9.cell H3.next 2 = some (.slice t36a t36l t36c) ∧
 H9.cell H5.next 2 = some (.slice t34a t34l t34c) ∧
 ∀ (t32 : Int),
 t32 = IntKind.i64.wrap (k7 + 1) →
 ∃ (m_1 : Nat),
 m_1 < n_2 ∧
 Inv_1 m_1 t32 H11))) (
 ∃ (t52_ID : Int) (t52_Value : Int) (t52_Edgesa : Option Addr) (t52_Edgesl : Nat) (t52_Edgesc : Nat),
 H8.cell H5.next (0 + 0) = some (.int .i64 t52_ID) ∧
 H8.cell H5.next (0 + 1) = some (.int .i64 t52_Value) ∧
 H8.cell H5.next (0 + 2) = some (.slice t52_Edgesa t52_Edgesl t52_Edgesc) ∧
 ∀ (H12 : AH),
 H12 = H8.new (.cells [.int .i64 t52_ID, .int .i64 t52_Value, .slice t52_Edgesa t52_Edgesl t52_Edgesc] 0) →
 ∃ (t54a : Option Addr) (t54l : Nat) (t54c : Nat) (H13 : AH),
 apnd H12 3 40 out3a out3l out3c (.slice (some ⟨H8.next, 0, none⟩) 1 2) = some (.slice t54a t54l t54c, H13) ∧
 ∀ (t15 : Int),
 t15 = IntKind.i64.wrap (i4 + 1) →
 ∃ (m : Nat),
 m < n ∧
 Inv m t54a t54l t54c t15 H13))) (
 Q (.slice out3a out3l out3c) H3)
set_option maxRecDepth 100000 in
theorem fw_cohortlaw03_Ref {g0_Verticesa : Option Addr} {g0_Verticesl : Nat} {g0_Verticesc : Nat} {H : AH} {Q : Value → AH → Prop} (h : VC_cohortlaw03_Ref g0_Verticesa g0_Verticesl g0_Verticesc H Q) : FW Ee F_cohortlaw03_Ref [.agg ⟨[.slice g0_Verticesa g0_Verticesl g0_Verticesc]⟩] H Q := by
  have e : VC_cohortlaw03_Ref g0_Verticesa g0_Verticesl g0_Verticesc H Q = wpF Ee ⟨[], []⟩ F_cohortlaw03_Ref [.agg ⟨[.slice g0_Verticesa g0_Verticesl g0_Verticesc]⟩] H Q := by kernel_rfl
  letI : Sy := sy0
  exact wpF_sound (Eq.mp e h)
end Go.Proofs.Cx
