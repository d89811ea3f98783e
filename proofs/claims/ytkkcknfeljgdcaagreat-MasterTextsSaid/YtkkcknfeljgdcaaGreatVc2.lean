/- What calls come to, as formulas: printed by a program. -/
import Derived.Test.YtkkcknfeljgdcaaGreatVc0
namespace Go.Proofs.Cx
open Go Go.Ev
set_option linter.unusedVariables false
set_option maxRecDepth 100000
set_option maxHeartbeats 8000000
/-- (*cohort/wire.Writer).Text -/
def VC_wire_Writer_Text (w0b : Nat) (s1 : List UInt8) (H : AH) (Q : Value → AH → Prop) : Prop :=
 ∀ (t7 : Int),
 t7 = IntKind.u64.wrap ((((s1 : List UInt8).length : Nat) : Int)) →
 FW Ee F_wire_Writer_Number [.pointer (some ⟨w0b, 0, none⟩), .int .u64 t7] H fun v H1 =>
 v = .tuple ⟨[]⟩ ∧
 FW Ee F_wire_Writer_Bytes [.pointer (some ⟨w0b, 0, none⟩), .string ⟨⟨s1⟩⟩] H1 fun v_1 H2 =>
 v_1 = .tuple ⟨[]⟩ ∧
 Q (.tuple ⟨[]⟩) H2
set_option maxRecDepth 100000 in
theorem fw_wire_Writer_Text {w0b : Nat} {s1 : List UInt8} {H : AH} {Q : Value → AH → Prop} (h : VC_wire_Writer_Text w0b s1 H Q) : FW Ee F_wire_Writer_Text [.pointer (some ⟨w0b, 0, none⟩), .string ⟨⟨s1⟩⟩] H Q := by
  have e : VC_wire_Writer_Text w0b s1 H Q = wpF Ee ⟨[], []⟩ F_wire_Writer_Text [.pointer (some ⟨w0b, 0, none⟩), .string ⟨⟨s1⟩⟩] H Q := by kernel_rfl
  letI : Sy := sy0
  exact wpF_sound (Eq.mp e h)
/-- (*cohort/wire.Reader).Bytes -/
def VC_wire_Reader_Bytes (r0b : Nat) (n1 : Int) (H : AH) (Q : Value → AH → Prop) : Prop :=
 FW Ee F_wire_Reader_Err [.pointer (some ⟨r0b, 0, none⟩)] H fun v H1 =>
 ∃ (r7 : Int),
 v = .int .i64 r7 ∧
 cond (r7 != 0) (
 Q (.string ⟨⟨[]⟩⟩) H1) (
 cond (decide (n1 < 0)) (
 ∃ (H2 : AH),
 storeCellsv H1 r0b 2 [.int .i64 1] = some H2 ∧
 Q (.string ⟨⟨[]⟩⟩) H2) (
 ∃ (t19 : List UInt8),
 H1.cell r0b 0 = some (.string ⟨⟨t19⟩⟩) ∧
 ∃ (t24 : Int),
 H1.cell r0b 1 = some (.int .i64 t24) ∧
 ∀ (t25 : Int),
 t25 = IntKind.i64.wrap (((((t19 : List UInt8).length : Nat) : Int)) - t24) →
 cond (decide (t25 < n1)) (
 ∃ (H3 : AH),
 storeCellsv H1 r0b 2 [.int .i64 4] = some H3 ∧
 Q (.string ⟨⟨[]⟩⟩) H3) (
 ∃ (t34 : Int),
 H1.cell r0b 1 = some (.int .i64 t34) ∧
 ∀ (t36 : Int),
 t36 = IntKind.i64.wrap (t34 + n1) →
 ∃ (H4 : AH),
 storeCellsv H1 r0b 1 [.int .i64 t36] = some H4 ∧
 ∃ (t42 : List UInt8),
 H4.cell r0b 0 = some (.string ⟨⟨t42⟩⟩) ∧
 ∃ (t46 : Int),
 H4.cell r0b 1 = some (.int .i64 t46) ∧
 ∀ (t48 : Int),
 t48 = IntKind.i64.wrap (t46 - n1) →
 ∃ (t52 : Int),
 H4.cell r0b 1 = some (.int .i64 t52) ∧
 ∃ (t53 : List UInt8),
 strv t42 (some (.int .i64 t48)) (some (.int .i64 t52)) = some (.string ⟨⟨t53⟩⟩) ∧
 Q (.string ⟨⟨t53⟩⟩) H4)))
set_option maxRecDepth 100000 in
theorem fw_wire_Reader_Bytes {r0b : Nat} {n1 : Int} {H : AH} {Q : Value → AH → Prop} (h : VC_wire_Reader_Bytes r0b n1 H Q) : FW Ee F_wire_Reader_Bytes [.pointer (some ⟨r0b, 0, none⟩), .int .i64 n1] H Q := by
  have e : VC_wire_Reader_Bytes r0b n1 H Q = wpF Ee ⟨[], []⟩ F_wire_Reader_Bytes [.pointer (some ⟨r0b, 0, none⟩), .int .i64 n1] H Q := by kernel_rfl
  letI : Sy := sy0
  exact wpF_sound (Eq.mp e h)
/-- (*cohort/wire.Reader).Text -/
def VC_wire_Reader_Text (r0b : Nat) (H : AH) (Q : Value → AH → Prop) : Prop :=
 FW Ee F_wire_Reader_At [.pointer (some ⟨r0b, 0, none⟩)] H fun v H1 =>
 ∃ (r6 : Int),
 v = .int .i64 r6 ∧
 FW Ee F_wire_Reader_Number [.pointer (some ⟨r0b, 0, none⟩)] H1 fun v_1 H2 =>
 ∃ (r8 : Int),
 v_1 = .int .u64 r8 ∧
 FW Ee F_wire_Reader_Err [.pointer (some ⟨r0b, 0, none⟩)] H2 fun v_2 H3 =>
 ∃ (r10 : Int),
 v_2 = .int .i64 r10 ∧
 cond (r10 != 0) (
 Q (.string ⟨⟨[]⟩⟩) H3) (
 FW Ee F_wire_Reader_Left [.pointer (some ⟨r0b, 0, none⟩)] H3 fun v_3 H4 =>
 ∃ (r14 : Int),
 v_3 = .int .i64 r14 ∧
 ∀ (t15 : Int),
 t15 = IntKind.u64.wrap (r14) →
 cond (decide (r8 > t15)) (
 ∃ (H5 : AH),
 storeCellsv H4 r0b 1 [.int .i64 r6] = some H5 ∧
 ∃ (H6 : AH),
 storeCellsv H5 r0b 2 [.int .i64 4] = some H6 ∧
 Q (.string ⟨⟨[]⟩⟩) H6) (
 ∀ (t26 : Int),
 t26 = IntKind.i64.wrap (r8) →
 FW Ee F_wire_Reader_Bytes [.pointer (some ⟨r0b, 0, none⟩), .int .i64 t26] H4 fun v_4 H7 =>
 ∃ (r27 : List UInt8),
 v_4 = .string ⟨⟨r27⟩⟩ ∧
 Q (.string ⟨⟨r27⟩⟩) H7))
set_option maxRecDepth 100000 in
theorem fw_wire_Reader_Text {r0b : Nat} {H : AH} {Q : Value → AH → Prop} (h : VC_wire_Reader_Text r0b H Q) : FW Ee F_wire_Reader_Text [.pointer (some ⟨r0b, 0, none⟩)] H Q := by
  have e : VC_wire_Reader_Text r0b H Q = wpF Ee ⟨[], []⟩ F_wire_Reader_Text [.pointer (some ⟨r0b, 0, none⟩)] H Q := by kernel_rfl
  letI : Sy := sy0
  exact wpF_sound (Eq.mp e h)
end Go.Proofs.Cx
