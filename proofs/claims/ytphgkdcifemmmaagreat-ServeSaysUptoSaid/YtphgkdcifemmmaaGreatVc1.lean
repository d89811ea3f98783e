/- What calls come to, as formulas: printed by a program. -/
import Derived.Test.YtphgkdcifemmmaaGreatVc0
namespace Go.Proofs.Cx
open Go Go.Ev
set_option linter.unusedVariables false
set_option maxRecDepth 100000
set_option maxHeartbeats 8000000
def VC_wire_NewWriter  (H : AH) (Q : Value → AH → Prop) : Prop :=
 ∀ (H1 : AH),
 H1 = H.new (.cells [.slice none 0 0] 0) →
 Q (.pointer (some ⟨H.next, 0, none⟩)) H1
set_option maxRecDepth 100000 in
theorem fw_wire_NewWriter  {H : AH} {Q : Value → AH → Prop} (h : VC_wire_NewWriter  H Q) : FW Ee F_wire_NewWriter [] H Q :=
  letI : Sy := sy0
  wpF_sound (A := ⟨[], []⟩) (Eq.mp (by kernel_rfl) h)
def VC_wire_NewReader (s0 : List UInt8) (H : AH) (Q : Value → AH → Prop) : Prop :=
 ∀ (H1 : AH),
 H1 = H.new (.cells [.string ⟨⟨s0⟩⟩, .int .i64 0, .int .i64 0] 0) →
 Q (.pointer (some ⟨H.next, 0, none⟩)) H1
set_option maxRecDepth 100000 in
theorem fw_wire_NewReader {s0 : List UInt8} {H : AH} {Q : Value → AH → Prop} (h : VC_wire_NewReader s0 H Q) : FW Ee F_wire_NewReader [.string ⟨⟨s0⟩⟩] H Q :=
  letI : Sy := sy0
  wpF_sound (A := ⟨[], []⟩) (Eq.mp (by kernel_rfl) h)
def VC_wire_Number (n0 : Int) (H : AH) (Q : Value → AH → Prop) : Prop :=
 ∃ (Inv : Nat → Option Addr → Nat → Nat → Int → AH → Prop),
 (
 ∃ (n_1 : Nat),
 Inv n_1 none 0 0 n0 H) ∧
 ∀ (n : Nat),
 ∀ (out3a : Option Addr) (out3l out3c : Nat) (z0 : Int) (H1 : AH),
 Inv n out3a out3l out3c z0 H1 →
 cond (decide (z0 > 127)) (
 ∀ (t8 : Int),
 t8 = IntKind.u8.wrap (z0) →
 ∀ (t9 : Int),
 t9 = ior .u8 t8 128 →
 ∀ (H2 : AH),
 H2 = H1.new (.cells [.int .u8 t9] 0) →
 ∃ (t11a : Option Addr) (t11l t11c : Nat) (H3 : AH),
 apnd H2 1 1 out3a out3l out3c (.slice (some ⟨H1.next, 0, none⟩) 1 2) = some (.slice t11a t11l t11c, H3) ∧
 (0 : Int) ≤ 7 ∧
 ∀ (t13 : Int),
 t13 = (z0 : Int).fdiv (2 ^ (min (7 : Int).toNat IntKind.u64.bits)) →
 ∃ (m : Nat),
 m < n ∧
 Inv m t11a t11l t11c t13 H3) (
 ∀ (t16 : Int),
 t16 = IntKind.u8.wrap (z0) →
 ∀ (H4 : AH),
 H4 = H1.new (.cells [.int .u8 t16] 0) →
 ∃ (t18a : Option Addr) (t18l t18c : Nat) (H5 : AH),
 apnd H4 1 1 out3a out3l out3c (.slice (some ⟨H1.next, 0, none⟩) 1 2) = some (.slice t18a t18l t18c, H5) ∧
 ∃ (t19 : List UInt8),
 bytesToStr Ee H5 T_L_uint8 T_string (.slice t18a t18l t18c) = some (.string ⟨⟨t19⟩⟩) ∧
 Q (.string ⟨⟨t19⟩⟩) H5)
set_option maxRecDepth 100000 in
theorem fw_wire_Number {n0 : Int} {H : AH} {Q : Value → AH → Prop} (h : VC_wire_Number n0 H Q) : FW Ee F_wire_Number [.int .u64 n0] H Q :=
  letI : Sy := sy0
  wpF_sound (A := ⟨[], []⟩) (Eq.mp (by kernel_rfl) h)
def VC_wire_Fold (n0 : Int) (H : AH) (Q : Value → AH → Prop) : Prop :=
 ∀ (t4 : Int),
 t4 = IntKind.u64.wrap (n0) →
 (0 : Int) ≤ 1 ∧
 ∀ (t5 : Int),
 t5 = IntKind.u64.wrap ((t4 : Int) * 2 ^ (min (1 : Int).toNat IntKind.u64.bits)) →
 (0 : Int) ≤ 63 ∧
 ∀ (t7 : Int),
 t7 = (n0 : Int).fdiv (2 ^ (min (63 : Int).toNat IntKind.i64.bits)) →
 ∀ (t8 : Int),
 t8 = IntKind.u64.wrap (t7) →
 ∀ (t9 : Int),
 t9 = ixor .u64 t5 t8 →
 Q (.int .u64 t9) H
set_option maxRecDepth 100000 in
theorem fw_wire_Fold {n0 : Int} {H : AH} {Q : Value → AH → Prop} (h : VC_wire_Fold n0 H Q) : FW Ee F_wire_Fold [.int .i64 n0] H Q :=
  letI : Sy := sy0
  wpF_sound (A := ⟨[], []⟩) (Eq.mp (by kernel_rfl) h)
def VC_wire_Unfold (n0 : Int) (H : AH) (Q : Value → AH → Prop) : Prop :=
 (0 : Int) ≤ 1 ∧
 ∀ (t4 : Int),
 t4 = (n0 : Int).fdiv (2 ^ (min (1 : Int).toNat IntKind.u64.bits)) →
 ∀ (t5 : Int),
 t5 = IntKind.i64.wrap (t4) →
 ∀ (t7 : Int),
 t7 = iand .u64 n0 1 →
 ∀ (t8 : Int),
 t8 = IntKind.i64.wrap (t7) →
 ∀ (t9 : Int),
 t9 = IntKind.i64.wrap ((0 : Int) - t8) →
 ∀ (t10 : Int),
 t10 = ixor .i64 t5 t9 →
 Q (.int .i64 t10) H
set_option maxRecDepth 100000 in
theorem fw_wire_Unfold {n0 : Int} {H : AH} {Q : Value → AH → Prop} (h : VC_wire_Unfold n0 H Q) : FW Ee F_wire_Unfold [.int .u64 n0] H Q :=
  letI : Sy := sy0
  wpF_sound (A := ⟨[], []⟩) (Eq.mp (by kernel_rfl) h)
def VC_wire_Writer_Bytes (w0b : Nat) (s1 : List UInt8) (H : AH) (Q : Value → AH → Prop) : Prop :=
 ∃ (t10a : Option Addr) (t10l t10c : Nat),
 H.cell w0b 0 = some (.slice t10a t10l t10c) ∧
 ∃ (t12a : Option Addr) (t12l t12c : Nat) (H1 : AH),
 apnd H 1 1 t10a t10l t10c (.string ⟨⟨s1⟩⟩) = some (.slice t12a t12l t12c, H1) ∧
 ∃ (H2 : AH),
 storeCellsv H1 w0b 0 [.slice t12a t12l t12c] = some H2 ∧
 Q (.tuple ⟨[]⟩) H2
set_option maxRecDepth 100000 in
theorem fw_wire_Writer_Bytes {w0b : Nat} {s1 : List UInt8} {H : AH} {Q : Value → AH → Prop} (h : VC_wire_Writer_Bytes w0b s1 H Q) : FW Ee F_wire_Writer_Bytes [.pointer (some ⟨w0b, 0, none⟩), .string ⟨⟨s1⟩⟩] H Q :=
  letI : Sy := sy0
  wpF_sound (A := ⟨[], []⟩) (Eq.mp (by kernel_rfl) h)
def VC_wire_Writer_Number (w0b : Nat) (n1 : Int) (H : AH) (Q : Value → AH → Prop) : Prop :=
 FW Ee F_wire_Number [.int .u64 n1] H fun v H1 =>
 ∃ (r6 : List UInt8),
 v = .string ⟨⟨r6⟩⟩ ∧
 FW Ee F_wire_Writer_Bytes [.pointer (some ⟨w0b, 0, none⟩), .string ⟨⟨r6⟩⟩] H1 fun v_1 H2 =>
 v_1 = .tuple ⟨[]⟩ ∧
 Q (.tuple ⟨[]⟩) H2
set_option maxRecDepth 100000 in
theorem fw_wire_Writer_Number {w0b : Nat} {n1 : Int} {H : AH} {Q : Value → AH → Prop} (h : VC_wire_Writer_Number w0b n1 H Q) : FW Ee F_wire_Writer_Number [.pointer (some ⟨w0b, 0, none⟩), .int .u64 n1] H Q :=
  letI : Sy := sy0
  wpF_sound (A := ⟨[], []⟩) (Eq.mp (by kernel_rfl) h)
def VC_wire_Writer_Signed (w0b : Nat) (n1 : Int) (H : AH) (Q : Value → AH → Prop) : Prop :=
 FW Ee F_wire_Fold [.int .i64 n1] H fun v H1 =>
 ∃ (r6 : Int),
 v = .int .u64 r6 ∧
 FW Ee F_wire_Writer_Number [.pointer (some ⟨w0b, 0, none⟩), .int .u64 r6] H1 fun v_1 H2 =>
 v_1 = .tuple ⟨[]⟩ ∧
 Q (.tuple ⟨[]⟩) H2
set_option maxRecDepth 100000 in
theorem fw_wire_Writer_Signed {w0b : Nat} {n1 : Int} {H : AH} {Q : Value → AH → Prop} (h : VC_wire_Writer_Signed w0b n1 H Q) : FW Ee F_wire_Writer_Signed [.pointer (some ⟨w0b, 0, none⟩), .int .i64 n1] H Q :=
  letI : Sy := sy0
  wpF_sound (A := ⟨[], []⟩) (Eq.mp (by kernel_rfl) h)
def VC_wire_Writer_Count (w0b : Nat) (n1 : Int) (H : AH) (Q : Value → AH → Prop) : Prop :=
 ∀ (t7 : Int),
 t7 = IntKind.u64.wrap (if (0 : Int) > n1 then 0 else n1) →
 FW Ee F_wire_Writer_Number [.pointer (some ⟨w0b, 0, none⟩), .int .u64 t7] H fun v H1 =>
 v = .tuple ⟨[]⟩ ∧
 Q (.tuple ⟨[]⟩) H1
set_option maxRecDepth 100000 in
theorem fw_wire_Writer_Count {w0b : Nat} {n1 : Int} {H : AH} {Q : Value → AH → Prop} (h : VC_wire_Writer_Count w0b n1 H Q) : FW Ee F_wire_Writer_Count [.pointer (some ⟨w0b, 0, none⟩), .int .i64 n1] H Q :=
  letI : Sy := sy0
  wpF_sound (A := ⟨[], []⟩) (Eq.mp (by kernel_rfl) h)
def VC_wire_Writer_All (w0b : Nat) (H : AH) (Q : Value → AH → Prop) : Prop :=
 ∃ (t8a : Option Addr) (t8l t8c : Nat),
 H.cell w0b 0 = some (.slice t8a t8l t8c) ∧
 ∃ (t9 : List UInt8),
 bytesToStr Ee H T_L_uint8 T_string (.slice t8a t8l t8c) = some (.string ⟨⟨t9⟩⟩) ∧
 Q (.string ⟨⟨t9⟩⟩) H
set_option maxRecDepth 100000 in
theorem fw_wire_Writer_All {w0b : Nat} {H : AH} {Q : Value → AH → Prop} (h : VC_wire_Writer_All w0b H Q) : FW Ee F_wire_Writer_All [.pointer (some ⟨w0b, 0, none⟩)] H Q :=
  letI : Sy := sy0
  wpF_sound (A := ⟨[], []⟩) (Eq.mp (by kernel_rfl) h)
def VC_wire_Reader_Err (r0b : Nat) (H : AH) (Q : Value → AH → Prop) : Prop :=
 ∃ (t8 : Int),
 H.cell r0b 2 = some (.int .i64 t8) ∧
 Q (.int .i64 t8) H
set_option maxRecDepth 100000 in
theorem fw_wire_Reader_Err {r0b : Nat} {H : AH} {Q : Value → AH → Prop} (h : VC_wire_Reader_Err r0b H Q) : FW Ee F_wire_Reader_Err [.pointer (some ⟨r0b, 0, none⟩)] H Q :=
  letI : Sy := sy0
  wpF_sound (A := ⟨[], []⟩) (Eq.mp (by kernel_rfl) h)
def VC_wire_Reader_At (r0b : Nat) (H : AH) (Q : Value → AH → Prop) : Prop :=
 ∃ (t8 : Int),
 H.cell r0b 1 = some (.int .i64 t8) ∧
 Q (.int .i64 t8) H
set_option maxRecDepth 100000 in
theorem fw_wire_Reader_At {r0b : Nat} {H : AH} {Q : Value → AH → Prop} (h : VC_wire_Reader_At r0b H Q) : FW Ee F_wire_Reader_At [.pointer (some ⟨r0b, 0, none⟩)] H Q :=
  letI : Sy := sy0
  wpF_sound (A := ⟨[], []⟩) (Eq.mp (by kernel_rfl) h)
def VC_wire_Reader_Left (r0b : Nat) (H : AH) (Q : Value → AH → Prop) : Prop :=
 ∃ (t8 : List UInt8),
 H.cell r0b 0 = some (.string ⟨⟨t8⟩⟩) ∧
 ∃ (t13 : Int),
 H.cell r0b 1 = some (.int .i64 t13) ∧
 ∀ (t14 : Int),
 t14 = IntKind.i64.wrap (((((t8 : List UInt8).length : Nat) : Int)) - t13) →
 Q (.int .i64 t14) H
set_option maxRecDepth 100000 in
theorem fw_wire_Reader_Left {r0b : Nat} {H : AH} {Q : Value → AH → Prop} (h : VC_wire_Reader_Left r0b H Q) : FW Ee F_wire_Reader_Left [.pointer (some ⟨r0b, 0, none⟩)] H Q :=
  letI : Sy := sy0
  wpF_sound (A := ⟨[], []⟩) (Eq.mp (by kernel_rfl) h)
def VC_wire_Reader_Fail (r0b : Nat) (e1 : Int) (H : AH) (Q : Value → AH → Prop) : Prop :=
 ∃ (t10 : Int),
 H.cell r0b 2 = some (.int .i64 t10) ∧
 cond (t10 == 0) (
 ∃ (H1 : AH),
 storeCellsv H r0b 2 [.int .i64 e1] = some H1 ∧
 Q (.tuple ⟨[]⟩) H1) (
 Q (.tuple ⟨[]⟩) H)
set_option maxRecDepth 100000 in
theorem fw_wire_Reader_Fail {r0b : Nat} {e1 : Int} {H : AH} {Q : Value → AH → Prop} (h : VC_wire_Reader_Fail r0b e1 H Q) : FW Ee F_wire_Reader_Fail [.pointer (some ⟨r0b, 0, none⟩), .int .i64 e1] H Q :=
  letI : Sy := sy0
  wpF_sound (A := ⟨[], []⟩) (Eq.mp (by kernel_rfl) h)
def VC_wire_Reader_End (r0b : Nat) (H : AH) (Q : Value → AH → Prop) : Prop :=
 FW Ee F_wire_Reader_Left [.pointer (some ⟨r0b, 0, none⟩)] H fun v H1 =>
 ∃ (r4 : Int),
 v = .int .i64 r4 ∧
 cond (decide (r4 > 0)) (
 FW Ee F_wire_Reader_Fail [.pointer (some ⟨r0b, 0, none⟩), .int .i64 5] H1 fun v_1 H2 =>
 v_1 = .tuple ⟨[]⟩ ∧
 FW Ee F_wire_Reader_Err [.pointer (some ⟨r0b, 0, none⟩)] H2 fun v_2 H3 =>
 ∃ (r9 : Int),
 v_2 = .int .i64 r9 ∧
 Q (.int .i64 r9) H3) (
 FW Ee F_wire_Reader_Err [.pointer (some ⟨r0b, 0, none⟩)] H1 fun v_3 H4 =>
 ∃ (z0 : Int),
 v_3 = .int .i64 z0 ∧
 Q (.int .i64 z0) H4)
set_option maxRecDepth 100000 in
theorem fw_wire_Reader_End {r0b : Nat} {H : AH} {Q : Value → AH → Prop} (h : VC_wire_Reader_End r0b H Q) : FW Ee F_wire_Reader_End [.pointer (some ⟨r0b, 0, none⟩)] H Q :=
  letI : Sy := sy0
  wpF_sound (A := ⟨[], []⟩) (Eq.mp (by kernel_rfl) h)
def VC_wire_Reader_Number (r0b : Nat) (H : AH) (Q : Value → AH → Prop) : Prop :=
 FW Ee F_wire_Reader_Err [.pointer (some ⟨r0b, 0, none⟩)] H fun v H1 =>
 ∃ (r7 : Int),
 v = .int .i64 r7 ∧
 cond (r7 != 0) (
 Q (.int .u64 0) H1) (
 ∃ (Inv : Nat → Int → Int → Int → AH → Prop),
 (
 ∃ (n_1 : Nat),
 Inv n_1 0 0 0 H1) ∧
 ∀ (n : Nat),
 ∀ (t2 n3 t9 : Int) (H2 : AH),
 Inv n t2 n3 t9 H2 →
 cond (decide (t9 < 10)) (
 ∃ (t15 : Int),
 H2.cell r0b 1 = some (.int .i64 t15) ∧
 ∀ (t17 : Int),
 t17 = IntKind.i64.wrap (t15 + t9) →
 ∃ (t21 : List UInt8),
 H2.cell r0b 0 = some (.string ⟨⟨t21⟩⟩) ∧
 cond (decide (t17 ≥ ((((t21 : List UInt8).length : Nat) : Int)))) (
 ∃ (H3 : AH),
 storeCellsv H2 r0b 2 [.int .i64 4] = some H3 ∧
 Q (.int .u64 0) H3) (
 ∃ (t30 : List UInt8),
 H2.cell r0b 0 = some (.string ⟨⟨t30⟩⟩) ∧
 ∃ (t34 : Int),
 H2.cell r0b 1 = some (.int .i64 t34) ∧
 ∀ (t36 : Int),
 t36 = IntKind.i64.wrap (t34 + t9) →
 (0 : Int) ≤ t36 ∧
 (t36 : Int) < (((t30 : List UInt8).length : Nat) : Int) ∧
 cond (t9 == 9) (
 cond (decide ((byteAt t30 t36) > 1)) (
 ∃ (H4 : AH),
 storeCellsv H2 r0b 2 [.int .i64 6] = some H4 ∧
 Q (.int .u64 0) H4) (
 cond ((byteAt t30 t36) == 0) (
 cond (decide (t9 > 0)) (
 ∃ (H5 : AH),
 storeCellsv H2 r0b 2 [.int .i64 6] = some H5 ∧
 Q (.int .u64 0) H5) (
 ∀ (t57 : Int),
 t57 = iand .u8 (byteAt t30 t36) 127 →
 ∀ (t58 : Int),
 t58 = IntKind.u64.wrap (t57) →
 ∀ (t60 : Int),
 t60 = IntKind.i64.wrap (7 * t9) →
 (0 : Int) ≤ t60 ∧
 ∀ (t61 : Int),
 t61 = IntKind.u64.wrap ((t58 : Int) * 2 ^ (min (t60 : Int).toNat IntKind.u64.bits)) →
 ∀ (t62 : Int),
 t62 = ior .u64 n3 t61 →
 ∀ (t64 : Int),
 t64 = iand .u8 (byteAt t30 t36) 128 →
 cond (t64 == 0) (
 ∃ (t69 : Int),
 H2.cell r0b 1 = some (.int .i64 t69) ∧
 ∀ (t71 : Int),
 t71 = IntKind.i64.wrap (t9 + 1) →
 ∀ (t72 : Int),
 t72 = IntKind.i64.wrap (t69 + t71) →
 ∃ (H6 : AH),
 storeCellsv H2 r0b 1 [.int .i64 t72] = some H6 ∧
 Q (.int .u64 t62) H6) (
 ∀ (t76 : Int),
 t76 = IntKind.i64.wrap (t9 + 1) →
 ∃ (m : Nat),
 m < n ∧
 Inv m t2 t62 t76 H2))) (
 ∀ (z0 : Int),
 z0 = iand .u8 (byteAt t30 t36) 127 →
 ∀ (z1 : Int),
 z1 = IntKind.u64.wrap (z0) →
 ∀ (z2 : Int),
 z2 = IntKind.i64.wrap (7 * t9) →
 (0 : Int) ≤ z2 ∧
 ∀ (z3 : Int),
 z3 = IntKind.u64.wrap ((z1 : Int) * 2 ^ (min (z2 : Int).toNat IntKind.u64.bits)) →
 ∀ (z4 : Int),
 z4 = ior .u64 n3 z3 →
 ∀ (z5 : Int),
 z5 = iand .u8 (byteAt t30 t36) 128 →
 cond (z5 == 0) (
 ∃ (z6 : Int),
 H2.cell r0b 1 = some (.int .i64 z6) ∧
 ∀ (z7 : Int),
 z7 = IntKind.i64.wrap (t9 + 1) →
 ∀ (z8 : Int),
 z8 = IntKind.i64.wrap (z6 + z7) →
 ∃ (H7 : AH),
 storeCellsv H2 r0b 1 [.int .i64 z8] = some H7 ∧
 Q (.int .u64 z4) H7) (
 ∀ (z9 : Int),
 z9 = IntKind.i64.wrap (t9 + 1) →
 ∃ (m : Nat),
 m < n ∧
 Inv m t2 z4 z9 H2)))) (
 cond ((byteAt t30 t36) == 0) (
 cond (decide (t9 > 0)) (
 ∃ (H8 : AH),
 storeCellsv H2 r0b 2 [.int .i64 6] = some H8 ∧
 Q (.int .u64 0) H8) (
 ∀ (z10 : Int),
 z10 = iand .u8 (byteAt t30 t36) 127 →
 ∀ (z11 : Int),
 z11 = IntKind.u64.wrap (z10) →
 ∀ (z12 : Int),
 z12 = IntKind.i64.wrap (7 * t9) →
 (0 : Int) ≤ z12 ∧
 ∀ (z13 : Int),
 z13 = IntKind.u64.wrap ((z11 : Int) * 2 ^ (min (z12 : Int).toNat IntKind.u64.bits)) →
 ∀ (z14 : Int),
 z14 = ior .u64 n3 z13 →
 ∀ (z15 : Int),
 z15 = iand .u8 (byteAt t30 t36) 128 →
 cond (z15 == 0) (
 ∃ (z16 : Int),
 H2.cell r0b 1 = some (.int .i64 z16) ∧
 ∀ (z17 : Int),
 z17 = IntKind.i64.wrap (t9 + 1) →
 ∀ (z18 : Int),
 z18 = IntKind.i64.wrap (z16 + z17) →
 ∃ (H9 : AH),
 storeCellsv H2 r0b 1 [.int .i64 z18] = some H9 ∧
 Q (.int .u64 z14) H9) (
 ∀ (z19 : Int),
 z19 = IntKind.i64.wrap (t9 + 1) →
 ∃ (m : Nat),
 m < n ∧
 Inv m t2 z14 z19 H2))) (
 ∀ (z20 : Int),
 z20 = iand .u8 (byteAt t30 t36) 127 →
 ∀ (z21 : Int),
 z21 = IntKind.u64.wrap (z20) →
 ∀ (z22 : Int),
 z22 = IntKind.i64.wrap (7 * t9) →
 (0 : Int) ≤ z22 ∧
 ∀ (z23 : Int),
 z23 = IntKind.u64.wrap ((z21 : Int) * 2 ^ (min (z22 : Int).toNat IntKind.u64.bits)) →
 ∀ (z24 : Int),
 z24 = ior .u64 n3 z23 →
 ∀ (z25 : Int),
 z25 = iand .u8 (byteAt t30 t36) 128 →
 cond (z25 == 0) (
 ∃ (z26 : Int),
 H2.cell r0b 1 = some (.int .i64 z26) ∧
 ∀ (z27 : Int),
 z27 = IntKind.i64.wrap (t9 + 1) →
 ∀ (z28 : Int),
 z28 = IntKind.i64.wrap (z26 + z27) →
 ∃ (H10 : AH),
 storeCellsv H2 r0b 1 [.int .i64 z28] = some H10 ∧
 Q (.int .u64 z24) H10) (
 ∀ (z29 : Int),
 z29 = IntKind.i64.wrap (t9 + 1) →
 ∃ (m : Nat),
 m < n ∧
 Inv m t2 z24 z29 H2))))) (
 ∃ (H11 : AH),
 storeCellsv H2 r0b 2 [.int .i64 6] = some H11 ∧
 Q (.int .u64 0) H11))
set_option maxRecDepth 100000 in
theorem fw_wire_Reader_Number {r0b : Nat} {H : AH} {Q : Value → AH → Prop} (h : VC_wire_Reader_Number r0b H Q) : FW Ee F_wire_Reader_Number [.pointer (some ⟨r0b, 0, none⟩)] H Q :=
  letI : Sy := sy0
  wpF_sound (A := ⟨[], []⟩) (Eq.mp (by kernel_rfl) h)
def VC_wire_Reader_Signed (r0b : Nat) (H : AH) (Q : Value → AH → Prop) : Prop :=
 FW Ee F_wire_Reader_Number [.pointer (some ⟨r0b, 0, none⟩)] H fun v H1 =>
 ∃ (r4 : Int),
 v = .int .u64 r4 ∧
 FW Ee F_wire_Unfold [.int .u64 r4] H1 fun v_1 H2 =>
 ∃ (r5 : Int),
 v_1 = .int .i64 r5 ∧
 Q (.int .i64 r5) H2
set_option maxRecDepth 100000 in
theorem fw_wire_Reader_Signed {r0b : Nat} {H : AH} {Q : Value → AH → Prop} (h : VC_wire_Reader_Signed r0b H Q) : FW Ee F_wire_Reader_Signed [.pointer (some ⟨r0b, 0, none⟩)] H Q :=
  letI : Sy := sy0
  wpF_sound (A := ⟨[], []⟩) (Eq.mp (by kernel_rfl) h)
def VC_wire_Reader_Count (r0b : Nat) (most1 : Int) (H : AH) (Q : Value → AH → Prop) : Prop :=
 FW Ee F_wire_Reader_At [.pointer (some ⟨r0b, 0, none⟩)] H fun v H1 =>
 ∃ (r8 : Int),
 v = .int .i64 r8 ∧
 FW Ee F_wire_Reader_Number [.pointer (some ⟨r0b, 0, none⟩)] H1 fun v_1 H2 =>
 ∃ (r10 : Int),
 v_1 = .int .u64 r10 ∧
 FW Ee F_wire_Reader_Err [.pointer (some ⟨r0b, 0, none⟩)] H2 fun v_2 H3 =>
 ∃ (r12 : Int),
 v_2 = .int .i64 r12 ∧
 cond (r12 != 0) (
 Q (.int .i64 0) H3) (
 cond (decide (most1 < 0)) (
 ∃ (H4 : AH),
 storeCellsv H3 r0b 1 [.int .i64 r8] = some H4 ∧
 ∃ (H5 : AH),
 storeCellsv H4 r0b 2 [.int .i64 5] = some H5 ∧
 Q (.int .i64 0) H5) (
 ∀ (t19 : Int),
 t19 = IntKind.u64.wrap (most1) →
 cond (decide (r10 > t19)) (
 ∃ (H6 : AH),
 storeCellsv H3 r0b 1 [.int .i64 r8] = some H6 ∧
 ∃ (H7 : AH),
 storeCellsv H6 r0b 2 [.int .i64 5] = some H7 ∧
 Q (.int .i64 0) H7) (
 ∀ (t30 : Int),
 t30 = IntKind.i64.wrap (r10) →
 Q (.int .i64 t30) H3)))
set_option maxRecDepth 100000 in
theorem fw_wire_Reader_Count {r0b : Nat} {most1 : Int} {H : AH} {Q : Value → AH → Prop} (h : VC_wire_Reader_Count r0b most1 H Q) : FW Ee F_wire_Reader_Count [.pointer (some ⟨r0b, 0, none⟩), .int .i64 most1] H Q :=
  letI : Sy := sy0
  wpF_sound (A := ⟨[], []⟩) (Eq.mp (by kernel_rfl) h)
def VC_cmp_isNaN_int64 (x0 : Int) (H : AH) (Q : Value → AH → Prop) : Prop :=
 Q (.bool (x0 != x0)) H
set_option maxRecDepth 100000 in
theorem fw_cmp_isNaN_int64 {x0 : Int} {H : AH} {Q : Value → AH → Prop} (h : VC_cmp_isNaN_int64 x0 H Q) : FW Ee F_cmp_isNaN_int64 [.int .i64 x0] H Q :=
  letI : Sy := sy0
  wpF_sound (A := ⟨[], []⟩) (Eq.mp (by kernel_rfl) h)
def VC_cmp_Compare_int64 (x0 y1 : Int) (H : AH) (Q : Value → AH → Prop) : Prop :=
 FW Ee F_cmp_isNaN_int64 [.int .i64 x0] H fun v H1 =>
 ∃ (r8 : Bool),
 v = .bool r8 ∧
 FW Ee F_cmp_isNaN_int64 [.int .i64 y1] H1 fun v_1 H2 =>
 ∃ (r10 : Bool),
 v_1 = .bool r10 ∧
 cond (r8) (
 cond (r10) (
 Q (.int .i64 0) H2) (
 Q (.int .i64 (-1)) H2)) (
 cond (r10) (
 Q (.int .i64 1) H2) (
 cond (decide (x0 < y1)) (
 Q (.int .i64 (-1)) H2) (
 cond (decide (x0 > y1)) (
 Q (.int .i64 1) H2) (
 Q (.int .i64 0) H2))))
set_option maxRecDepth 100000 in
theorem fw_cmp_Compare_int64 {x0 y1 : Int} {H : AH} {Q : Value → AH → Prop} (h : VC_cmp_Compare_int64 x0 y1 H Q) : FW Ee F_cmp_Compare_int64 [.int .i64 x0, .int .i64 y1] H Q :=
  letI : Sy := sy0
  wpF_sound (A := ⟨[], []⟩) (Eq.mp (by kernel_rfl) h)
def VC_graph_Find_1 (z0 z1 : Int) (z2 : Option Addr) (z3 z4 : Nat) (id1 : Int) (H : AH) (Q : Value → AH → Prop) : Prop :=
 ∀ (H1 : AH),
 H1 = H.new (.cells [.int .i64 z0, .int .i64 z1, .slice z2 z3 z4] 0) →
 ∃ (t6 : Int),
 H1.cell H.next 0 = some (.int .i64 t6) ∧
 FW Ee F_cmp_Compare_int64 [.int .i64 t6, .int .i64 id1] H1 fun v H2 =>
 ∃ (r8 : Int),
 v = .int .i64 r8 ∧
 Q (.int .i64 r8) H2
set_option maxRecDepth 100000 in
theorem fw_graph_Find_1 {z0 z1 : Int} {z2 : Option Addr} {z3 z4 : Nat} {id1 : Int} {H : AH} {Q : Value → AH → Prop} (h : VC_graph_Find_1 z0 z1 z2 z3 z4 id1 H Q) : FW Ee F_graph_Find_1 [.agg ⟨[.int .i64 z0, .int .i64 z1, .slice z2 z3 z4]⟩, .int .i64 id1] H Q :=
  letI : Sy := sy0
  wpF_sound (A := ⟨[], []⟩) (Eq.mp (by kernel_rfl) h)
def VC_slices_BinarySearchFunc_L_api_Vertex_api_Vertex_int64 (x0a : Option Addr) (x0l x0c : Nat) (target1 : Int) (H : AH) (Q : Value → AH → Prop) : Prop :=
 ∃ (Inv : Nat → Int → Int → AH → Prop),
 (
 ∃ (n_1 : Nat),
 Inv n_1 0 (((x0l : Nat) : Int)) H) ∧
 ∀ (n : Nat),
 ∀ (i9 j10 : Int) (H1 : AH),
 Inv n i9 j10 H1 →
 cond (decide (i9 < j10)) (
 ∀ (t20 : Int),
 t20 = IntKind.i64.wrap (i9 + j10) →
 ∀ (t21 : Int),
 t21 = IntKind.u64.wrap (t20) →
 (0 : Int) ≤ 1 ∧
 ∀ (t22 : Int),
 t22 = (t21 : Int).fdiv (2 ^ (min (1 : Int).toNat IntKind.u64.bits)) →
 ∀ (t23 : Int),
 t23 = IntKind.i64.wrap (t22) →
 grd x0a.isSome (
 (0 : Int) ≤ t23 ∧
 (t23 : Int) < ((x0l : Nat) : Int) ∧
 ∃ (z0 z1 : Int) (z2 : Option Addr) (z3 z4 : Nat),
 H1.cell ((adr x0a).block) ((adr x0a).off + (t23 : Int).toNat * 3 + 0) = some (.int .i64 z0) ∧
 H1.cell ((adr x0a).block) ((adr x0a).off + (t23 : Int).toNat * 3 + 1) = some (.int .i64 z1) ∧
 H1.cell ((adr x0a).block) ((adr x0a).off + (t23 : Int).toNat * 3 + 2) = some (.slice z2 z3 z4) ∧
 FW Ee F_graph_Find_1 [.agg ⟨[.int .i64 z0, .int .i64 z1, .slice z2 z3 z4]⟩, .int .i64 target1] H1 fun v H2 =>
 ∃ (r30 : Int),
 v = .int .i64 r30 ∧
 cond (decide (r30 < 0)) (
 ∀ (t33 : Int),
 t33 = IntKind.i64.wrap (t23 + 1) →
 ∃ (m : Nat),
 m < n ∧
 Inv m t33 j10 H2) (
 ∃ (m : Nat),
 m < n ∧
 Inv m i9 t23 H2))) (
 cond (decide (i9 < (((x0l : Nat) : Int)))) (
 grd x0a.isSome (
 (0 : Int) ≤ i9 ∧
 (i9 : Int) < ((x0l : Nat) : Int) ∧
 ∃ (z5 z6 : Int) (z7 : Option Addr) (z8 z9 : Nat),
 H1.cell ((adr x0a).block) ((adr x0a).off + (i9 : Int).toNat * 3 + 0) = some (.int .i64 z5) ∧
 H1.cell ((adr x0a).block) ((adr x0a).off + (i9 : Int).toNat * 3 + 1) = some (.int .i64 z6) ∧
 H1.cell ((adr x0a).block) ((adr x0a).off + (i9 : Int).toNat * 3 + 2) = some (.slice z7 z8 z9) ∧
 FW Ee F_graph_Find_1 [.agg ⟨[.int .i64 z5, .int .i64 z6, .slice z7 z8 z9]⟩, .int .i64 target1] H1 fun v_1 H3 =>
 ∃ (r46 : Int),
 v_1 = .int .i64 r46 ∧
 Q (.tuple ⟨[.int .i64 i9, .bool (r46 == 0)]⟩) H3)) (
 Q (.tuple ⟨[.int .i64 i9, .bool false]⟩) H1))
set_option maxRecDepth 100000 in
theorem fw_slices_BinarySearchFunc_L_api_Vertex_api_Vertex_int64 {x0a : Option Addr} {x0l x0c : Nat} {target1 : Int} {H : AH} {Q : Value → AH → Prop} (h : VC_slices_BinarySearchFunc_L_api_Vertex_api_Vertex_int64 x0a x0l x0c target1 H Q) : FW Ee F_slices_BinarySearchFunc_L_api_Vertex_api_Vertex_int64 [.slice x0a x0l x0c, .int .i64 target1, .func (.func F_graph_Find_1) ⟨[]⟩ ⟨[]⟩] H Q :=
  letI : Sy := sy0
  wpF_sound (A := ⟨[], []⟩) (Eq.mp (by kernel_rfl) h)
def VC_graph_Find (z0 : Option Addr) (z1 z2 : Nat) (id1 : Int) (H : AH) (Q : Value → AH → Prop) : Prop :=
 ∀ (H1 : AH),
 H1 = H.new (.cells [.slice z0 z1 z2] 0) →
 ∃ (t7a : Option Addr) (t7l t7c : Nat),
 H1.cell H.next 0 = some (.slice t7a t7l t7c) ∧
 FW Ee F_slices_BinarySearchFunc_L_api_Vertex_api_Vertex_int64 [.slice t7a t7l t7c, .int .i64 id1, .func (.func F_graph_Find_1) ⟨[]⟩ ⟨[]⟩] H1 fun v H2 =>
 ∃ (z3 : Int) (z4 : Bool),
 v = .tuple ⟨[.int .i64 z3, .bool z4]⟩ ∧
 Q (.tuple ⟨[.int .i64 z3, .bool z4]⟩) H2
set_option maxRecDepth 100000 in
theorem fw_graph_Find {z0 : Option Addr} {z1 z2 : Nat} {id1 : Int} {H : AH} {Q : Value → AH → Prop} (h : VC_graph_Find z0 z1 z2 id1 H Q) : FW Ee F_graph_Find [.agg ⟨[.slice z0 z1 z2]⟩, .int .i64 id1] H Q :=
  letI : Sy := sy0
  wpF_sound (A := ⟨[], []⟩) (Eq.mp (by kernel_rfl) h)
def VC_graph_All (z0 : Option Addr) (z1 z2 : Nat) (H : AH) (Q : Value → AH → Prop) : Prop :=
 ∀ (H1 : AH),
 H1 = H.new (.cells [.slice z0 z1 z2] 0) →
 Q (.func (.func F_graph_All_1) ⟨[]⟩ ⟨[.pointer (some ⟨H.next, 0, none⟩)]⟩) H1
set_option maxRecDepth 100000 in
theorem fw_graph_All {z0 : Option Addr} {z1 z2 : Nat} {H : AH} {Q : Value → AH → Prop} (h : VC_graph_All z0 z1 z2 H Q) : FW Ee F_graph_All [.agg ⟨[.slice z0 z1 z2]⟩] H Q :=
  letI : Sy := sy0
  wpF_sound (A := ⟨[], []⟩) (Eq.mp (by kernel_rfl) h)
def VC_graph_All_1 (yield0l t1b t1o : Nat) (H : AH) (Q : Value → AH → Prop) : Prop :=
 ∃ (t8a : Option Addr) (t8l t8c : Nat),
 H.cell t1b t1o = some (.slice t8a t8l t8c) ∧
 ∃ (Inv : Nat → Int → AH → Prop),
 (
 ∃ (n_1 : Nat),
 Inv n_1 0 H) ∧
 ∀ (n : Nat),
 ∀ (t10 : Int) (H1 : AH),
 Inv n t10 H1 →
 cond (decide (t10 < (((t8l : Nat) : Int)))) (
 grd t8a.isSome (
 (0 : Int) ≤ t10 ∧
 (t10 : Int) < ((t8l : Nat) : Int) ∧
 ∃ (z0 z1 : Int) (z2 : Option Addr) (z3 z4 : Nat),
 H1.cell ((adr t8a).block) ((adr t8a).off + (t10 : Int).toNat * 3 + 0) = some (.int .i64 z0) ∧
 H1.cell ((adr t8a).block) ((adr t8a).off + (t10 : Int).toNat * 3 + 1) = some (.int .i64 z1) ∧
 H1.cell ((adr t8a).block) ((adr t8a).off + (t10 : Int).toNat * 3 + 2) = some (.slice z2 z3 z4) ∧
 ∀ (H2 : AH),
 H2 = H1.new (.cells [.int .i64 0, .int .i64 0, .slice none 0 0] 0) →
 ∃ (H3 : AH),
 storeCellsv H2 H1.next 0 [.int .i64 z0, .int .i64 z1, .slice z2 z3 z4] = some H3 ∧
 ∃ (t15a : Option Addr) (t15l t15c : Nat),
 H3.cell H1.next 2 = some (.slice t15a t15l t15c) ∧
 ∃ (Inv_1 : Nat → Int → AH → Prop),
 (
 ∃ (n_3 : Nat),
 Inv_1 n_3 0 H3) ∧
 ∀ (n_2 : Nat),
 ∀ (t17 : Int) (H4 : AH),
 Inv_1 n_2 t17 H4 →
 cond (decide (t17 < (((t15l : Nat) : Int)))) (
 grd t15a.isSome (
 (0 : Int) ≤ t17 ∧
 (t17 : Int) < ((t15l : Nat) : Int) ∧
 ∃ (z5 z6 : Int),
 H4.cell ((adr t15a).block) ((adr t15a).off + (t17 : Int).toNat * 2 + 0) = some (.int .i64 z5) ∧
 H4.cell ((adr t15a).block) ((adr t15a).off + (t17 : Int).toNat * 2 + 1) = some (.int .i64 z6) ∧
 ∀ (H5 : AH),
 H5 = H4.new (.cells [.int .i64 0, .int .i64 0] 0) →
 ∃ (H6 : AH),
 storeCellsv H5 H4.next 0 [.int .i64 z5, .int .i64 z6] = some H6 ∧
 ∃ (t23 : Int),
 H6.cell H1.next 0 = some (.int .i64 t23) ∧
 ∃ (z7 z8 : Int),
 H6.cell H4.next (0 + 0) = some (.int .i64 z7) ∧
 H6.cell H4.next (0 + 1) = some (.int .i64 z8) ∧
 RW Ee yield0l [.int .i64 t23, .agg ⟨[.int .i64 z7, .int .i64 z8]⟩] H6 fun v H7 =>
 ∃ (t25 : Bool),
 v = .bool t25 ∧
 cond (!t25) (
 Q (.tuple ⟨[]⟩) H7) (
 ∀ (t27 : Int),
 t27 = IntKind.i64.wrap (t17 + 1) →
 ∃ (m_1 : Nat),
 m_1 < n_2 ∧
 Inv_1 m_1 t27 H7))) (
 ∀ (t28 : Int),
 t28 = IntKind.i64.wrap (t10 + 1) →
 ∃ (m : Nat),
 m < n ∧
 Inv m t28 H4))) (
 Q (.tuple ⟨[]⟩) H1)
set_option maxRecDepth 100000 in
theorem fw_graph_All_1 {yield0l t1b t1o : Nat} {H : AH} {Q : Value → AH → Prop} (h : VC_graph_All_1 yield0l t1b t1o H Q) : FW Ee F_graph_All_1 [.func (.yield yield0l) ⟨[]⟩ ⟨[]⟩, .pointer (some ⟨t1b, t1o, none⟩)] H Q :=
  letI : Sy := sy0
  wpF_sound (A := ⟨[], []⟩) (Eq.mp (by kernel_rfl) h)
end Go.Proofs.Cx
namespace Go.Proofs.Cx
open Go Go.Ev
set_option linter.unusedVariables false
set_option maxRecDepth 100000
set_option maxHeartbeats 8000000
def VC_wire_Writer_Text (w0b : Nat) (s1 : List UInt8) (H : AH) (Q : Value → AH → Prop) : Prop :=
 ∀ (t7 : Int),
 t7 = IntKind.u64.wrap ((((s1 : List UInt8).length : Nat) : Int)) →
 FW Ee F_wire_Writer_Number [.pointer (some ⟨w0b, 0, none⟩), .int .u64 t7] H fun v H1 =>
 v = .tuple ⟨[]⟩ ∧
 FW Ee F_wire_Writer_Bytes [.pointer (some ⟨w0b, 0, none⟩), .string ⟨⟨s1⟩⟩] H1 fun v_1 H2 =>
 v_1 = .tuple ⟨[]⟩ ∧
 Q (.tuple ⟨[]⟩) H2
set_option maxRecDepth 100000 in
theorem fw_wire_Writer_Text {w0b : Nat} {s1 : List UInt8} {H : AH} {Q : Value → AH → Prop} (h : VC_wire_Writer_Text w0b s1 H Q) : FW Ee F_wire_Writer_Text [.pointer (some ⟨w0b, 0, none⟩), .string ⟨⟨s1⟩⟩] H Q :=
  letI : Sy := sy0
  wpF_sound (A := ⟨[], []⟩) (Eq.mp (by kernel_rfl) h)
def VC_wire_Reader_Bytes (r0b : Nat) (n1 : Int) (H : AH) (Q : Value → AH → Prop) : Prop :=
 FW Ee F_wire_Reader_Err [.pointer (some ⟨r0b, 0, none⟩)] H fun v H1 =>
 ∃ (r7 : Int),
 v = .int .i64 r7 ∧
 cond (r7 != 0) (
 Q (.string ⟨⟨[]⟩⟩) H1) (
 cond (decide (n1 < 0)) (
 ∃ (H2 : AH),
 storeCellsv H1 r0b 2 [.int .i64 1] = some H2 ∧
 Q (.string ⟨⟨[]⟩⟩) H2) (
 ∃ (t19 : List UInt8),
 H1.cell r0b 0 = some (.string ⟨⟨t19⟩⟩) ∧
 ∃ (t24 : Int),
 H1.cell r0b 1 = some (.int .i64 t24) ∧
 ∀ (t25 : Int),
 t25 = IntKind.i64.wrap (((((t19 : List UInt8).length : Nat) : Int)) - t24) →
 cond (decide (t25 < n1)) (
 ∃ (H3 : AH),
 storeCellsv H1 r0b 2 [.int .i64 4] = some H3 ∧
 Q (.string ⟨⟨[]⟩⟩) H3) (
 ∃ (t34 : Int),
 H1.cell r0b 1 = some (.int .i64 t34) ∧
 ∀ (t36 : Int),
 t36 = IntKind.i64.wrap (t34 + n1) →
 ∃ (H4 : AH),
 storeCellsv H1 r0b 1 [.int .i64 t36] = some H4 ∧
 ∃ (t42 : List UInt8),
 H4.cell r0b 0 = some (.string ⟨⟨t42⟩⟩) ∧
 ∃ (t46 : Int),
 H4.cell r0b 1 = some (.int .i64 t46) ∧
 ∀ (t48 : Int),
 t48 = IntKind.i64.wrap (t46 - n1) →
 ∃ (t52 : Int),
 H4.cell r0b 1 = some (.int .i64 t52) ∧
 ∃ (t53 : List UInt8),
 strv t42 (some (.int .i64 t48)) (some (.int .i64 t52)) = some (.string ⟨⟨t53⟩⟩) ∧
 Q (.string ⟨⟨t53⟩⟩) H4)))
set_option maxRecDepth 100000 in
theorem fw_wire_Reader_Bytes {r0b : Nat} {n1 : Int} {H : AH} {Q : Value → AH → Prop} (h : VC_wire_Reader_Bytes r0b n1 H Q) : FW Ee F_wire_Reader_Bytes [.pointer (some ⟨r0b, 0, none⟩), .int .i64 n1] H Q :=
  letI : Sy := sy0
  wpF_sound (A := ⟨[], []⟩) (Eq.mp (by kernel_rfl) h)
def VC_wire_Reader_Text (r0b : Nat) (H : AH) (Q : Value → AH → Prop) : Prop :=
 FW Ee F_wire_Reader_At [.pointer (some ⟨r0b, 0, none⟩)] H fun v H1 =>
 ∃ (r6 : Int),
 v = .int .i64 r6 ∧
 FW Ee F_wire_Reader_Number [.pointer (some ⟨r0b, 0, none⟩)] H1 fun v_1 H2 =>
 ∃ (r8 : Int),
 v_1 = .int .u64 r8 ∧
 FW Ee F_wire_Reader_Err [.pointer (some ⟨r0b, 0, none⟩)] H2 fun v_2 H3 =>
 ∃ (r10 : Int),
 v_2 = .int .i64 r10 ∧
 cond (r10 != 0) (
 Q (.string ⟨⟨[]⟩⟩) H3) (
 FW Ee F_wire_Reader_Left [.pointer (some ⟨r0b, 0, none⟩)] H3 fun v_3 H4 =>
 ∃ (r14 : Int),
 v_3 = .int .i64 r14 ∧
 ∀ (t15 : Int),
 t15 = IntKind.u64.wrap (r14) →
 cond (decide (r8 > t15)) (
 ∃ (H5 : AH),
 storeCellsv H4 r0b 1 [.int .i64 r6] = some H5 ∧
 ∃ (H6 : AH),
 storeCellsv H5 r0b 2 [.int .i64 4] = some H6 ∧
 Q (.string ⟨⟨[]⟩⟩) H6) (
 ∀ (t26 : Int),
 t26 = IntKind.i64.wrap (r8) →
 FW Ee F_wire_Reader_Bytes [.pointer (some ⟨r0b, 0, none⟩), .int .i64 t26] H4 fun v_4 H7 =>
 ∃ (r27 : List UInt8),
 v_4 = .string ⟨⟨r27⟩⟩ ∧
 Q (.string ⟨⟨r27⟩⟩) H7))
set_option maxRecDepth 100000 in
theorem fw_wire_Reader_Text {r0b : Nat} {H : AH} {Q : Value → AH → Prop} (h : VC_wire_Reader_Text r0b H Q) : FW Ee F_wire_Reader_Text [.pointer (some ⟨r0b, 0, none⟩)] H Q :=
  letI : Sy := sy0
  wpF_sound (A := ⟨[], []⟩) (Eq.mp (by kernel_rfl) h)
def VC_run_Encode (z0 z1 z2 : Int) (z3 : Option Addr) (z4 z5 : Nat) (H : AH) (Q : Value → AH → Prop) : Prop :=
 ∀ (H1 : AH),
 H1 = H.new (.cells [.int .i64 z0, .int .i64 z1, .int .i64 z2, .slice z3 z4 z5] 0) →
 FW Ee F_wire_NewWriter [] H1 fun v H2 =>
 ∃ (r6 : Option Addr),
 v = .pointer r6 ∧
 ∃ (t9 : Int),
 H2.cell H.next 0 = some (.int .i64 t9) ∧
 FW Ee F_wire_Writer_Count [.pointer r6, .int .i64 t9] H2 fun v_1 H3 =>
 v_1 = .tuple ⟨[]⟩ ∧
 ∃ (t13 : Int),
 H3.cell H.next 1 = some (.int .i64 t13) ∧
 FW Ee F_wire_Writer_Count [.pointer r6, .int .i64 t13] H3 fun v_2 H4 =>
 v_2 = .tuple ⟨[]⟩ ∧
 ∃ (t17 : Int),
 H4.cell H.next 2 = some (.int .i64 t17) ∧
 FW Ee F_wire_Writer_Count [.pointer r6, .int .i64 t17] H4 fun v_3 H5 =>
 v_3 = .tuple ⟨[]⟩ ∧
 ∃ (t21a : Option Addr) (t21l t21c : Nat),
 H5.cell H.next 3 = some (.slice t21a t21l t21c) ∧
 FW Ee F_wire_Writer_Count [.pointer r6, .int .i64 (((t21l : Nat) : Int))] H5 fun v_4 H6 =>
 v_4 = .tuple ⟨[]⟩ ∧
 ∃ (t25a : Option Addr) (t25l t25c : Nat),
 H6.cell H.next 3 = some (.slice t25a t25l t25c) ∧
 ∃ (Inv : Nat → Int → AH → Prop),
 (
 ∃ (n_1 : Nat),
 Inv n_1 0 H6) ∧
 ∀ (n : Nat),
 ∀ (t27 : Int) (H7 : AH),
 Inv n t27 H7 →
 cond (decide (t27 < (((t25l : Nat) : Int)))) (
 grd t25a.isSome (
 (0 : Int) ≤ t27 ∧
 (t27 : Int) < ((t25l : Nat) : Int) ∧
 ∃ (z6 z7 : Int),
 H7.cell ((adr t25a).block) ((adr t25a).off + (t27 : Int).toNat * 2 + 0) = some (.int .i64 z6) ∧
 H7.cell ((adr t25a).block) ((adr t25a).off + (t27 : Int).toNat * 2 + 1) = some (.int .i64 z7) ∧
 ∀ (H8 : AH),
 H8 = H7.new (.cells [.int .i64 0, .int .i64 0] 0) →
 ∃ (H9 : AH),
 storeCellsv H8 H7.next 0 [.int .i64 z6, .int .i64 z7] = some H9 ∧
 ∃ (t33 : Int),
 H9.cell H7.next 0 = some (.int .i64 t33) ∧
 FW Ee F_wire_Writer_Signed [.pointer r6, .int .i64 t33] H9 fun v_5 H10 =>
 v_5 = .tuple ⟨[]⟩ ∧
 ∃ (t37 : Int),
 H10.cell H7.next 1 = some (.int .i64 t37) ∧
 FW Ee F_wire_Writer_Signed [.pointer r6, .int .i64 t37] H10 fun v_6 H11 =>
 v_6 = .tuple ⟨[]⟩ ∧
 ∀ (t39 : Int),
 t39 = IntKind.i64.wrap (t27 + 1) →
 ∃ (m : Nat),
 m < n ∧
 Inv m t39 H11)) (
 FW Ee F_wire_Writer_All [.pointer r6] H7 fun v_7 H12 =>
 ∃ (r41 : List UInt8),
 v_7 = .string ⟨⟨r41⟩⟩ ∧
 Q (.string ⟨⟨r41⟩⟩) H12)
set_option maxRecDepth 100000 in
theorem fw_run_Encode {z0 z1 z2 : Int} {z3 : Option Addr} {z4 z5 : Nat} {H : AH} {Q : Value → AH → Prop} (h : VC_run_Encode z0 z1 z2 z3 z4 z5 H Q) : FW Ee F_run_Encode [.agg ⟨[.int .i64 z0, .int .i64 z1, .int .i64 z2, .slice z3 z4 z5]⟩] H Q :=
  letI : Sy := sy0
  wpF_sound (A := ⟨[], []⟩) (Eq.mp (by kernel_rfl) h)
def VC_run_Decode (s0 : List UInt8) (H : AH) (Q : Value → AH → Prop) : Prop :=
 ∀ (H1 : AH),
 H1 = H.new (.cells [.int .i64 0, .int .i64 0, .int .i64 0, .slice none 0 0] 0) →
 FW Ee F_wire_NewReader [.string ⟨⟨s0⟩⟩] H1 fun v H2 =>
 ∃ (r9 : Option Addr),
 v = .pointer r9 ∧
 FW Ee F_wire_Reader_Count [.pointer r9, .int .i64 2] H2 fun v_1 H3 =>
 ∃ (r11 : Int),
 v_1 = .int .i64 r11 ∧
 FW Ee F_wire_Reader_Count [.pointer r9, .int .i64 1000] H3 fun v_2 H4 =>
 ∃ (r13 : Int),
 v_2 = .int .i64 r13 ∧
 FW Ee F_wire_Reader_Count [.pointer r9, .int .i64 1000] H4 fun v_3 H5 =>
 ∃ (r15 : Int),
 v_3 = .int .i64 r15 ∧
 ∀ (H6 : AH),
 H6 = H5.new (.cells [.int .i64 0, .int .i64 0, .int .i64 0, .slice none 0 0] 0) →
 ∃ (H7 : AH),
 storeCellsv H6 H5.next 0 [.int .i64 r11, .int .i64 r13, .int .i64 r15, .slice none 0 0] = some H7 ∧
 FW Ee F_wire_Reader_Count [.pointer r9, .int .i64 256] H7 fun v_4 H8 =>
 ∃ (r18 : Int),
 v_4 = .int .i64 r18 ∧
 ∃ (Inv : Nat → Int → AH → Prop),
 (
 ∃ (n_1 : Nat),
 Inv n_1 r18 H8) ∧
 ∀ (n : Nat),
 ∀ (n6 : Int) (H9 : AH),
 Inv n n6 H9 →
 cond (decide (n6 > 0)) (
 FW Ee F_wire_Reader_Err [.pointer r9] H9 fun v_5 H10 =>
 ∃ (r23 : Int),
 v_5 = .int .i64 r23 ∧
 cond (r23 == 0) (
 ∃ (t29a : Option Addr) (t29l t29c : Nat),
 H10.cell H5.next 3 = some (.slice t29a t29l t29c) ∧
 FW Ee F_wire_Reader_Signed [.pointer r9] H10 fun v_6 H11 =>
 ∃ (r31 : Int),
 v_6 = .int .i64 r31 ∧
 FW Ee F_wire_Reader_Signed [.pointer r9] H11 fun v_7 H12 =>
 ∃ (r33 : Int),
 v_7 = .int .i64 r33 ∧
 ∀ (H13 : AH),
 H13 = H12.new (.cells [.int .i64 r31, .int .i64 r33] 0) →
 ∃ (t36a : Option Addr) (t36l t36c : Nat) (H14 : AH),
 apnd H13 2 16 t29a t29l t29c (.slice (some ⟨H12.next, 0, none⟩) 1 2) = some (.slice t36a t36l t36c, H14) ∧
 ∃ (H15 : AH),
 storeCellsv H14 H5.next 3 [.slice t36a t36l t36c] = some H15 ∧
 H13.cell H5.next 3 = some (.slice t29a t29l t29c) ∧
 H11.cell H5.next 3 = some (.slice t29a t29l t29c) ∧
 ∀ (t27 : Int),
 t27 = IntKind.i64.wrap (n6 - 1) →
 ∃ (m : Nat),
 m < n ∧
 Inv m t27 H15) (
 FW Ee F_wire_Reader_End [.pointer r9] H10 fun v_8 H16 =>
 ∃ (r39 : Int),
 v_8 = .int .i64 r39 ∧
 cond (r39 != 0) (
 ∃ (H17 : AH),
 storeCellsv H16 H.next 0 [.int .i64 0, .int .i64 0, .int .i64 0, .slice none 0 0] = some H17 ∧
 ∃ (z0 z1 z2 : Int) (z3 : Option Addr) (z4 z5 : Nat),
 H17.cell H.next (0 + 0) = some (.int .i64 z0) ∧
 H17.cell H.next (0 + 1) = some (.int .i64 z1) ∧
 H17.cell H.next (0 + 2) = some (.int .i64 z2) ∧
 H17.cell H.next (0 + 3) = some (.slice z3 z4 z5) ∧
 Q (.tuple ⟨[.agg ⟨[.int .i64 z0, .int .i64 z1, .int .i64 z2, .slice z3 z4 z5]⟩, .int .i64 r39]⟩) H17) (
 ∃ (z6 z7 z8 : Int) (z9 : Option Addr) (z10 z11 : Nat),
 H16.cell H5.next (0 + 0) = some (.int .i64 z6) ∧
 H16.cell H5.next (0 + 1) = some (.int .i64 z7) ∧
 H16.cell H5.next (0 + 2) = some (.int .i64 z8) ∧
 H16.cell H5.next (0 + 3) = some (.slice z9 z10 z11) ∧
 ∃ (H18 : AH),
 storeCellsv H16 H.next 0 [.int .i64 z6, .int .i64 z7, .int .i64 z8, .slice z9 z10 z11] = some H18 ∧
 ∃ (z12 z13 z14 : Int) (z15 : Option Addr) (z16 z17 : Nat),
 H18.cell H.next (0 + 0) = some (.int .i64 z12) ∧
 H18.cell H.next (0 + 1) = some (.int .i64 z13) ∧
 H18.cell H.next (0 + 2) = some (.int .i64 z14) ∧
 H18.cell H.next (0 + 3) = some (.slice z15 z16 z17) ∧
 Q (.tuple ⟨[.agg ⟨[.int .i64 z12, .int .i64 z13, .int .i64 z14, .slice z15 z16 z17]⟩, .int .i64 0]⟩) H18))) (
 FW Ee F_wire_Reader_End [.pointer r9] H9 fun v_9 H19 =>
 ∃ (z18 : Int),
 v_9 = .int .i64 z18 ∧
 cond (z18 != 0) (
 ∃ (H20 : AH),
 storeCellsv H19 H.next 0 [.int .i64 0, .int .i64 0, .int .i64 0, .slice none 0 0] = some H20 ∧
 ∃ (z19 z20 z21 : Int) (z22 : Option Addr) (z23 z24 : Nat),
 H20.cell H.next (0 + 0) = some (.int .i64 z19) ∧
 H20.cell H.next (0 + 1) = some (.int .i64 z20) ∧
 H20.cell H.next (0 + 2) = some (.int .i64 z21) ∧
 H20.cell H.next (0 + 3) = some (.slice z22 z23 z24) ∧
 Q (.tuple ⟨[.agg ⟨[.int .i64 z19, .int .i64 z20, .int .i64 z21, .slice z22 z23 z24]⟩, .int .i64 z18]⟩) H20) (
 ∃ (z25 z26 z27 : Int) (z28 : Option Addr) (z29 z30 : Nat),
 H19.cell H5.next (0 + 0) = some (.int .i64 z25) ∧
 H19.cell H5.next (0 + 1) = some (.int .i64 z26) ∧
 H19.cell H5.next (0 + 2) = some (.int .i64 z27) ∧
 H19.cell H5.next (0 + 3) = some (.slice z28 z29 z30) ∧
 ∃ (H21 : AH),
 storeCellsv H19 H.next 0 [.int .i64 z25, .int .i64 z26, .int .i64 z27, .slice z28 z29 z30] = some H21 ∧
 ∃ (z31 z32 z33 : Int) (z34 : Option Addr) (z35 z36 : Nat),
 H21.cell H.next (0 + 0) = some (.int .i64 z31) ∧
 H21.cell H.next (0 + 1) = some (.int .i64 z32) ∧
 H21.cell H.next (0 + 2) = some (.int .i64 z33) ∧
 H21.cell H.next (0 + 3) = some (.slice z34 z35 z36) ∧
 Q (.tuple ⟨[.agg ⟨[.int .i64 z31, .int .i64 z32, .int .i64 z33, .slice z34 z35 z36]⟩, .int .i64 0]⟩) H21))
set_option maxRecDepth 100000 in
theorem fw_run_Decode {s0 : List UInt8} {H : AH} {Q : Value → AH → Prop} (h : VC_run_Decode s0 H Q) : FW Ee F_run_Decode [.string ⟨⟨s0⟩⟩] H Q :=
  letI : Sy := sy0
  wpF_sound (A := ⟨[], []⟩) (Eq.mp (by kernel_rfl) h)
end Go.Proofs.Cx
namespace Go.Proofs.Cx
open Go Go.Ev
set_option linter.unusedVariables false
set_option maxRecDepth 100000
set_option maxHeartbeats 8000000
def VC_graph_edges (z0 : Option Addr) (z1 z2 : Nat) (z3 z4 : Int) (z5 : Option Addr) (z6 z7 : Nat) (H : AH) (Q : Value → AH → Prop) : Prop :=
 ∀ (H1 : AH),
 H1 = H.new (.cells [.slice z0 z1 z2] 0) →
 ∀ (H2 : AH),
 H2 = H1.new (.cells [.int .i64 z3, .int .i64 z4, .slice z5 z6 z7] 0) →
 ∃ (t10a : Option Addr) (t10l t10c : Nat),
 H2.cell H1.next 2 = some (.slice t10a t10l t10c) ∧
 ∃ (Inv : Nat → Bool → Int → AH → Prop),
 (
 ∃ (n_1 : Nat),
 Inv n_1 false 0 H2) ∧
 ∀ (n : Nat),
 ∀ (t4 : Bool) (t12 : Int) (H3 : AH),
 Inv n t4 t12 H3 →
 cond (decide (t12 < (((t10l : Nat) : Int)))) (
 grd t10a.isSome (
 (0 : Int) ≤ t12 ∧
 (t12 : Int) < ((t10l : Nat) : Int) ∧
 ∃ (z8 z9 : Int),
 H3.cell ((adr t10a).block) ((adr t10a).off + (t12 : Int).toNat * 2 + 0) = some (.int .i64 z8) ∧
 H3.cell ((adr t10a).block) ((adr t10a).off + (t12 : Int).toNat * 2 + 1) = some (.int .i64 z9) ∧
 ∀ (H4 : AH),
 H4 = H3.new (.cells [.int .i64 0, .int .i64 0] 0) →
 ∃ (H5 : AH),
 storeCellsv H4 H3.next 0 [.int .i64 z8, .int .i64 z9] = some H5 ∧
 ∃ (z10 : Option Addr) (z11 z12 : Nat),
 H5.cell H.next (0 + 0) = some (.slice z10 z11 z12) ∧
 ∃ (t20 : Int),
 H5.cell H3.next 0 = some (.int .i64 t20) ∧
 FW Ee F_graph_Find [.agg ⟨[.slice z10 z11 z12]⟩, .int .i64 t20] H5 fun v H6 =>
 ∃ (z13 : Int) (z14 : Bool),
 v = .tuple ⟨[.int .i64 z13, .bool z14]⟩ ∧
 cond (!z14) (
 Q (.bool false) H6) (
 cond (decide (t12 > 0)) (
 ∃ (t31a : Option Addr) (t31l t31c : Nat),
 H6.cell H1.next 2 = some (.slice t31a t31l t31c) ∧
 ∀ (t33 : Int),
 t33 = IntKind.i64.wrap (t12 - 1) →
 grd t31a.isSome (
 (0 : Int) ≤ t33 ∧
 (t33 : Int) < ((t31l : Nat) : Int) ∧
 ∃ (t36 : Int),
 H6.cell ((adr t31a).block) ((adr t31a).off + (t33 : Int).toNat * 2) = some (.int .i64 t36) ∧
 ∃ (t38 : Int),
 H6.cell H3.next 0 = some (.int .i64 t38) ∧
 cond (decide (t36 ≥ t38)) (
 Q (.bool false) H6) (
 ∀ (t42 : Int),
 t42 = IntKind.i64.wrap (t12 + 1) →
 ∃ (m : Nat),
 m < n ∧
 Inv m t4 t42 H6))) (
 ∀ (z15 : Int),
 z15 = IntKind.i64.wrap (t12 + 1) →
 ∃ (m : Nat),
 m < n ∧
 Inv m t4 z15 H6)))) (
 Q (.bool true) H3)
set_option maxRecDepth 100000 in
theorem fw_graph_edges {z0 : Option Addr} {z1 z2 : Nat} {z3 z4 : Int} {z5 : Option Addr} {z6 z7 : Nat} {H : AH} {Q : Value → AH → Prop} (h : VC_graph_edges z0 z1 z2 z3 z4 z5 z6 z7 H Q) : FW Ee F_graph_edges [.agg ⟨[.slice z0 z1 z2]⟩, .agg ⟨[.int .i64 z3, .int .i64 z4, .slice z5 z6 z7]⟩] H Q :=
  letI : Sy := sy0
  wpF_sound (A := ⟨[], []⟩) (Eq.mp (by kernel_rfl) h)
def VC_graph_Edges (z0 : Option Addr) (z1 z2 : Nat) (H : AH) (Q : Value → AH → Prop) : Prop :=
 ∀ (H1 : AH),
 H1 = H.new (.cells [.slice z0 z1 z2] 0) →
 ∀ (H2 : AH),
 H2 = H1.new (.cells [.int .i64 0] 0) →
 ∃ (H3 : AH),
 storeCellsv H2 H1.next 0 [.int .i64 0] = some H3 ∧
 ∃ (z3 : Option Addr) (z4 z5 : Nat),
 H3.cell H.next (0 + 0) = some (.slice z3 z4 z5) ∧
 FW Ee F_graph_All [.agg ⟨[.slice z3 z4 z5]⟩] H3 fun v H4 =>
 ∃ (b5 : Nat),
 v = .func (.func F_graph_All_1) ⟨[]⟩ ⟨[.pointer (some ⟨b5, 0, none⟩)]⟩ ∧
 ∀ (L : ALoop),
 RdL 11 Ee.g [(3, .pointer (some ⟨H1.next, 0, none⟩))] (rfOf Ee F_graph_Edges 0) L →
 L.st = .ready →
 L.pend = none →
 FW Ee F_graph_All_1 [.func (.yield H4.next) ⟨[]⟩ ⟨[]⟩, .pointer (some ⟨b5, 0, none⟩)] (H4.new (.loop L)) fun _ H5 =>
 ∃ (L_1 : ALoop),
 H5.get H4.next = some (.loop L_1) ∧
 L_1.st ≠ .busy ∧
 match L_1.pend with
 | none =>
 ∃ (z6 : Int),
 (H5.set H4.next (.loop { L_1 with st := .exhausted })).cell H1.next 0 = some (.int .i64 z6) ∧
 Q (.int .i64 z6) ((H5.set H4.next (.loop { L_1 with st := .exhausted })))
 | some (.exit i) =>
 cond (Nat.beq i 0) (
 ∃ (t10 : Int),
 (H5.set H4.next (.loop { L_1 with st := .exhausted })).cell H1.next 0 = some (.int .i64 t10) ∧
 Q (.int .i64 t10) ((H5.set H4.next (.loop { L_1 with st := .exhausted })))) (
 False)
 | some .ret =>
 Q (.int .i64 0) ((H5.set H4.next (.loop { L_1 with st := .exhausted })))
 | _ =>
 False
set_option maxRecDepth 100000 in
theorem fw_graph_Edges {z0 : Option Addr} {z1 z2 : Nat} {H : AH} {Q : Value → AH → Prop} (h : VC_graph_Edges z0 z1 z2 H Q) : FW Ee F_graph_Edges [.agg ⟨[.slice z0 z1 z2]⟩] H Q :=
  letI : Sy := sy0
  wpF_sound (A := ⟨[], []⟩) (Eq.mp (by kernel_rfl) h)
def VC_graph_Edges_r0 (n3b n3o : Nat) (p6 z0 z1 : Int) (l : Nat) (H : AH) (Q : Value → AH → Prop) : Prop :=
 ∃ (L : ALoop),
 H.get l = some (.loop L) ∧
 L.st = .ready ∧
 L.body = (rfOf Ee F_graph_Edges 0).2.2 ∧
 ∃ (t8 : Int),
 (H.set l (.loop { L with st := .busy })).cell n3b n3o = some (.int .i64 t8) ∧
 ∀ (t9 : Int),
 t9 = IntKind.i64.wrap (t8 + 1) →
 ∃ (H1 : AH),
 storeCellsv ((H.set l (.loop { L with st := .busy }))) n3b n3o [.int .i64 t9] = some H1 ∧
 ∃ (L_1 : ALoop),
 H1.get l = some (.loop L_1) ∧
 Q (.bool true) (H1.set l (.loop { L_1 with st := .ready, pend := none }))
set_option maxRecDepth 100000 in
theorem rw_graph_Edges_r0 {n3b n3o : Nat} {p6 p7_To p7_Weight : Int} {l : Nat} {H : AH} {Q : Value → AH → Prop} {L : ALoop} (hl : H.get l = some (.loop L)) (hR : RdL 11 Ee.g [(3, .pointer (some ⟨n3b, n3o, none⟩))] (rfOf Ee F_graph_Edges 0) L) (h : VC_graph_Edges_r0 n3b n3o p6 p7_To p7_Weight l H Q) : RW Ee l [.int .i64 p6, .agg ⟨[.int .i64 p7_To, .int .i64 p7_Weight]⟩] H Q := by
  have e : VC_graph_Edges_r0 n3b n3o p6 p7_To p7_Weight l H Q = wpRound Ee ⟨[], []⟩ (frm 11 Ee.g [(3, .pointer (some ⟨n3b, n3o, none⟩))]) (rfOf Ee F_graph_Edges 0).1 (rfOf Ee F_graph_Edges 0).2.1 (rfOf Ee F_graph_Edges 0).2.2 l [.int .i64 p6, .agg ⟨[.int .i64 p7_To, .int .i64 p7_Weight]⟩] H Q := by kernel_rfl
  letI : Sy := sy0
  exact wpRoundR_sound hl hR (Eq.mp e h)
def VC_graph_Check (z0 : Option Addr) (z1 z2 : Nat) (H : AH) (Q : Value → AH → Prop) : Prop :=
 ∀ (H1 : AH),
 H1 = H.new (.cells [.slice z0 z1 z2] 0) →
 ∃ (t8a : Option Addr) (t8l t8c : Nat),
 H1.cell H.next 0 = some (.slice t8a t8l t8c) ∧
 cond (decide ((((t8l : Nat) : Int)) > 256)) (
 Q (.int .i64 30) H1) (
 ∃ (t12a : Option Addr) (t12l t12c : Nat),
 H1.cell H.next 0 = some (.slice t12a t12l t12c) ∧
 ∃ (Inv : Nat → Int → Int → AH → Prop),
 (
 ∃ (n_1 : Nat),
 Inv n_1 0 0 H1) ∧
 ∀ (n : Nat),
 ∀ (t2 t14 : Int) (H2 : AH),
 Inv n t2 t14 H2 →
 cond (decide (t14 < (((t12l : Nat) : Int)))) (
 grd t12a.isSome (
 (0 : Int) ≤ t14 ∧
 (t14 : Int) < ((t12l : Nat) : Int) ∧
 ∃ (z3 z4 : Int) (z5 : Option Addr) (z6 z7 : Nat),
 H2.cell ((adr t12a).block) ((adr t12a).off + (t14 : Int).toNat * 3 + 0) = some (.int .i64 z3) ∧
 H2.cell ((adr t12a).block) ((adr t12a).off + (t14 : Int).toNat * 3 + 1) = some (.int .i64 z4) ∧
 H2.cell ((adr t12a).block) ((adr t12a).off + (t14 : Int).toNat * 3 + 2) = some (.slice z5 z6 z7) ∧
 ∀ (H3 : AH),
 H3 = H2.new (.cells [.int .i64 0, .int .i64 0, .slice none 0 0] 0) →
 ∃ (H4 : AH),
 storeCellsv H3 H2.next 0 [.int .i64 z3, .int .i64 z4, .slice z5 z6 z7] = some H4 ∧
 cond (decide (t14 > 0)) (
 ∃ (t23a : Option Addr) (t23l t23c : Nat),
 H4.cell H.next 0 = some (.slice t23a t23l t23c) ∧
 ∀ (t25 : Int),
 t25 = IntKind.i64.wrap (t14 - 1) →
 grd t23a.isSome (
 (0 : Int) ≤ t25 ∧
 (t25 : Int) < ((t23l : Nat) : Int) ∧
 ∃ (t28 : Int),
 H4.cell ((adr t23a).block) ((adr t23a).off + (t25 : Int).toNat * 3) = some (.int .i64 t28) ∧
 ∃ (t30 : Int),
 H4.cell H2.next 0 = some (.int .i64 t30) ∧
 cond (decide (t28 ≥ t30)) (
 Q (.int .i64 30) H4) (
 ∀ (t33 : Int),
 t33 = IntKind.i64.wrap (t14 + 1) →
 ∃ (m : Nat),
 m < n ∧
 Inv m t2 t33 H4))) (
 ∀ (z8 : Int),
 z8 = IntKind.i64.wrap (t14 + 1) →
 ∃ (m : Nat),
 m < n ∧
 Inv m t2 z8 H4))) (
 ∃ (z9 : Option Addr) (z10 z11 : Nat),
 H2.cell H.next (0 + 0) = some (.slice z9 z10 z11) ∧
 FW Ee F_graph_Edges [.agg ⟨[.slice z9 z10 z11]⟩] H2 fun v H5 =>
 ∃ (r35 : Int),
 v = .int .i64 r35 ∧
 cond (decide (r35 > 2048)) (
 Q (.int .i64 31) H5) (
 ∃ (t38a : Option Addr) (t38l t38c : Nat),
 H5.cell H.next 0 = some (.slice t38a t38l t38c) ∧
 ∃ (Inv_1 : Nat → Int → Int → AH → Prop),
 (
 ∃ (n_3 : Nat),
 Inv_1 n_3 t2 0 H5) ∧
 ∀ (n_2 : Nat),
 ∀ (z12 t40 : Int) (H6 : AH),
 Inv_1 n_2 z12 t40 H6 →
 cond (decide (t40 < (((t38l : Nat) : Int)))) (
 grd t38a.isSome (
 (0 : Int) ≤ t40 ∧
 (t40 : Int) < ((t38l : Nat) : Int) ∧
 ∃ (z13 z14 : Int) (z15 : Option Addr) (z16 z17 : Nat),
 H6.cell ((adr t38a).block) ((adr t38a).off + (t40 : Int).toNat * 3 + 0) = some (.int .i64 z13) ∧
 H6.cell ((adr t38a).block) ((adr t38a).off + (t40 : Int).toNat * 3 + 1) = some (.int .i64 z14) ∧
 H6.cell ((adr t38a).block) ((adr t38a).off + (t40 : Int).toNat * 3 + 2) = some (.slice z15 z16 z17) ∧
 ∀ (H7 : AH),
 H7 = H6.new (.cells [.int .i64 0, .int .i64 0, .slice none 0 0] 0) →
 ∃ (H8 : AH),
 storeCellsv H7 H6.next 0 [.int .i64 z13, .int .i64 z14, .slice z15 z16 z17] = some H8 ∧
 ∃ (z18 : Option Addr) (z19 z20 : Nat),
 H8.cell H.next (0 + 0) = some (.slice z18 z19 z20) ∧
 ∃ (z21 z22 : Int) (z23 : Option Addr) (z24 z25 : Nat),
 H8.cell H6.next (0 + 0) = some (.int .i64 z21) ∧
 H8.cell H6.next (0 + 1) = some (.int .i64 z22) ∧
 H8.cell H6.next (0 + 2) = some (.slice z23 z24 z25) ∧
 FW Ee F_graph_edges [.agg ⟨[.slice z18 z19 z20]⟩, .agg ⟨[.int .i64 z21, .int .i64 z22, .slice z23 z24 z25]⟩] H8 fun v_1 H9 =>
 ∃ (r46 : Bool),
 v_1 = .bool r46 ∧
 cond (!r46) (
 Q (.int .i64 31) H9) (
 ∀ (t48 : Int),
 t48 = IntKind.i64.wrap (t40 + 1) →
 ∃ (m_1 : Nat),
 m_1 < n_2 ∧
 Inv_1 m_1 z12 t48 H9))) (
 Q (.int .i64 0) H6))))
set_option maxRecDepth 100000 in
theorem fw_graph_Check {z0 : Option Addr} {z1 z2 : Nat} {H : AH} {Q : Value → AH → Prop} (h : VC_graph_Check z0 z1 z2 H Q) : FW Ee F_graph_Check [.agg ⟨[.slice z0 z1 z2]⟩] H Q :=
  letI : Sy := sy0
  wpF_sound (A := ⟨[], []⟩) (Eq.mp (by kernel_rfl) h)
def VC_graph_PutVertex (w0b : Nat) (z0 z1 : Int) (z2 : Option Addr) (z3 z4 : Nat) (H : AH) (Q : Value → AH → Prop) : Prop :=
 ∀ (H1 : AH),
 H1 = H.new (.cells [.int .i64 z0, .int .i64 z1, .slice z2 z3 z4] 0) →
 ∃ (t8 : Int),
 H1.cell H.next 0 = some (.int .i64 t8) ∧
 FW Ee F_wire_Writer_Signed [.pointer (some ⟨w0b, 0, none⟩), .int .i64 t8] H1 fun v H2 =>
 v = .tuple ⟨[]⟩ ∧
 ∃ (t12 : Int),
 H2.cell H.next 1 = some (.int .i64 t12) ∧
 FW Ee F_wire_Writer_Signed [.pointer (some ⟨w0b, 0, none⟩), .int .i64 t12] H2 fun v_1 H3 =>
 v_1 = .tuple ⟨[]⟩ ∧
 ∃ (t16a : Option Addr) (t16l t16c : Nat),
 H3.cell H.next 2 = some (.slice t16a t16l t16c) ∧
 FW Ee F_wire_Writer_Count [.pointer (some ⟨w0b, 0, none⟩), .int .i64 (((t16l : Nat) : Int))] H3 fun v_2 H4 =>
 v_2 = .tuple ⟨[]⟩ ∧
 ∃ (t20a : Option Addr) (t20l t20c : Nat),
 H4.cell H.next 2 = some (.slice t20a t20l t20c) ∧
 ∃ (Inv : Nat → Int → AH → Prop),
 (
 ∃ (n_1 : Nat),
 Inv n_1 0 H4) ∧
 ∀ (n : Nat),
 ∀ (t22 : Int) (H5 : AH),
 Inv n t22 H5 →
 cond (decide (t22 < (((t20l : Nat) : Int)))) (
 grd t20a.isSome (
 (0 : Int) ≤ t22 ∧
 (t22 : Int) < ((t20l : Nat) : Int) ∧
 ∃ (z5 z6 : Int),
 H5.cell ((adr t20a).block) ((adr t20a).off + (t22 : Int).toNat * 2 + 0) = some (.int .i64 z5) ∧
 H5.cell ((adr t20a).block) ((adr t20a).off + (t22 : Int).toNat * 2 + 1) = some (.int .i64 z6) ∧
 ∀ (H6 : AH),
 H6 = H5.new (.cells [.int .i64 0, .int .i64 0] 0) →
 ∃ (H7 : AH),
 storeCellsv H6 H5.next 0 [.int .i64 z5, .int .i64 z6] = some H7 ∧
 ∃ (t28 : Int),
 H7.cell H5.next 0 = some (.int .i64 t28) ∧
 FW Ee F_wire_Writer_Signed [.pointer (some ⟨w0b, 0, none⟩), .int .i64 t28] H7 fun v_3 H8 =>
 v_3 = .tuple ⟨[]⟩ ∧
 ∃ (t32 : Int),
 H8.cell H5.next 1 = some (.int .i64 t32) ∧
 FW Ee F_wire_Writer_Signed [.pointer (some ⟨w0b, 0, none⟩), .int .i64 t32] H8 fun v_4 H9 =>
 v_4 = .tuple ⟨[]⟩ ∧
 ∀ (t34 : Int),
 t34 = IntKind.i64.wrap (t22 + 1) →
 ∃ (m : Nat),
 m < n ∧
 Inv m t34 H9)) (
 Q (.tuple ⟨[]⟩) H5)
set_option maxRecDepth 100000 in
theorem fw_graph_PutVertex {w0b : Nat} {z0 z1 : Int} {z2 : Option Addr} {z3 z4 : Nat} {H : AH} {Q : Value → AH → Prop} (h : VC_graph_PutVertex w0b z0 z1 z2 z3 z4 H Q) : FW Ee F_graph_PutVertex [.pointer (some ⟨w0b, 0, none⟩), .agg ⟨[.int .i64 z0, .int .i64 z1, .slice z2 z3 z4]⟩] H Q :=
  letI : Sy := sy0
  wpF_sound (A := ⟨[], []⟩) (Eq.mp (by kernel_rfl) h)
def VC_graph_Put (w0b : Nat) (z0 : Option Addr) (z1 z2 : Nat) (H : AH) (Q : Value → AH → Prop) : Prop :=
 ∀ (H1 : AH),
 H1 = H.new (.cells [.slice z0 z1 z2] 0) →
 ∃ (t8a : Option Addr) (t8l t8c : Nat),
 H1.cell H.next 0 = some (.slice t8a t8l t8c) ∧
 FW Ee F_wire_Writer_Count [.pointer (some ⟨w0b, 0, none⟩), .int .i64 (((t8l : Nat) : Int))] H1 fun v H2 =>
 v = .tuple ⟨[]⟩ ∧
 ∃ (t12a : Option Addr) (t12l t12c : Nat),
 H2.cell H.next 0 = some (.slice t12a t12l t12c) ∧
 ∃ (Inv : Nat → Int → AH → Prop),
 (
 ∃ (n_1 : Nat),
 Inv n_1 0 H2) ∧
 ∀ (n : Nat),
 ∀ (t14 : Int) (H3 : AH),
 Inv n t14 H3 →
 cond (decide (t14 < (((t12l : Nat) : Int)))) (
 grd t12a.isSome (
 (0 : Int) ≤ t14 ∧
 (t14 : Int) < ((t12l : Nat) : Int) ∧
 ∃ (z3 z4 : Int) (z5 : Option Addr) (z6 z7 : Nat),
 H3.cell ((adr t12a).block) ((adr t12a).off + (t14 : Int).toNat * 3 + 0) = some (.int .i64 z3) ∧
 H3.cell ((adr t12a).block) ((adr t12a).off + (t14 : Int).toNat * 3 + 1) = some (.int .i64 z4) ∧
 H3.cell ((adr t12a).block) ((adr t12a).off + (t14 : Int).toNat * 3 + 2) = some (.slice z5 z6 z7) ∧
 ∀ (H4 : AH),
 H4 = H3.new (.cells [.int .i64 0, .int .i64 0, .slice none 0 0] 0) →
 ∃ (H5 : AH),
 storeCellsv H4 H3.next 0 [.int .i64 z3, .int .i64 z4, .slice z5 z6 z7] = some H5 ∧
 ∃ (z8 z9 : Int) (z10 : Option Addr) (z11 z12 : Nat),
 H5.cell H3.next (0 + 0) = some (.int .i64 z8) ∧
 H5.cell H3.next (0 + 1) = some (.int .i64 z9) ∧
 H5.cell H3.next (0 + 2) = some (.slice z10 z11 z12) ∧
 FW Ee F_graph_PutVertex [.pointer (some ⟨w0b, 0, none⟩), .agg ⟨[.int .i64 z8, .int .i64 z9, .slice z10 z11 z12]⟩] H5 fun v_1 H6 =>
 v_1 = .tuple ⟨[]⟩ ∧
 ∀ (t21 : Int),
 t21 = IntKind.i64.wrap (t14 + 1) →
 ∃ (m : Nat),
 m < n ∧
 Inv m t21 H6)) (
 Q (.tuple ⟨[]⟩) H3)
set_option maxRecDepth 100000 in
theorem fw_graph_Put {w0b : Nat} {z0 : Option Addr} {z1 z2 : Nat} {H : AH} {Q : Value → AH → Prop} (h : VC_graph_Put w0b z0 z1 z2 H Q) : FW Ee F_graph_Put [.pointer (some ⟨w0b, 0, none⟩), .agg ⟨[.slice z0 z1 z2]⟩] H Q :=
  letI : Sy := sy0
  wpF_sound (A := ⟨[], []⟩) (Eq.mp (by kernel_rfl) h)
def VC_graph_TakeVertex (r0b : Nat) (H : AH) (Q : Value → AH → Prop) : Prop :=
 ∀ (H1 : AH),
 H1 = H.new (.cells [.int .i64 0, .int .i64 0, .slice none 0 0] 0) →
 FW Ee F_wire_Reader_Signed [.pointer (some ⟨r0b, 0, none⟩)] H1 fun v H2 =>
 ∃ (r6 : Int),
 v = .int .i64 r6 ∧
 FW Ee F_wire_Reader_Signed [.pointer (some ⟨r0b, 0, none⟩)] H2 fun v_1 H3 =>
 ∃ (r8 : Int),
 v_1 = .int .i64 r8 ∧
 ∀ (H4 : AH),
 H4 = H3.new (.cells [.int .i64 0, .int .i64 0, .slice none 0 0] 0) →
 ∃ (H5 : AH),
 storeCellsv H4 H3.next 0 [.int .i64 r6, .int .i64 r8, .slice none 0 0] = some H5 ∧
 FW Ee F_wire_Reader_Count [.pointer (some ⟨r0b, 0, none⟩), .int .i64 2048] H5 fun v_2 H6 =>
 ∃ (r11 : Int),
 v_2 = .int .i64 r11 ∧
 ∃ (Inv : Nat → Int → AH → Prop),
 (
 ∃ (n_1 : Nat),
 Inv n_1 r11 H6) ∧
 ∀ (n : Nat),
 ∀ (n4 : Int) (H7 : AH),
 Inv n n4 H7 →
 cond (decide (n4 > 0)) (
 FW Ee F_wire_Reader_Err [.pointer (some ⟨r0b, 0, none⟩)] H7 fun v_3 H8 =>
 ∃ (r16 : Int),
 v_3 = .int .i64 r16 ∧
 cond (r16 == 0) (
 ∃ (t22a : Option Addr) (t22l t22c : Nat),
 H8.cell H3.next 2 = some (.slice t22a t22l t22c) ∧
 FW Ee F_wire_Reader_Signed [.pointer (some ⟨r0b, 0, none⟩)] H8 fun v_4 H9 =>
 ∃ (r24 : Int),
 v_4 = .int .i64 r24 ∧
 FW Ee F_wire_Reader_Signed [.pointer (some ⟨r0b, 0, none⟩)] H9 fun v_5 H10 =>
 ∃ (r26 : Int),
 v_5 = .int .i64 r26 ∧
 ∀ (H11 : AH),
 H11 = H10.new (.cells [.int .i64 r24, .int .i64 r26] 0) →
 ∃ (t29a : Option Addr) (t29l t29c : Nat) (H12 : AH),
 apnd H11 2 16 t22a t22l t22c (.slice (some ⟨H10.next, 0, none⟩) 1 2) = some (.slice t29a t29l t29c, H12) ∧
 ∃ (H13 : AH),
 storeCellsv H12 H3.next 2 [.slice t29a t29l t29c] = some H13 ∧
 H11.cell H3.next 2 = some (.slice t22a t22l t22c) ∧
 H9.cell H3.next 2 = some (.slice t22a t22l t22c) ∧
 ∀ (t20 : Int),
 t20 = IntKind.i64.wrap (n4 - 1) →
 ∃ (m : Nat),
 m < n ∧
 Inv m t20 H13) (
 ∃ (z0 z1 : Int) (z2 : Option Addr) (z3 z4 : Nat),
 H8.cell H3.next (0 + 0) = some (.int .i64 z0) ∧
 H8.cell H3.next (0 + 1) = some (.int .i64 z1) ∧
 H8.cell H3.next (0 + 2) = some (.slice z2 z3 z4) ∧
 ∃ (H14 : AH),
 storeCellsv H8 H.next 0 [.int .i64 z0, .int .i64 z1, .slice z2 z3 z4] = some H14 ∧
 ∃ (z5 z6 : Int) (z7 : Option Addr) (z8 z9 : Nat),
 H14.cell H.next (0 + 0) = some (.int .i64 z5) ∧
 H14.cell H.next (0 + 1) = some (.int .i64 z6) ∧
 H14.cell H.next (0 + 2) = some (.slice z7 z8 z9) ∧
 Q (.agg ⟨[.int .i64 z5, .int .i64 z6, .slice z7 z8 z9]⟩) H14)) (
 ∃ (z10 z11 : Int) (z12 : Option Addr) (z13 z14 : Nat),
 H7.cell H3.next (0 + 0) = some (.int .i64 z10) ∧
 H7.cell H3.next (0 + 1) = some (.int .i64 z11) ∧
 H7.cell H3.next (0 + 2) = some (.slice z12 z13 z14) ∧
 ∃ (H15 : AH),
 storeCellsv H7 H.next 0 [.int .i64 z10, .int .i64 z11, .slice z12 z13 z14] = some H15 ∧
 ∃ (z15 z16 : Int) (z17 : Option Addr) (z18 z19 : Nat),
 H15.cell H.next (0 + 0) = some (.int .i64 z15) ∧
 H15.cell H.next (0 + 1) = some (.int .i64 z16) ∧
 H15.cell H.next (0 + 2) = some (.slice z17 z18 z19) ∧
 Q (.agg ⟨[.int .i64 z15, .int .i64 z16, .slice z17 z18 z19]⟩) H15)
set_option maxRecDepth 100000 in
theorem fw_graph_TakeVertex {r0b : Nat} {H : AH} {Q : Value → AH → Prop} (h : VC_graph_TakeVertex r0b H Q) : FW Ee F_graph_TakeVertex [.pointer (some ⟨r0b, 0, none⟩)] H Q :=
  letI : Sy := sy0
  wpF_sound (A := ⟨[], []⟩) (Eq.mp (by kernel_rfl) h)
def VC_graph_Take (r0b : Nat) (H : AH) (Q : Value → AH → Prop) : Prop :=
 ∀ (H1 : AH),
 H1 = H.new (.cells [.slice none 0 0] 0) →
 ∀ (H2 : AH),
 H2 = H1.new (.cells [.slice none 0 0] 0) →
 FW Ee F_wire_Reader_Count [.pointer (some ⟨r0b, 0, none⟩), .int .i64 256] H2 fun v H3 =>
 ∃ (r6 : Int),
 v = .int .i64 r6 ∧
 ∃ (Inv : Nat → Int → AH → Prop),
 (
 ∃ (n_1 : Nat),
 Inv n_1 r6 H3) ∧
 ∀ (n : Nat),
 ∀ (n4 : Int) (H4 : AH),
 Inv n n4 H4 →
 cond (decide (n4 > 0)) (
 FW Ee F_wire_Reader_Err [.pointer (some ⟨r0b, 0, none⟩)] H4 fun v_1 H5 =>
 ∃ (r11 : Int),
 v_1 = .int .i64 r11 ∧
 cond (r11 == 0) (
 ∃ (t17a : Option Addr) (t17l t17c : Nat),
 H5.cell H1.next 0 = some (.slice t17a t17l t17c) ∧
 FW Ee F_graph_TakeVertex [.pointer (some ⟨r0b, 0, none⟩)] H5 fun v_2 H6 =>
 ∃ (z0 z1 : Int) (z2 : Option Addr) (z3 z4 : Nat),
 v_2 = .agg ⟨[.int .i64 z0, .int .i64 z1, .slice z2 z3 z4]⟩ ∧
 ∀ (H7 : AH),
 H7 = H6.new (.cells [.int .i64 z0, .int .i64 z1, .slice z2 z3 z4] 0) →
 ∃ (t21a : Option Addr) (t21l t21c : Nat) (H8 : AH),
 apnd H7 3 40 t17a t17l t17c (.slice (some ⟨H6.next, 0, none⟩) 1 2) = some (.slice t21a t21l t21c, H8) ∧
 ∃ (H9 : AH),
 storeCellsv H8 H1.next 0 [.slice t21a t21l t21c] = some H9 ∧
 H7.cell H1.next 0 = some (.slice t17a t17l t17c) ∧
 ∀ (t15 : Int),
 t15 = IntKind.i64.wrap (n4 - 1) →
 ∃ (m : Nat),
 m < n ∧
 Inv m t15 H9) (
 FW Ee F_wire_Reader_Err [.pointer (some ⟨r0b, 0, none⟩)] H5 fun v_3 H10 =>
 ∃ (r24 : Int),
 v_3 = .int .i64 r24 ∧
 cond (r24 == 0) (
 ∃ (z5 : Option Addr) (z6 z7 : Nat),
 H10.cell H1.next (0 + 0) = some (.slice z5 z6 z7) ∧
 FW Ee F_graph_Check [.agg ⟨[.slice z5 z6 z7]⟩] H10 fun v_4 H11 =>
 ∃ (r28 : Int),
 v_4 = .int .i64 r28 ∧
 FW Ee F_wire_Reader_Fail [.pointer (some ⟨r0b, 0, none⟩), .int .i64 r28] H11 fun v_5 H12 =>
 v_5 = .tuple ⟨[]⟩ ∧
 ∃ (z8 : Option Addr) (z9 z10 : Nat),
 H12.cell H1.next (0 + 0) = some (.slice z8 z9 z10) ∧
 ∃ (H13 : AH),
 storeCellsv H12 H.next 0 [.slice z8 z9 z10] = some H13 ∧
 ∃ (z11 : Option Addr) (z12 z13 : Nat),
 H13.cell H.next (0 + 0) = some (.slice z11 z12 z13) ∧
 Q (.agg ⟨[.slice z11 z12 z13]⟩) H13) (
 ∃ (z14 : Option Addr) (z15 z16 : Nat),
 H10.cell H1.next (0 + 0) = some (.slice z14 z15 z16) ∧
 ∃ (H14 : AH),
 storeCellsv H10 H.next 0 [.slice z14 z15 z16] = some H14 ∧
 ∃ (z17 : Option Addr) (z18 z19 : Nat),
 H14.cell H.next (0 + 0) = some (.slice z17 z18 z19) ∧
 Q (.agg ⟨[.slice z17 z18 z19]⟩) H14))) (
 FW Ee F_wire_Reader_Err [.pointer (some ⟨r0b, 0, none⟩)] H4 fun v_6 H15 =>
 ∃ (z20 : Int),
 v_6 = .int .i64 z20 ∧
 cond (z20 == 0) (
 ∃ (z21 : Option Addr) (z22 z23 : Nat),
 H15.cell H1.next (0 + 0) = some (.slice z21 z22 z23) ∧
 FW Ee F_graph_Check [.agg ⟨[.slice z21 z22 z23]⟩] H15 fun v_7 H16 =>
 ∃ (z24 : Int),
 v_7 = .int .i64 z24 ∧
 FW Ee F_wire_Reader_Fail [.pointer (some ⟨r0b, 0, none⟩), .int .i64 z24] H16 fun v_8 H17 =>
 v_8 = .tuple ⟨[]⟩ ∧
 ∃ (z25 : Option Addr) (z26 z27 : Nat),
 H17.cell H1.next (0 + 0) = some (.slice z25 z26 z27) ∧
 ∃ (H18 : AH),
 storeCellsv H17 H.next 0 [.slice z25 z26 z27] = some H18 ∧
 ∃ (z28 : Option Addr) (z29 z30 : Nat),
 H18.cell H.next (0 + 0) = some (.slice z28 z29 z30) ∧
 Q (.agg ⟨[.slice z28 z29 z30]⟩) H18) (
 ∃ (z31 : Option Addr) (z32 z33 : Nat),
 H15.cell H1.next (0 + 0) = some (.slice z31 z32 z33) ∧
 ∃ (H19 : AH),
 storeCellsv H15 H.next 0 [.slice z31 z32 z33] = some H19 ∧
 ∃ (z34 : Option Addr) (z35 z36 : Nat),
 H19.cell H.next (0 + 0) = some (.slice z34 z35 z36) ∧
 Q (.agg ⟨[.slice z34 z35 z36]⟩) H19))
set_option maxRecDepth 100000 in
theorem fw_graph_Take {r0b : Nat} {H : AH} {Q : Value → AH → Prop} (h : VC_graph_Take r0b H Q) : FW Ee F_graph_Take [.pointer (some ⟨r0b, 0, none⟩)] H Q :=
  letI : Sy := sy0
  wpF_sound (A := ⟨[], []⟩) (Eq.mp (by kernel_rfl) h)
end Go.Proofs.Cx
namespace Go.Proofs.Cx
open Go Go.Ev
set_option linter.unusedVariables false
set_option maxRecDepth 100000
set_option maxHeartbeats 8000000
def VC_kern_Programs  (H : AH) (Q : Value → AH → Prop) : Prop :=
 ∀ (H1 : AH),
 H1 = H.new (.cells [.string ⟨⟨[98, 102, 115]⟩⟩, .string ⟨⟨[99, 99]⟩⟩, .string ⟨⟨[99, 111, 108, 111, 114, 115]⟩⟩, .string ⟨⟨[100, 101, 103, 114, 101, 101]⟩⟩, .string ⟨⟨[107, 99, 111, 114, 101]⟩⟩, .string ⟨⟨[108, 97, 98, 101, 108, 115]⟩⟩, .string ⟨⟨[109, 97, 116, 99, 104, 105, 110, 103]⟩⟩, .string ⟨⟨[112, 97, 103, 101, 114, 97, 110, 107]⟩⟩, .string ⟨⟨[115, 115, 115, 112]⟩⟩, .string ⟨⟨[116, 114, 105, 97, 110, 103, 108, 101, 115]⟩⟩] 0) →
 Q (.slice (some ⟨H.next, 0, none⟩) 10 20) H1
set_option maxRecDepth 100000 in
theorem fw_kern_Programs  {H : AH} {Q : Value → AH → Prop} (h : VC_kern_Programs  H Q) : FW Ee F_kern_Programs [] H Q :=
  letI : Sy := sy0
  wpF_sound (A := ⟨[], []⟩) (Eq.mp (by kernel_rfl) h)
def VC_kern_Turns (params0a : Option Addr) (params0l params0c : Nat) (H : AH) (Q : Value → AH → Prop) : Prop :=
 cond ((((params0l : Nat) : Int)) != 1) (
 Q (.int .i64 71) H) (
 grd params0a.isSome (
 (0 : Int) ≤ 0 ∧
 (0 : Int) < ((params0l : Nat) : Int) ∧
 ∃ (t9 : Int),
 H.cell ((adr params0a).block) ((adr params0a).off + (0 : Int).toNat * 1) = some (.int .i64 t9) ∧
 cond (decide (t9 < 0)) (
 Q (.int .i64 71) H) (
 grd params0a.isSome (
 (0 : Int) ≤ 0 ∧
 (0 : Int) < ((params0l : Nat) : Int) ∧
 ∃ (t15 : Int),
 H.cell ((adr params0a).block) ((adr params0a).off + (0 : Int).toNat * 1) = some (.int .i64 t15) ∧
 cond (decide (t15 > 100)) (
 Q (.int .i64 71) H) (
 Q (.int .i64 0) H)))))
set_option maxRecDepth 100000 in
theorem fw_kern_Turns {params0a : Option Addr} {params0l params0c : Nat} {H : AH} {Q : Value → AH → Prop} (h : VC_kern_Turns params0a params0l params0c H Q) : FW Ee F_kern_Turns [.slice params0a params0l params0c] H Q :=
  letI : Sy := sy0
  wpF_sound (A := ⟨[], []⟩) (Eq.mp (by kernel_rfl) h)
def VC_kern_None (params0a : Option Addr) (params0l params0c : Nat) (H : AH) (Q : Value → AH → Prop) : Prop :=
 cond ((((params0l : Nat) : Int)) != 0) (
 Q (.int .i64 71) H) (
 Q (.int .i64 0) H)
set_option maxRecDepth 100000 in
theorem fw_kern_None {params0a : Option Addr} {params0l params0c : Nat} {H : AH} {Q : Value → AH → Prop} (h : VC_kern_None params0a params0l params0c H Q) : FW Ee F_kern_None [.slice params0a params0l params0c] H Q :=
  letI : Sy := sy0
  wpF_sound (A := ⟨[], []⟩) (Eq.mp (by kernel_rfl) h)
def VC_kern_Source (z0 : Option Addr) (z1 z2 : Nat) (params1a : Option Addr) (params1l params1c : Nat) (H : AH) (Q : Value → AH → Prop) : Prop :=
 ∀ (H1 : AH),
 H1 = H.new (.cells [.slice z0 z1 z2] 0) →
 cond ((((params1l : Nat) : Int)) != 1) (
 Q (.int .i64 71) H1) (
 ∃ (z3 : Option Addr) (z4 z5 : Nat),
 H1.cell H.next (0 + 0) = some (.slice z3 z4 z5) ∧
 grd params1a.isSome (
 (0 : Int) ≤ 0 ∧
 (0 : Int) < ((params1l : Nat) : Int) ∧
 ∃ (t14 : Int),
 H1.cell ((adr params1a).block) ((adr params1a).off + (0 : Int).toNat * 1) = some (.int .i64 t14) ∧
 FW Ee F_graph_Find [.agg ⟨[.slice z3 z4 z5]⟩, .int .i64 t14] H1 fun v H2 =>
 ∃ (z6 : Int) (z7 : Bool),
 v = .tuple ⟨[.int .i64 z6, .bool z7]⟩ ∧
 cond (!z7) (
 Q (.int .i64 71) H2) (
 Q (.int .i64 0) H2)))
set_option maxRecDepth 100000 in
theorem fw_kern_Source {z0 : Option Addr} {z1 z2 : Nat} {params1a : Option Addr} {params1l params1c : Nat} {H : AH} {Q : Value → AH → Prop} (h : VC_kern_Source z0 z1 z2 params1a params1l params1c H Q) : FW Ee F_kern_Source [.agg ⟨[.slice z0 z1 z2]⟩, .slice params1a params1l params1c] H Q :=
  letI : Sy := sy0
  wpF_sound (A := ⟨[], []⟩) (Eq.mp (by kernel_rfl) h)
def VC_kern_Check (program0 : List UInt8) (z0 : Option Addr) (z1 z2 : Nat) (params2a : Option Addr) (params2l params2c : Nat) (H : AH) (Q : Value → AH → Prop) : Prop :=
 ∀ (H1 : AH),
 H1 = H.new (.cells [.slice z0 z1 z2] 0) →
 ∀ (H2 : AH),
 H2 = H1.new (.cells [.int .i64 0] 0) →
 cond ((program0 : List UInt8) == [98, 102, 115]) (
 ∃ (z3 : Option Addr) (z4 z5 : Nat),
 H2.cell H.next (0 + 0) = some (.slice z3 z4 z5) ∧
 FW Ee F_kern_Source [.agg ⟨[.slice z3 z4 z5]⟩, .slice params2a params2l params2c] H2 fun v H3 =>
 ∃ (r14 : Int),
 v = .int .i64 r14 ∧
 ∃ (H4 : AH),
 storeCellsv H3 H1.next 0 [.int .i64 r14] = some H4 ∧
 ∃ (r6 : Int),
 H4.cell H1.next 0 = some (.int .i64 r6) ∧
 Q (.int .i64 r6) H4) (
 cond ((program0 : List UInt8) == [115, 115, 115, 112]) (
 ∃ (z6 : Option Addr) (z7 z8 : Nat),
 H2.cell H.next (0 + 0) = some (.slice z6 z7 z8) ∧
 FW Ee F_graph_All [.agg ⟨[.slice z6 z7 z8]⟩] H2 fun v_1 H5 =>
 ∃ (b18 : Nat),
 v_1 = .func (.func F_graph_All_1) ⟨[]⟩ ⟨[.pointer (some ⟨b18, 0, none⟩)]⟩ ∧
 ∀ (L : ALoop),
 RdL 36 Ee.g [(6, .pointer (some ⟨H1.next, 0, none⟩))] (rfOf Ee F_kern_Check 0) L →
 L.st = .ready →
 L.pend = none →
 FW Ee F_graph_All_1 [.func (.yield H5.next) ⟨[]⟩ ⟨[]⟩, .pointer (some ⟨b18, 0, none⟩)] (H5.new (.loop L)) fun _ H6 =>
 ∃ (L_1 : ALoop),
 H6.get H5.next = some (.loop L_1) ∧
 L_1.st ≠ .busy ∧
 match L_1.pend with
 | none =>
 ∃ (z9 : Option Addr) (z10 z11 : Nat),
 (H6.set H5.next (.loop { L_1 with st := .exhausted })).cell H.next (0 + 0) = some (.slice z9 z10 z11) ∧
 FW Ee F_kern_Source [.agg ⟨[.slice z9 z10 z11]⟩, .slice params2a params2l params2c] ((H6.set H5.next (.loop { L_1 with st := .exhausted }))) fun v_3 H10 =>
 ∃ (z12 : Int),
 v_3 = .int .i64 z12 ∧
 ∃ (H11 : AH),
 storeCellsv H10 H1.next 0 [.int .i64 z12] = some H11 ∧
 ∃ (z13 : Int),
 H11.cell H1.next 0 = some (.int .i64 z13) ∧
 Q (.int .i64 z13) H11
 | some (.exit i) =>
 cond (Nat.beq i 1) (
 ∃ (z14 : Option Addr) (z15 z16 : Nat),
 (H6.set H5.next (.loop { L_1 with st := .exhausted })).cell H.next (0 + 0) = some (.slice z14 z15 z16) ∧
 FW Ee F_kern_Source [.agg ⟨[.slice z14 z15 z16]⟩, .slice params2a params2l params2c] ((H6.set H5.next (.loop { L_1 with st := .exhausted }))) fun v_2 H7 =>
 ∃ (r26 : Int),
 v_2 = .int .i64 r26 ∧
 ∃ (H8 : AH),
 storeCellsv H7 H1.next 0 [.int .i64 r26] = some H8 ∧
 ∃ (z17 : Int),
 H8.cell H1.next 0 = some (.int .i64 z17) ∧
 Q (.int .i64 z17) H8) (
 cond (Nat.beq i 0) (
 ∃ (H9 : AH),
 storeCellsv ((H6.set H5.next (.loop { L_1 with st := .exhausted }))) H1.next 0 [.int .i64 70] = some H9 ∧
 ∃ (z18 : Int),
 H9.cell H1.next 0 = some (.int .i64 z18) ∧
 Q (.int .i64 z18) H9) (
 False))
 | some .ret =>
 ∃ (z19 : Int),
 (H6.set H5.next (.loop { L_1 with st := .exhausted })).cell H1.next 0 = some (.int .i64 z19) ∧
 Q (.int .i64 z19) ((H6.set H5.next (.loop { L_1 with st := .exhausted })))
 | _ =>
 False) (
 cond ((program0 : List UInt8) == [112, 97, 103, 101, 114, 97, 110, 107]) (
 FW Ee F_kern_Turns [.slice params2a params2l params2c] H2 fun v_4 H12 =>
 ∃ (r30 : Int),
 v_4 = .int .i64 r30 ∧
 ∃ (H13 : AH),
 storeCellsv H12 H1.next 0 [.int .i64 r30] = some H13 ∧
 ∃ (z20 : Int),
 H13.cell H1.next 0 = some (.int .i64 z20) ∧
 Q (.int .i64 z20) H13) (
 cond ((program0 : List UInt8) == [100, 101, 103, 114, 101, 101]) (
 FW Ee F_kern_None [.slice params2a params2l params2c] H2 fun v_5 H14 =>
 ∃ (r35 : Int),
 v_5 = .int .i64 r35 ∧
 ∃ (H15 : AH),
 storeCellsv H14 H1.next 0 [.int .i64 r35] = some H15 ∧
 ∃ (z21 : Int),
 H15.cell H1.next 0 = some (.int .i64 z21) ∧
 Q (.int .i64 z21) H15) (
 cond ((program0 : List UInt8) == [99, 99]) (
 FW Ee F_kern_None [.slice params2a params2l params2c] H2 fun v_6 H16 =>
 ∃ (z22 : Int),
 v_6 = .int .i64 z22 ∧
 ∃ (H17 : AH),
 storeCellsv H16 H1.next 0 [.int .i64 z22] = some H17 ∧
 ∃ (z23 : Int),
 H17.cell H1.next 0 = some (.int .i64 z23) ∧
 Q (.int .i64 z23) H17) (
 ∃ (H18 : AH),
 storeCellsv H2 H1.next 0 [.int .i64 70] = some H18 ∧
 ∃ (z24 : Int),
 H18.cell H1.next 0 = some (.int .i64 z24) ∧
 Q (.int .i64 z24) H18)))))
set_option maxRecDepth 100000 in
theorem fw_kern_Check {program0 : List UInt8} {z0 : Option Addr} {z1 z2 : Nat} {params2a : Option Addr} {params2l params2c : Nat} {H : AH} {Q : Value → AH → Prop} (h : VC_kern_Check program0 z0 z1 z2 params2a params2l params2c H Q) : FW Ee F_kern_Check [.string ⟨⟨program0⟩⟩, .agg ⟨[.slice z0 z1 z2]⟩, .slice params2a params2l params2c] H Q :=
  letI : Sy := sy0
  wpF_sound (A := ⟨[], []⟩) (Eq.mp (by kernel_rfl) h)
def VC_kern_Check_r0 (t6b t6o : Nat) (p19 z0 z1 : Int) (l : Nat) (H : AH) (Q : Value → AH → Prop) : Prop :=
 ∀ (H1 : AH),
 H1 = H.new (.cells [.int .i64 0, .int .i64 0] 0) →
 ∃ (H2 : AH),
 storeCellsv H1 H.next 0 [.int .i64 z0, .int .i64 z1] = some H2 ∧
 ∃ (L : ALoop),
 H2.get l = some (.loop L) ∧
 L.st = .ready ∧
 L.body = (rfOf Ee F_kern_Check 0).2.2 ∧
 ∃ (t22 : Int),
 (H2.set l (.loop { L with st := .busy })).cell H.next 1 = some (.int .i64 t22) ∧
 cond (decide (t22 < 0)) (
 ∃ (H3 : AH),
 storeCellsv ((H2.set l (.loop { L with st := .busy }))) t6b t6o [.int .i64 71] = some H3 ∧
 ∃ (L_1 : ALoop),
 H3.get l = some (.loop L_1) ∧
 Q (.bool false) (H3.set l (.loop { L_1 with st := .done, pend := some .ret }))) (
 ∃ (L_2 : ALoop),
 (H2.set l (.loop { L with st := .busy })).get l = some (.loop L_2) ∧
 Q (.bool true) ((H2.set l (.loop { L with st := .busy })).set l (.loop { L_2 with st := .ready, pend := none })))
set_option maxRecDepth 100000 in
theorem rw_kern_Check_r0 {t6b t6o : Nat} {p19 p20_To p20_Weight : Int} {l : Nat} {H : AH} {Q : Value → AH → Prop} {L : ALoop} (hl : H.get l = some (.loop L)) (hR : RdL 36 Ee.g [(6, .pointer (some ⟨t6b, t6o, none⟩))] (rfOf Ee F_kern_Check 0) L) (h : VC_kern_Check_r0 t6b t6o p19 p20_To p20_Weight l H Q) : RW Ee l [.int .i64 p19, .agg ⟨[.int .i64 p20_To, .int .i64 p20_Weight]⟩] H Q := by
  have e : VC_kern_Check_r0 t6b t6o p19 p20_To p20_Weight l H Q = wpRound Ee ⟨[], []⟩ (frm 36 Ee.g [(6, .pointer (some ⟨t6b, t6o, none⟩))]) (rfOf Ee F_kern_Check 0).1 (rfOf Ee F_kern_Check 0).2.1 (rfOf Ee F_kern_Check 0).2.2 l [.int .i64 p19, .agg ⟨[.int .i64 p20_To, .int .i64 p20_Weight]⟩] H Q := by kernel_rfl
  letI : Sy := sy0
  exact wpRoundR_sound hl hR (Eq.mp e h)
def VC_cmp_isNaN_string (x0 : List UInt8) (H : AH) (Q : Value → AH → Prop) : Prop :=
 Q (.bool (!((x0 : List UInt8) == x0))) H
set_option maxRecDepth 100000 in
theorem fw_cmp_isNaN_string {x0 : List UInt8} {H : AH} {Q : Value → AH → Prop} (h : VC_cmp_isNaN_string x0 H Q) : FW Ee F_cmp_isNaN_string [.string ⟨⟨x0⟩⟩] H Q :=
  letI : Sy := sy0
  wpF_sound (A := ⟨[], []⟩) (Eq.mp (by kernel_rfl) h)
def VC_cmp_Less_string (x0 y1 : List UInt8) (H : AH) (Q : Value → AH → Prop) : Prop :=
 FW Ee F_cmp_isNaN_string [.string ⟨⟨x0⟩⟩] H fun v H1 =>
 ∃ (r6 : Bool),
 v = .bool r6 ∧
 cond (r6) (
 FW Ee F_cmp_isNaN_string [.string ⟨⟨y1⟩⟩] H1 fun v_1 H2 =>
 ∃ (r9 : Bool),
 v_1 = .bool r9 ∧
 cond (!r9) (
 Q (.bool true) H2) (
 Q (.bool (Op.bytesLess x0 y1)) H2)) (
 Q (.bool (Op.bytesLess x0 y1)) H1)
set_option maxRecDepth 100000 in
theorem fw_cmp_Less_string {x0 y1 : List UInt8} {H : AH} {Q : Value → AH → Prop} (h : VC_cmp_Less_string x0 y1 H Q) : FW Ee F_cmp_Less_string [.string ⟨⟨x0⟩⟩, .string ⟨⟨y1⟩⟩] H Q :=
  letI : Sy := sy0
  wpF_sound (A := ⟨[], []⟩) (Eq.mp (by kernel_rfl) h)
def VC_slices_isNaN_string (x0 : List UInt8) (H : AH) (Q : Value → AH → Prop) : Prop :=
 Q (.bool (!((x0 : List UInt8) == x0))) H
set_option maxRecDepth 100000 in
theorem fw_slices_isNaN_string {x0 : List UInt8} {H : AH} {Q : Value → AH → Prop} (h : VC_slices_isNaN_string x0 H Q) : FW Ee F_slices_isNaN_string [.string ⟨⟨x0⟩⟩] H Q :=
  letI : Sy := sy0
  wpF_sound (A := ⟨[], []⟩) (Eq.mp (by kernel_rfl) h)
def VC_slices_BinarySearch_L_string_string (x0a : Option Addr) (x0l x0c : Nat) (target1 : List UInt8) (H : AH) (Q : Value → AH → Prop) : Prop :=
 ∃ (Inv : Nat → Int → Int → AH → Prop),
 (
 ∃ (n_1 : Nat),
 Inv n_1 0 (((x0l : Nat) : Int)) H) ∧
 ∀ (n : Nat),
 ∀ (i7 j8 : Int) (H1 : AH),
 Inv n i7 j8 H1 →
 cond (decide (i7 < j8)) (
 ∀ (t18 : Int),
 t18 = IntKind.i64.wrap (i7 + j8) →
 ∀ (t19 : Int),
 t19 = IntKind.u64.wrap (t18) →
 (0 : Int) ≤ 1 ∧
 ∀ (t20 : Int),
 t20 = (t19 : Int).fdiv (2 ^ (min (1 : Int).toNat IntKind.u64.bits)) →
 ∀ (t21 : Int),
 t21 = IntKind.i64.wrap (t20) →
 grd x0a.isSome (
 (0 : Int) ≤ t21 ∧
 (t21 : Int) < ((x0l : Nat) : Int) ∧
 ∃ (t25 : List UInt8),
 H1.cell ((adr x0a).block) ((adr x0a).off + (t21 : Int).toNat * 1) = some (.string ⟨⟨t25⟩⟩) ∧
 FW Ee F_cmp_Less_string [.string ⟨⟨t25⟩⟩, .string ⟨⟨target1⟩⟩] H1 fun v H2 =>
 ∃ (r27 : Bool),
 v = .bool r27 ∧
 cond (r27) (
 ∀ (t29 : Int),
 t29 = IntKind.i64.wrap (t21 + 1) →
 ∃ (m : Nat),
 m < n ∧
 Inv m t29 j8 H2) (
 ∃ (m : Nat),
 m < n ∧
 Inv m i7 t21 H2))) (
 cond (decide (i7 < (((x0l : Nat) : Int)))) (
 grd x0a.isSome (
 (0 : Int) ≤ i7 ∧
 (i7 : Int) < ((x0l : Nat) : Int) ∧
 ∃ (t39 : List UInt8),
 H1.cell ((adr x0a).block) ((adr x0a).off + (i7 : Int).toNat * 1) = some (.string ⟨⟨t39⟩⟩) ∧
 cond ((t39 : List UInt8) == target1) (
 Q (.tuple ⟨[.int .i64 i7, .bool true]⟩) H1) (
 grd x0a.isSome (
 (0 : Int) ≤ i7 ∧
 (i7 : Int) < ((x0l : Nat) : Int) ∧
 ∃ (t46 : List UInt8),
 H1.cell ((adr x0a).block) ((adr x0a).off + (i7 : Int).toNat * 1) = some (.string ⟨⟨t46⟩⟩) ∧
 FW Ee F_slices_isNaN_string [.string ⟨⟨t46⟩⟩] H1 fun v_1 H3 =>
 ∃ (r47 : Bool),
 v_1 = .bool r47 ∧
 cond (r47) (
 FW Ee F_slices_isNaN_string [.string ⟨⟨target1⟩⟩] H3 fun v_2 H4 =>
 ∃ (r50 : Bool),
 v_2 = .bool r50 ∧
 Q (.tuple ⟨[.int .i64 i7, .bool r50]⟩) H4) (
 Q (.tuple ⟨[.int .i64 i7, .bool false]⟩) H3))))) (
 Q (.tuple ⟨[.int .i64 i7, .bool false]⟩) H1))
set_option maxRecDepth 100000 in
theorem fw_slices_BinarySearch_L_string_string {x0a : Option Addr} {x0l x0c : Nat} {target1 : List UInt8} {H : AH} {Q : Value → AH → Prop} (h : VC_slices_BinarySearch_L_string_string x0a x0l x0c target1 H Q) : FW Ee F_slices_BinarySearch_L_string_string [.slice x0a x0l x0c, .string ⟨⟨target1⟩⟩] H Q :=
  letI : Sy := sy0
  wpF_sound (A := ⟨[], []⟩) (Eq.mp (by kernel_rfl) h)
def VC_more_Known (program0 : List UInt8) (H : AH) (Q : Value → AH → Prop) : Prop :=
 FW Ee F_kern_Programs [] H fun v H1 =>
 ∃ (r6a : Option Addr) (r6l r6c : Nat),
 v = .slice r6a r6l r6c ∧
 FW Ee F_slices_BinarySearch_L_string_string [.slice r6a r6l r6c, .string ⟨⟨program0⟩⟩] H1 fun v_1 H2 =>
 ∃ (z0 : Int) (z1 : Bool),
 v_1 = .tuple ⟨[.int .i64 z0, .bool z1]⟩ ∧
 Q (.bool z1) H2
set_option maxRecDepth 100000 in
theorem fw_more_Known {program0 : List UInt8} {H : AH} {Q : Value → AH → Prop} (h : VC_more_Known program0 H Q) : FW Ee F_more_Known [.string ⟨⟨program0⟩⟩] H Q :=
  letI : Sy := sy0
  wpF_sound (A := ⟨[], []⟩) (Eq.mp (by kernel_rfl) h)
def VC_more_Check (program0 : List UInt8) (z0 : Option Addr) (z1 z2 : Nat) (params2a : Option Addr) (params2l params2c : Nat) (H : AH) (Q : Value → AH → Prop) : Prop :=
 ∀ (H1 : AH),
 H1 = H.new (.cells [.slice z0 z1 z2] 0) →
 cond ((program0 : List UInt8) == [108, 97, 98, 101, 108, 115]) (
 FW Ee F_kern_Turns [.slice params2a params2l params2c] H1 fun v H2 =>
 ∃ (r11 : Int),
 v = .int .i64 r11 ∧
 Q (.int .i64 r11) H2) (
 cond ((program0 : List UInt8) == [107, 99, 111, 114, 101]) (
 cond ((((params2l : Nat) : Int)) != 1) (
 Q (.int .i64 71) H1) (
 grd params2a.isSome (
 (0 : Int) ≤ 0 ∧
 (0 : Int) < ((params2l : Nat) : Int) ∧
 ∃ (t20 : Int),
 H1.cell ((adr params2a).block) ((adr params2a).off + (0 : Int).toNat * 1) = some (.int .i64 t20) ∧
 cond (decide (t20 < 0)) (
 Q (.int .i64 71) H1) (
 grd params2a.isSome (
 (0 : Int) ≤ 0 ∧
 (0 : Int) < ((params2l : Nat) : Int) ∧
 ∃ (t26 : Int),
 H1.cell ((adr params2a).block) ((adr params2a).off + (0 : Int).toNat * 1) = some (.int .i64 t26) ∧
 cond (decide (t26 > 256)) (
 Q (.int .i64 71) H1) (
 Q (.int .i64 0) H1)))))) (
 cond ((program0 : List UInt8) == [116, 114, 105, 97, 110, 103, 108, 101, 115]) (
 FW Ee F_kern_None [.slice params2a params2l params2c] H1 fun v_1 H3 =>
 ∃ (r34 : Int),
 v_1 = .int .i64 r34 ∧
 Q (.int .i64 r34) H3) (
 cond ((program0 : List UInt8) == [109, 97, 116, 99, 104, 105, 110, 103]) (
 FW Ee F_kern_None [.slice params2a params2l params2c] H1 fun v_2 H4 =>
 ∃ (z3 : Int),
 v_2 = .int .i64 z3 ∧
 Q (.int .i64 z3) H4) (
 cond ((program0 : List UInt8) == [99, 111, 108, 111, 114, 115]) (
 FW Ee F_kern_None [.slice params2a params2l params2c] H1 fun v_3 H5 =>
 ∃ (z4 : Int),
 v_3 = .int .i64 z4 ∧
 Q (.int .i64 z4) H5) (
 ∃ (z5 : Option Addr) (z6 z7 : Nat),
 H1.cell H.next (0 + 0) = some (.slice z5 z6 z7) ∧
 FW Ee F_kern_Check [.string ⟨⟨program0⟩⟩, .agg ⟨[.slice z5 z6 z7]⟩, .slice params2a params2l params2c] H1 fun v_4 H6 =>
 ∃ (r38 : Int),
 v_4 = .int .i64 r38 ∧
 Q (.int .i64 r38) H6)))))
set_option maxRecDepth 100000 in
theorem fw_more_Check {program0 : List UInt8} {z0 : Option Addr} {z1 z2 : Nat} {params2a : Option Addr} {params2l params2c : Nat} {H : AH} {Q : Value → AH → Prop} (h : VC_more_Check program0 z0 z1 z2 params2a params2l params2c H Q) : FW Ee F_more_Check [.string ⟨⟨program0⟩⟩, .agg ⟨[.slice z0 z1 z2]⟩, .slice params2a params2l params2c] H Q :=
  letI : Sy := sy0
  wpF_sound (A := ⟨[], []⟩) (Eq.mp (by kernel_rfl) h)
def VC_run_Check (z0 : List UInt8) (z1 : Option Addr) (z2 z3 : Nat) (z4 : Option Addr) (z5 z6 : Nat) (z7 z8 z9 : Int) (H : AH) (Q : Value → AH → Prop) : Prop :=
 ∀ (H1 : AH),
 H1 = H.new (.cells [.string ⟨⟨z0⟩⟩, .slice z1 z2 z3, .slice z4 z5 z6, .int .i64 z7, .int .i64 z8, .int .i64 z9] 0) →
 ∃ (t6 : List UInt8),
 H1.cell H.next 0 = some (.string ⟨⟨t6⟩⟩) ∧
 FW Ee F_more_Known [.string ⟨⟨t6⟩⟩] H1 fun v H2 =>
 ∃ (r7 : Bool),
 v = .bool r7 ∧
 cond (!r7) (
 Q (.int .i64 70) H2) (
 ∃ (z10 : Option Addr) (z11 z12 : Nat),
 H2.cell H.next (1 + 0) = some (.slice z10 z11 z12) ∧
 FW Ee F_graph_Check [.agg ⟨[.slice z10 z11 z12]⟩] H2 fun v_1 H3 =>
 ∃ (r11 : Int),
 v_1 = .int .i64 r11 ∧
 cond (r11 != 0) (
 Q (.int .i64 r11) H3) (
 ∃ (t16a : Option Addr) (t16l t16c : Nat),
 H3.cell H.next 2 = some (.slice t16a t16l t16c) ∧
 cond (decide ((((t16l : Nat) : Int)) > 4)) (
 Q (.int .i64 71) H3) (
 ∃ (t20 : List UInt8),
 H3.cell H.next 0 = some (.string ⟨⟨t20⟩⟩) ∧
 ∃ (z13 : Option Addr) (z14 z15 : Nat),
 H3.cell H.next (1 + 0) = some (.slice z13 z14 z15) ∧
 ∃ (t24a : Option Addr) (t24l t24c : Nat),
 H3.cell H.next 2 = some (.slice t24a t24l t24c) ∧
 FW Ee F_more_Check [.string ⟨⟨t20⟩⟩, .agg ⟨[.slice z13 z14 z15]⟩, .slice t24a t24l t24c] H3 fun v_2 H4 =>
 ∃ (r25 : Int),
 v_2 = .int .i64 r25 ∧
 cond (r25 != 0) (
 Q (.int .i64 r25) H4) (
 ∃ (t30 : Int),
 H4.cell H.next 3 = some (.int .i64 t30) ∧
 cond (decide (t30 < 1)) (
 Q (.int .i64 90) H4) (
 ∃ (t34 : Int),
 H4.cell H.next 3 = some (.int .i64 t34) ∧
 cond (decide (t34 > 1000)) (
 Q (.int .i64 90) H4) (
 ∃ (t39 : Int),
 H4.cell H.next 4 = some (.int .i64 t39) ∧
 cond (decide (t39 < 0)) (
 Q (.int .i64 90) H4) (
 ∃ (t44 : Int),
 H4.cell H.next 4 = some (.int .i64 t44) ∧
 cond (decide (t44 > 65536)) (
 Q (.int .i64 90) H4) (
 ∃ (t49 : Int),
 H4.cell H.next 5 = some (.int .i64 t49) ∧
 cond (decide (t49 < 1)) (
 Q (.int .i64 90) H4) (
 ∃ (t54 : Int),
 H4.cell H.next 5 = some (.int .i64 t54) ∧
 cond (decide (t54 > 16)) (
 Q (.int .i64 90) H4) (
 Q (.int .i64 0) H4))))))))))
set_option maxRecDepth 100000 in
theorem fw_run_Check {z0 : List UInt8} {z1 : Option Addr} {z2 z3 : Nat} {z4 : Option Addr} {z5 z6 : Nat} {z7 z8 z9 : Int} {H : AH} {Q : Value → AH → Prop} (h : VC_run_Check z0 z1 z2 z3 z4 z5 z6 z7 z8 z9 H Q) : FW Ee F_run_Check [.agg ⟨[.string ⟨⟨z0⟩⟩, .slice z1 z2 z3, .slice z4 z5 z6, .int .i64 z7, .int .i64 z8, .int .i64 z9]⟩] H Q :=
  letI : Sy := sy0
  wpF_sound (A := ⟨[], []⟩) (Eq.mp (by kernel_rfl) h)
def VC_run_PutJob (w0b : Nat) (z0 : List UInt8) (z1 : Option Addr) (z2 z3 : Nat) (z4 : Option Addr) (z5 z6 : Nat) (z7 z8 z9 : Int) (H : AH) (Q : Value → AH → Prop) : Prop :=
 ∀ (H1 : AH),
 H1 = H.new (.cells [.string ⟨⟨z0⟩⟩, .slice z1 z2 z3, .slice z4 z5 z6, .int .i64 z7, .int .i64 z8, .int .i64 z9] 0) →
 ∃ (t8 : List UInt8),
 H1.cell H.next 0 = some (.string ⟨⟨t8⟩⟩) ∧
 FW Ee F_wire_Writer_Text [.pointer (some ⟨w0b, 0, none⟩), .string ⟨⟨t8⟩⟩] H1 fun v H2 =>
 v = .tuple ⟨[]⟩ ∧
 ∃ (z10 : Option Addr) (z11 z12 : Nat),
 H2.cell H.next (1 + 0) = some (.slice z10 z11 z12) ∧
 FW Ee F_graph_Put [.pointer (some ⟨w0b, 0, none⟩), .agg ⟨[.slice z10 z11 z12]⟩] H2 fun v_1 H3 =>
 v_1 = .tuple ⟨[]⟩ ∧
 ∃ (t16a : Option Addr) (t16l t16c : Nat),
 H3.cell H.next 2 = some (.slice t16a t16l t16c) ∧
 FW Ee F_wire_Writer_Count [.pointer (some ⟨w0b, 0, none⟩), .int .i64 (((t16l : Nat) : Int))] H3 fun v_2 H4 =>
 v_2 = .tuple ⟨[]⟩ ∧
 ∃ (t20a : Option Addr) (t20l t20c : Nat),
 H4.cell H.next 2 = some (.slice t20a t20l t20c) ∧
 ∃ (Inv : Nat → Int → AH → Prop),
 (
 ∃ (n_1 : Nat),
 Inv n_1 0 H4) ∧
 ∀ (n : Nat),
 ∀ (t22 : Int) (H5 : AH),
 Inv n t22 H5 →
 cond (decide (t22 < (((t20l : Nat) : Int)))) (
 grd t20a.isSome (
 (0 : Int) ≤ t22 ∧
 (t22 : Int) < ((t20l : Nat) : Int) ∧
 ∃ (t25 : Int),
 H5.cell ((adr t20a).block) ((adr t20a).off + (t22 : Int).toNat * 1) = some (.int .i64 t25) ∧
 FW Ee F_wire_Writer_Signed [.pointer (some ⟨w0b, 0, none⟩), .int .i64 t25] H5 fun v_3 H6 =>
 v_3 = .tuple ⟨[]⟩ ∧
 ∀ (t29 : Int),
 t29 = IntKind.i64.wrap (t22 + 1) →
 ∃ (m : Nat),
 m < n ∧
 Inv m t29 H6)) (
 ∃ (t32 : Int),
 H5.cell H.next 3 = some (.int .i64 t32) ∧
 FW Ee F_wire_Writer_Count [.pointer (some ⟨w0b, 0, none⟩), .int .i64 t32] H5 fun v_4 H7 =>
 v_4 = .tuple ⟨[]⟩ ∧
 ∃ (t36 : Int),
 H7.cell H.next 4 = some (.int .i64 t36) ∧
 FW Ee F_wire_Writer_Count [.pointer (some ⟨w0b, 0, none⟩), .int .i64 t36] H7 fun v_5 H8 =>
 v_5 = .tuple ⟨[]⟩ ∧
 ∃ (t40 : Int),
 H8.cell H.next 5 = some (.int .i64 t40) ∧
 FW Ee F_wire_Writer_Count [.pointer (some ⟨w0b, 0, none⟩), .int .i64 t40] H8 fun v_6 H9 =>
 v_6 = .tuple ⟨[]⟩ ∧
 Q (.tuple ⟨[]⟩) H9)
set_option maxRecDepth 100000 in
theorem fw_run_PutJob {w0b : Nat} {z0 : List UInt8} {z1 : Option Addr} {z2 z3 : Nat} {z4 : Option Addr} {z5 z6 : Nat} {z7 z8 z9 : Int} {H : AH} {Q : Value → AH → Prop} (h : VC_run_PutJob w0b z0 z1 z2 z3 z4 z5 z6 z7 z8 z9 H Q) : FW Ee F_run_PutJob [.pointer (some ⟨w0b, 0, none⟩), .agg ⟨[.string ⟨⟨z0⟩⟩, .slice z1 z2 z3, .slice z4 z5 z6, .int .i64 z7, .int .i64 z8, .int .i64 z9]⟩] H Q :=
  letI : Sy := sy0
  wpF_sound (A := ⟨[], []⟩) (Eq.mp (by kernel_rfl) h)
def VC_run_TakeJob (r0b : Nat) (H : AH) (Q : Value → AH → Prop) : Prop :=
 ∀ (H1 : AH),
 H1 = H.new (.cells [.string ⟨⟨[]⟩⟩, .slice none 0 0, .slice none 0 0, .int .i64 0, .int .i64 0, .int .i64 0] 0) →
 FW Ee F_wire_Reader_Text [.pointer (some ⟨r0b, 0, none⟩)] H1 fun v H2 =>
 ∃ (r6 : List UInt8),
 v = .string ⟨⟨r6⟩⟩ ∧
 FW Ee F_graph_Take [.pointer (some ⟨r0b, 0, none⟩)] H2 fun v_1 H3 =>
 ∃ (z0 : Option Addr) (z1 z2 : Nat),
 v_1 = .agg ⟨[.slice z0 z1 z2]⟩ ∧
 ∀ (H4 : AH),
 H4 = H3.new (.cells [.string ⟨⟨[]⟩⟩, .slice none 0 0, .slice none 0 0, .int .i64 0, .int .i64 0, .int .i64 0] 0) →
 ∃ (H5 : AH),
 storeCellsv H4 H3.next 0 [.string ⟨⟨r6⟩⟩, .slice z0 z1 z2, .slice none 0 0, .int .i64 0, .int .i64 0, .int .i64 0] = some H5 ∧
 FW Ee F_wire_Reader_Count [.pointer (some ⟨r0b, 0, none⟩), .int .i64 4] H5 fun v_2 H6 =>
 ∃ (r11 : Int),
 v_2 = .int .i64 r11 ∧
 ∃ (J_1 : Int → AH → Prop),
 (
 ∃ (Inv : Nat → Int → AH → Prop),
 (
 ∃ (n_1 : Nat),
 Inv n_1 r11 H6) ∧
 ∀ (n : Nat),
 ∀ (n4 : Int) (H7 : AH),
 Inv n n4 H7 →
 cond (decide (n4 > 0)) (
 FW Ee F_wire_Reader_Err [.pointer (some ⟨r0b, 0, none⟩)] H7 fun v_3 H8 =>
 ∃ (r16 : Int),
 v_3 = .int .i64 r16 ∧
 cond (r16 == 0) (
 ∃ (t22a : Option Addr) (t22l t22c : Nat),
 H8.cell H3.next 2 = some (.slice t22a t22l t22c) ∧
 FW Ee F_wire_Reader_Signed [.pointer (some ⟨r0b, 0, none⟩)] H8 fun v_4 H9 =>
 ∃ (r24 : Int),
 v_4 = .int .i64 r24 ∧
 ∀ (H10 : AH),
 H10 = H9.new (.cells [.int .i64 r24] 0) →
 ∃ (t26a : Option Addr) (t26l t26c : Nat) (H11 : AH),
 apnd H10 1 8 t22a t22l t22c (.slice (some ⟨H9.next, 0, none⟩) 1 2) = some (.slice t26a t26l t26c, H11) ∧
 ∃ (H12 : AH),
 storeCellsv H11 H3.next 2 [.slice t26a t26l t26c] = some H12 ∧
 H10.cell H3.next 2 = some (.slice t22a t22l t22c) ∧
 ∀ (t20 : Int),
 t20 = IntKind.i64.wrap (n4 - 1) →
 ∃ (m : Nat),
 m < n ∧
 Inv m t20 H12) (
 J_1 n4 H8)) (
 J_1 n4 H7)) ∧
 ∀ (z3 : Int) (H13 : AH),
 J_1 z3 H13 →
 FW Ee F_wire_Reader_Count [.pointer (some ⟨r0b, 0, none⟩), .int .i64 1000] H13 fun v_5 H14 =>
 ∃ (r29 : Int),
 v_5 = .int .i64 r29 ∧
 FW Ee F_wire_Reader_Count [.pointer (some ⟨r0b, 0, none⟩), .int .i64 65536] H14 fun v_6 H15 =>
 ∃ (r31 : Int),
 v_6 = .int .i64 r31 ∧
 FW Ee F_wire_Reader_Count [.pointer (some ⟨r0b, 0, none⟩), .int .i64 16] H15 fun v_7 H16 =>
 ∃ (r33 : Int),
 v_7 = .int .i64 r33 ∧
 ∃ (H17 : AH),
 storeCellsv H16 H3.next 3 [.int .i64 r29] = some H17 ∧
 ∃ (H18 : AH),
 storeCellsv H17 H3.next 4 [.int .i64 r31] = some H18 ∧
 ∃ (H19 : AH),
 storeCellsv H18 H3.next 5 [.int .i64 r33] = some H19 ∧
 FW Ee F_wire_Reader_Err [.pointer (some ⟨r0b, 0, none⟩)] H19 fun v_8 H20 =>
 ∃ (r38 : Int),
 v_8 = .int .i64 r38 ∧
 cond (r38 == 0) (
 ∃ (z4 : List UInt8) (z5 : Option Addr) (z6 z7 : Nat) (z8 : Option Addr) (z9 z10 : Nat) (z11 z12 z13 : Int),
 H20.cell H3.next (0 + 0) = some (.string ⟨⟨z4⟩⟩) ∧
 H20.cell H3.next (0 + 1) = some (.slice z5 z6 z7) ∧
 H20.cell H3.next (0 + 2) = some (.slice z8 z9 z10) ∧
 H20.cell H3.next (0 + 3) = some (.int .i64 z11) ∧
 H20.cell H3.next (0 + 4) = some (.int .i64 z12) ∧
 H20.cell H3.next (0 + 5) = some (.int .i64 z13) ∧
 FW Ee F_run_Check [.agg ⟨[.string ⟨⟨z4⟩⟩, .slice z5 z6 z7, .slice z8 z9 z10, .int .i64 z11, .int .i64 z12, .int .i64 z13]⟩] H20 fun v_9 H21 =>
 ∃ (r42 : Int),
 v_9 = .int .i64 r42 ∧
 FW Ee F_wire_Reader_Fail [.pointer (some ⟨r0b, 0, none⟩), .int .i64 r42] H21 fun v_10 H22 =>
 v_10 = .tuple ⟨[]⟩ ∧
 ∃ (z14 : List UInt8) (z15 : Option Addr) (z16 z17 : Nat) (z18 : Option Addr) (z19 z20 : Nat) (z21 z22 z23 : Int),
 H22.cell H3.next (0 + 0) = some (.string ⟨⟨z14⟩⟩) ∧
 H22.cell H3.next (0 + 1) = some (.slice z15 z16 z17) ∧
 H22.cell H3.next (0 + 2) = some (.slice z18 z19 z20) ∧
 H22.cell H3.next (0 + 3) = some (.int .i64 z21) ∧
 H22.cell H3.next (0 + 4) = some (.int .i64 z22) ∧
 H22.cell H3.next (0 + 5) = some (.int .i64 z23) ∧
 ∃ (H23 : AH),
 storeCellsv H22 H.next 0 [.string ⟨⟨z14⟩⟩, .slice z15 z16 z17, .slice z18 z19 z20, .int .i64 z21, .int .i64 z22, .int .i64 z23] = some H23 ∧
 ∃ (z24 : List UInt8) (z25 : Option Addr) (z26 z27 : Nat) (z28 : Option Addr) (z29 z30 : Nat) (z31 z32 z33 : Int),
 H23.cell H.next (0 + 0) = some (.string ⟨⟨z24⟩⟩) ∧
 H23.cell H.next (0 + 1) = some (.slice z25 z26 z27) ∧
 H23.cell H.next (0 + 2) = some (.slice z28 z29 z30) ∧
 H23.cell H.next (0 + 3) = some (.int .i64 z31) ∧
 H23.cell H.next (0 + 4) = some (.int .i64 z32) ∧
 H23.cell H.next (0 + 5) = some (.int .i64 z33) ∧
 Q (.agg ⟨[.string ⟨⟨z24⟩⟩, .slice z25 z26 z27, .slice z28 z29 z30, .int .i64 z31, .int .i64 z32, .int .i64 z33]⟩) H23) (
 ∃ (z34 : List UInt8) (z35 : Option Addr) (z36 z37 : Nat) (z38 : Option Addr) (z39 z40 : Nat) (z41 z42 z43 : Int),
 H20.cell H3.next (0 + 0) = some (.string ⟨⟨z34⟩⟩) ∧
 H20.cell H3.next (0 + 1) = some (.slice z35 z36 z37) ∧
 H20.cell H3.next (0 + 2) = some (.slice z38 z39 z40) ∧
 H20.cell H3.next (0 + 3) = some (.int .i64 z41) ∧
 H20.cell H3.next (0 + 4) = some (.int .i64 z42) ∧
 H20.cell H3.next (0 + 5) = some (.int .i64 z43) ∧
 ∃ (H24 : AH),
 storeCellsv H20 H.next 0 [.string ⟨⟨z34⟩⟩, .slice z35 z36 z37, .slice z38 z39 z40, .int .i64 z41, .int .i64 z42, .int .i64 z43] = some H24 ∧
 ∃ (z44 : List UInt8) (z45 : Option Addr) (z46 z47 : Nat) (z48 : Option Addr) (z49 z50 : Nat) (z51 z52 z53 : Int),
 H24.cell H.next (0 + 0) = some (.string ⟨⟨z44⟩⟩) ∧
 H24.cell H.next (0 + 1) = some (.slice z45 z46 z47) ∧
 H24.cell H.next (0 + 2) = some (.slice z48 z49 z50) ∧
 H24.cell H.next (0 + 3) = some (.int .i64 z51) ∧
 H24.cell H.next (0 + 4) = some (.int .i64 z52) ∧
 H24.cell H.next (0 + 5) = some (.int .i64 z53) ∧
 Q (.agg ⟨[.string ⟨⟨z44⟩⟩, .slice z45 z46 z47, .slice z48 z49 z50, .int .i64 z51, .int .i64 z52, .int .i64 z53]⟩) H24)
set_option maxRecDepth 100000 in
theorem fw_run_TakeJob {r0b : Nat} {H : AH} {Q : Value → AH → Prop} (h : VC_run_TakeJob r0b H Q) : FW Ee F_run_TakeJob [.pointer (some ⟨r0b, 0, none⟩)] H Q :=
  letI : Sy := sy0
  wpF_sound (A := ⟨[0], []⟩) (Eq.mp (by kernel_rfl) h)
end Go.Proofs.Cx
namespace Go.Proofs.Cx
open Go Go.Ev
set_option linter.unusedVariables false
set_option maxRecDepth 100000
set_option maxHeartbeats 8000000
def VC_wire_Writer_Bool (w0b : Nat) (b1 : Bool) (H : AH) (Q : Value → AH → Prop) : Prop :=
 cond (b1) (
 FW Ee F_wire_Writer_Number [.pointer (some ⟨w0b, 0, none⟩), .int .u64 1] H fun v H1 =>
 v = .tuple ⟨[]⟩ ∧
 Q (.tuple ⟨[]⟩) H1) (
 FW Ee F_wire_Writer_Number [.pointer (some ⟨w0b, 0, none⟩), .int .u64 0] H fun v_1 H2 =>
 v_1 = .tuple ⟨[]⟩ ∧
 Q (.tuple ⟨[]⟩) H2)
set_option maxRecDepth 100000 in
theorem fw_wire_Writer_Bool {w0b : Nat} {b1 : Bool} {H : AH} {Q : Value → AH → Prop} (h : VC_wire_Writer_Bool w0b b1 H Q) : FW Ee F_wire_Writer_Bool [.pointer (some ⟨w0b, 0, none⟩), .bool b1] H Q :=
  letI : Sy := sy0
  wpF_sound (A := ⟨[], []⟩) (Eq.mp (by kernel_rfl) h)
def VC_wire_Reader_Bool (r0b : Nat) (H : AH) (Q : Value → AH → Prop) : Prop :=
 FW Ee F_wire_Reader_At [.pointer (some ⟨r0b, 0, none⟩)] H fun v H1 =>
 ∃ (r6 : Int),
 v = .int .i64 r6 ∧
 FW Ee F_wire_Reader_Number [.pointer (some ⟨r0b, 0, none⟩)] H1 fun v_1 H2 =>
 ∃ (r8 : Int),
 v_1 = .int .u64 r8 ∧
 FW Ee F_wire_Reader_Err [.pointer (some ⟨r0b, 0, none⟩)] H2 fun v_2 H3 =>
 ∃ (r10 : Int),
 v_2 = .int .i64 r10 ∧
 cond (r10 == 0) (
 cond (decide (r8 > 1)) (
 ∃ (H4 : AH),
 storeCellsv H3 r0b 1 [.int .i64 r6] = some H4 ∧
 ∃ (H5 : AH),
 storeCellsv H4 r0b 2 [.int .i64 6] = some H5 ∧
 FW Ee F_wire_Reader_Err [.pointer (some ⟨r0b, 0, none⟩)] H5 fun v_3 H6 =>
 ∃ (r24 : Int),
 v_3 = .int .i64 r24 ∧
 cond (r24 == 0) (
 Q (.bool (r8 == 1)) H6) (
 Q (.bool false) H6)) (
 FW Ee F_wire_Reader_Err [.pointer (some ⟨r0b, 0, none⟩)] H3 fun v_4 H7 =>
 ∃ (z0 : Int),
 v_4 = .int .i64 z0 ∧
 cond (z0 == 0) (
 Q (.bool (r8 == 1)) H7) (
 Q (.bool false) H7))) (
 FW Ee F_wire_Reader_Err [.pointer (some ⟨r0b, 0, none⟩)] H3 fun v_5 H8 =>
 ∃ (z1 : Int),
 v_5 = .int .i64 z1 ∧
 cond (z1 == 0) (
 Q (.bool (r8 == 1)) H8) (
 Q (.bool false) H8))
set_option maxRecDepth 100000 in
theorem fw_wire_Reader_Bool {r0b : Nat} {H : AH} {Q : Value → AH → Prop} (h : VC_wire_Reader_Bool r0b H Q) : FW Ee F_wire_Reader_Bool [.pointer (some ⟨r0b, 0, none⟩)] H Q :=
  letI : Sy := sy0
  wpF_sound (A := ⟨[], []⟩) (Eq.mp (by kernel_rfl) h)
def VC_agg_Put (w0b : Nat) (z0 z1 z2 z3 z4 : Bool) (z5 z6 z7 z8 z9 : Int) (H : AH) (Q : Value → AH → Prop) : Prop :=
 ∀ (H1 : AH),
 H1 = H.new (.cells [.bool z0, .bool z1, .bool z2, .bool z3, .bool z4, .int .i64 z5, .int .i64 z6, .int .i64 z7, .int .i64 z8, .int .i64 z9] 0) →
 ∃ (z10 z11 z12 z13 z14 : Bool),
 H1.cell H.next (0 + 0) = some (.bool z10) ∧
 H1.cell H.next (0 + 1) = some (.bool z11) ∧
 H1.cell H.next (0 + 2) = some (.bool z12) ∧
 H1.cell H.next (0 + 3) = some (.bool z13) ∧
 H1.cell H.next (0 + 4) = some (.bool z14) ∧
 ∃ (Inv : Nat → Int → AH → Prop),
 (
 ∃ (n_1 : Nat),
 Inv n_1 0 H1) ∧
 ∀ (n : Nat),
 ∀ (t8 : Int) (H2 : AH),
 Inv n t8 H2 →
 cond (decide (t8 < 5)) (
 ∃ (z15 : Bool),
 indexv Ee T_5_bool (.agg ⟨[.bool z10, .bool z11, .bool z12, .bool z13, .bool z14]⟩) (.int .i64 t8) = some (.bool z15) ∧
 FW Ee F_wire_Writer_Bool [.pointer (some ⟨w0b, 0, none⟩), .bool z15] H2 fun v H3 =>
 v = .tuple ⟨[]⟩ ∧
 cond (z15) (
 (0 : Int) ≤ t8 ∧
 (t8 : Int) < ((5 : Nat) : Int) ∧
 ∃ (t20 : Int),
 H3.cell H.next (5 + (t8 : Int).toNat * 1) = some (.int .i64 t20) ∧
 FW Ee F_wire_Writer_Signed [.pointer (some ⟨w0b, 0, none⟩), .int .i64 t20] H3 fun v_1 H4 =>
 v_1 = .tuple ⟨[]⟩ ∧
 ∀ (t22 : Int),
 t22 = IntKind.i64.wrap (t8 + 1) →
 ∃ (m : Nat),
 m < n ∧
 Inv m t22 H4) (
 ∀ (z16 : Int),
 z16 = IntKind.i64.wrap (t8 + 1) →
 ∃ (m : Nat),
 m < n ∧
 Inv m z16 H3)) (
 Q (.tuple ⟨[]⟩) H2)
set_option maxRecDepth 100000 in
theorem fw_agg_Put {w0b : Nat} {z0 z1 z2 z3 z4 : Bool} {z5 z6 z7 z8 z9 : Int} {H : AH} {Q : Value → AH → Prop} (h : VC_agg_Put w0b z0 z1 z2 z3 z4 z5 z6 z7 z8 z9 H Q) : FW Ee F_agg_Put [.pointer (some ⟨w0b, 0, none⟩), .agg ⟨[.bool z0, .bool z1, .bool z2, .bool z3, .bool z4, .int .i64 z5, .int .i64 z6, .int .i64 z7, .int .i64 z8, .int .i64 z9]⟩] H Q :=
  letI : Sy := sy0
  wpF_sound (A := ⟨[], []⟩) (Eq.mp (by kernel_rfl) h)
def VC_agg_Take (r0b : Nat) (H : AH) (Q : Value → AH → Prop) : Prop :=
 ∀ (H1 : AH),
 H1 = H.new (.cells [.bool false, .bool false, .bool false, .bool false, .bool false, .int .i64 0, .int .i64 0, .int .i64 0, .int .i64 0, .int .i64 0] 0) →
 ∀ (H2 : AH),
 H2 = H1.new (.cells [.bool false, .bool false, .bool false, .bool false, .bool false, .int .i64 0, .int .i64 0, .int .i64 0, .int .i64 0, .int .i64 0] 0) →
 ∃ (Inv : Nat → Int → AH → Prop),
 (
 ∃ (n_1 : Nat),
 Inv n_1 0 H2) ∧
 ∀ (n : Nat),
 ∀ (t5 : Int) (H3 : AH),
 Inv n t5 H3 →
 cond (decide (t5 < 5)) (
 FW Ee F_wire_Reader_Bool [.pointer (some ⟨r0b, 0, none⟩)] H3 fun v H4 =>
 ∃ (r10 : Bool),
 v = .bool r10 ∧
 (0 : Int) ≤ t5 ∧
 (t5 : Int) < ((5 : Nat) : Int) ∧
 ∃ (H5 : AH),
 storeCellsv H4 H1.next (0 + (t5 : Int).toNat * 1) [.bool r10] = some H5 ∧
 (0 : Int) ≤ t5 ∧
 (t5 : Int) < ((5 : Nat) : Int) ∧
 ∃ (t16 : Bool),
 H5.cell H1.next (0 + (t5 : Int).toNat * 1) = some (.bool t16) ∧
 cond (t16) (
 FW Ee F_wire_Reader_Signed [.pointer (some ⟨r0b, 0, none⟩)] H5 fun v_1 H6 =>
 ∃ (r19 : Int),
 v_1 = .int .i64 r19 ∧
 (0 : Int) ≤ t5 ∧
 (t5 : Int) < ((5 : Nat) : Int) ∧
 ∃ (H7 : AH),
 storeCellsv H6 H1.next (5 + (t5 : Int).toNat * 1) [.int .i64 r19] = some H7 ∧
 ∀ (t22 : Int),
 t22 = IntKind.i64.wrap (t5 + 1) →
 ∃ (m : Nat),
 m < n ∧
 Inv m t22 H7) (
 ∀ (z0 : Int),
 z0 = IntKind.i64.wrap (t5 + 1) →
 ∃ (m : Nat),
 m < n ∧
 Inv m z0 H5)) (
 FW Ee F_wire_Reader_Err [.pointer (some ⟨r0b, 0, none⟩)] H3 fun v_2 H8 =>
 ∃ (r24 : Int),
 v_2 = .int .i64 r24 ∧
 cond (r24 != 0) (
 ∃ (H9 : AH),
 storeCellsv H8 H.next 0 [.bool false, .bool false, .bool false, .bool false, .bool false, .int .i64 0, .int .i64 0, .int .i64 0, .int .i64 0, .int .i64 0] = some H9 ∧
 ∃ (z1 z2 z3 z4 z5 : Bool) (z6 z7 z8 z9 z10 : Int),
 H9.cell H.next (0 + 0) = some (.bool z1) ∧
 H9.cell H.next (0 + 1) = some (.bool z2) ∧
 H9.cell H.next (0 + 2) = some (.bool z3) ∧
 H9.cell H.next (0 + 3) = some (.bool z4) ∧
 H9.cell H.next (0 + 4) = some (.bool z5) ∧
 H9.cell H.next (0 + 5) = some (.int .i64 z6) ∧
 H9.cell H.next (0 + 6) = some (.int .i64 z7) ∧
 H9.cell H.next (0 + 7) = some (.int .i64 z8) ∧
 H9.cell H.next (0 + 8) = some (.int .i64 z9) ∧
 H9.cell H.next (0 + 9) = some (.int .i64 z10) ∧
 Q (.agg ⟨[.bool z1, .bool z2, .bool z3, .bool z4, .bool z5, .int .i64 z6, .int .i64 z7, .int .i64 z8, .int .i64 z9, .int .i64 z10]⟩) H9) (
 ∃ (z11 z12 z13 z14 z15 : Bool) (z16 z17 z18 z19 z20 : Int),
 H8.cell H1.next (0 + 0) = some (.bool z11) ∧
 H8.cell H1.next (0 + 1) = some (.bool z12) ∧
 H8.cell H1.next (0 + 2) = some (.bool z13) ∧
 H8.cell H1.next (0 + 3) = some (.bool z14) ∧
 H8.cell H1.next (0 + 4) = some (.bool z15) ∧
 H8.cell H1.next (0 + 5) = some (.int .i64 z16) ∧
 H8.cell H1.next (0 + 6) = some (.int .i64 z17) ∧
 H8.cell H1.next (0 + 7) = some (.int .i64 z18) ∧
 H8.cell H1.next (0 + 8) = some (.int .i64 z19) ∧
 H8.cell H1.next (0 + 9) = some (.int .i64 z20) ∧
 ∃ (H10 : AH),
 storeCellsv H8 H.next 0 [.bool z11, .bool z12, .bool z13, .bool z14, .bool z15, .int .i64 z16, .int .i64 z17, .int .i64 z18, .int .i64 z19, .int .i64 z20] = some H10 ∧
 ∃ (z21 z22 z23 z24 z25 : Bool) (z26 z27 z28 z29 z30 : Int),
 H10.cell H.next (0 + 0) = some (.bool z21) ∧
 H10.cell H.next (0 + 1) = some (.bool z22) ∧
 H10.cell H.next (0 + 2) = some (.bool z23) ∧
 H10.cell H.next (0 + 3) = some (.bool z24) ∧
 H10.cell H.next (0 + 4) = some (.bool z25) ∧
 H10.cell H.next (0 + 5) = some (.int .i64 z26) ∧
 H10.cell H.next (0 + 6) = some (.int .i64 z27) ∧
 H10.cell H.next (0 + 7) = some (.int .i64 z28) ∧
 H10.cell H.next (0 + 8) = some (.int .i64 z29) ∧
 H10.cell H.next (0 + 9) = some (.int .i64 z30) ∧
 Q (.agg ⟨[.bool z21, .bool z22, .bool z23, .bool z24, .bool z25, .int .i64 z26, .int .i64 z27, .int .i64 z28, .int .i64 z29, .int .i64 z30]⟩) H10))
set_option maxRecDepth 100000 in
theorem fw_agg_Take {r0b : Nat} {H : AH} {Q : Value → AH → Prop} (h : VC_agg_Take r0b H Q) : FW Ee F_agg_Take [.pointer (some ⟨r0b, 0, none⟩)] H Q :=
  letI : Sy := sy0
  wpF_sound (A := ⟨[], []⟩) (Eq.mp (by kernel_rfl) h)
def VC_master_putValues (w0b : Nat) (l1a : Option Addr) (l1l l1c : Nat) (H : AH) (Q : Value → AH → Prop) : Prop :=
 FW Ee F_wire_Writer_Count [.pointer (some ⟨w0b, 0, none⟩), .int .i64 (((l1l : Nat) : Int))] H fun v H1 =>
 v = .tuple ⟨[]⟩ ∧
 ∃ (Inv : Nat → Int → AH → Prop),
 (
 ∃ (n_1 : Nat),
 Inv n_1 0 H1) ∧
 ∀ (n : Nat),
 ∀ (t12 : Int) (H2 : AH),
 Inv n t12 H2 →
 cond (decide (t12 < (((l1l : Nat) : Int)))) (
 grd l1a.isSome (
 (0 : Int) ≤ t12 ∧
 (t12 : Int) < ((l1l : Nat) : Int) ∧
 ∃ (z0 z1 : Int),
 H2.cell ((adr l1a).block) ((adr l1a).off + (t12 : Int).toNat * 2 + 0) = some (.int .i64 z0) ∧
 H2.cell ((adr l1a).block) ((adr l1a).off + (t12 : Int).toNat * 2 + 1) = some (.int .i64 z1) ∧
 ∀ (H3 : AH),
 H3 = H2.new (.cells [.int .i64 0, .int .i64 0] 0) →
 ∃ (H4 : AH),
 storeCellsv H3 H2.next 0 [.int .i64 z0, .int .i64 z1] = some H4 ∧
 ∃ (t18 : Int),
 H4.cell H2.next 0 = some (.int .i64 t18) ∧
 FW Ee F_wire_Writer_Signed [.pointer (some ⟨w0b, 0, none⟩), .int .i64 t18] H4 fun v_1 H5 =>
 v_1 = .tuple ⟨[]⟩ ∧
 ∃ (t22 : Int),
 H5.cell H2.next 1 = some (.int .i64 t22) ∧
 FW Ee F_wire_Writer_Signed [.pointer (some ⟨w0b, 0, none⟩), .int .i64 t22] H5 fun v_2 H6 =>
 v_2 = .tuple ⟨[]⟩ ∧
 ∀ (t24 : Int),
 t24 = IntKind.i64.wrap (t12 + 1) →
 ∃ (m : Nat),
 m < n ∧
 Inv m t24 H6)) (
 Q (.tuple ⟨[]⟩) H2)
set_option maxRecDepth 100000 in
theorem fw_master_putValues {w0b : Nat} {l1a : Option Addr} {l1l l1c : Nat} {H : AH} {Q : Value → AH → Prop} (h : VC_master_putValues w0b l1a l1l l1c H Q) : FW Ee F_master_putValues [.pointer (some ⟨w0b, 0, none⟩), .slice l1a l1l l1c] H Q :=
  letI : Sy := sy0
  wpF_sound (A := ⟨[], []⟩) (Eq.mp (by kernel_rfl) h)
def VC_master_takeValues (r0b : Nat) (H : AH) (Q : Value → AH → Prop) : Prop :=
 FW Ee F_wire_Reader_Count [.pointer (some ⟨r0b, 0, none⟩), .int .i64 256] H fun v H1 =>
 ∃ (r6 : Int),
 v = .int .i64 r6 ∧
 ∃ (Inv : Nat → Option Addr → Nat → Nat → Int → AH → Prop),
 (
 ∃ (n_1 : Nat),
 Inv n_1 none 0 0 r6 H1) ∧
 ∀ (n : Nat),
 ∀ (out3a : Option Addr) (out3l out3c : Nat) (n4 : Int) (H2 : AH),
 Inv n out3a out3l out3c n4 H2 →
 cond (decide (n4 > 0)) (
 FW Ee F_wire_Reader_Err [.pointer (some ⟨r0b, 0, none⟩)] H2 fun v_1 H3 =>
 ∃ (r11 : Int),
 v_1 = .int .i64 r11 ∧
 cond (r11 == 0) (
 FW Ee F_wire_Reader_Signed [.pointer (some ⟨r0b, 0, none⟩)] H3 fun v_2 H4 =>
 ∃ (r18 : Int),
 v_2 = .int .i64 r18 ∧
 FW Ee F_wire_Reader_Signed [.pointer (some ⟨r0b, 0, none⟩)] H4 fun v_3 H5 =>
 ∃ (r20 : Int),
 v_3 = .int .i64 r20 ∧
 ∀ (H6 : AH),
 H6 = H5.new (.cells [.int .i64 r18, .int .i64 r20] 0) →
 ∃ (t23a : Option Addr) (t23l t23c : Nat) (H7 : AH),
 apnd H6 2 16 out3a out3l out3c (.slice (some ⟨H5.next, 0, none⟩) 1 2) = some (.slice t23a t23l t23c, H7) ∧
 ∀ (t15 : Int),
 t15 = IntKind.i64.wrap (n4 - 1) →
 ∃ (m : Nat),
 m < n ∧
 Inv m t23a t23l t23c t15 H7) (
 Q (.slice out3a out3l out3c) H3)) (
 Q (.slice out3a out3l out3c) H2)
set_option maxRecDepth 100000 in
theorem fw_master_takeValues {r0b : Nat} {H : AH} {Q : Value → AH → Prop} (h : VC_master_takeValues r0b H Q) : FW Ee F_master_takeValues [.pointer (some ⟨r0b, 0, none⟩)] H Q :=
  letI : Sy := sy0
  wpF_sound (A := ⟨[], []⟩) (Eq.mp (by kernel_rfl) h)
def VC_master_PutReport (w0b : Nat) (z0 z1 z2 z3 z4 z5 z6 z7 z8 : Int) (z9 z10 z11 z12 z13 : Bool) (z14 z15 z16 z17 z18 : Int) (z19 : Option Addr) (z20 z21 : Nat) (H : AH) (Q : Value → AH → Prop) : Prop :=
 ∀ (H1 : AH),
 H1 = H.new (.cells [.int .i64 z0, .int .i64 z1, .int .i64 z2, .int .i64 z3, .int .i64 z4, .int .i64 z5, .int .i64 z6, .int .i64 z7, .int .i64 z8, .bool z9, .bool z10, .bool z11, .bool z12, .bool z13, .int .i64 z14, .int .i64 z15, .int .i64 z16, .int .i64 z17, .int .i64 z18, .slice z19 z20 z21] 0) →
 ∃ (t7 : Int),
 H1.cell H.next 0 = some (.int .i64 t7) ∧
 ∃ (t9 : Int),
 H1.cell H.next 1 = some (.int .i64 t9) ∧
 ∃ (t11 : Int),
 H1.cell H.next 2 = some (.int .i64 t11) ∧
 ∃ (t13 : Int),
 H1.cell H.next 3 = some (.int .i64 t13) ∧
 ∃ (t15 : Int),
 H1.cell H.next 4 = some (.int .i64 t15) ∧
 ∃ (t17 : Int),
 H1.cell H.next 5 = some (.int .i64 t17) ∧
 ∃ (t19 : Int),
 H1.cell H.next 6 = some (.int .i64 t19) ∧
 ∃ (t21 : Int),
 H1.cell H.next 7 = some (.int .i64 t21) ∧
 ∃ (t23 : Int),
 H1.cell H.next 8 = some (.int .i64 t23) ∧
 ∀ (H2 : AH),
 H2 = H1.new (.cells [.int .i64 t7, .int .i64 t9, .int .i64 t11, .int .i64 t13, .int .i64 t15, .int .i64 t17, .int .i64 t19, .int .i64 t21, .int .i64 t23] 0) →
 ∃ (Inv : Nat → Int → AH → Prop),
 (
 ∃ (n_1 : Nat),
 Inv n_1 0 H2) ∧
 ∀ (n : Nat),
 ∀ (t26 : Int) (H3 : AH),
 Inv n t26 H3 →
 cond (decide (t26 < (((9 : Nat) : Int)))) (
 (0 : Int) ≤ t26 ∧
 (t26 : Int) < ((9 : Nat) : Int) ∧
 ∃ (t29 : Int),
 H3.cell H1.next (0 + (t26 : Int).toNat * 1) = some (.int .i64 t29) ∧
 FW Ee F_wire_Writer_Count [.pointer (some ⟨w0b, 0, none⟩), .int .i64 t29] H3 fun v H4 =>
 v = .tuple ⟨[]⟩ ∧
 ∀ (t33 : Int),
 t33 = IntKind.i64.wrap (t26 + 1) →
 ∃ (m : Nat),
 m < n ∧
 Inv m t33 H4) (
 ∃ (z22 z23 z24 z25 z26 : Bool) (z27 z28 z29 z30 z31 : Int),
 H3.cell H.next (9 + 0) = some (.bool z22) ∧
 H3.cell H.next (9 + 1) = some (.bool z23) ∧
 H3.cell H.next (9 + 2) = some (.bool z24) ∧
 H3.cell H.next (9 + 3) = some (.bool z25) ∧
 H3.cell H.next (9 + 4) = some (.bool z26) ∧
 H3.cell H.next (9 + 5) = some (.int .i64 z27) ∧
 H3.cell H.next (9 + 6) = some (.int .i64 z28) ∧
 H3.cell H.next (9 + 7) = some (.int .i64 z29) ∧
 H3.cell H.next (9 + 8) = some (.int .i64 z30) ∧
 H3.cell H.next (9 + 9) = some (.int .i64 z31) ∧
 FW Ee F_agg_Put [.pointer (some ⟨w0b, 0, none⟩), .agg ⟨[.bool z22, .bool z23, .bool z24, .bool z25, .bool z26, .int .i64 z27, .int .i64 z28, .int .i64 z29, .int .i64 z30, .int .i64 z31]⟩] H3 fun v_1 H5 =>
 v_1 = .tuple ⟨[]⟩ ∧
 ∃ (t40a : Option Addr) (t40l t40c : Nat),
 H5.cell H.next 19 = some (.slice t40a t40l t40c) ∧
 FW Ee F_master_putValues [.pointer (some ⟨w0b, 0, none⟩), .slice t40a t40l t40c] H5 fun v_2 H6 =>
 v_2 = .tuple ⟨[]⟩ ∧
 Q (.tuple ⟨[]⟩) H6)
set_option maxRecDepth 100000 in
theorem fw_master_PutReport {w0b : Nat} {z0 z1 z2 z3 z4 z5 z6 z7 z8 : Int} {z9 z10 z11 z12 z13 : Bool} {z14 z15 z16 z17 z18 : Int} {z19 : Option Addr} {z20 z21 : Nat} {H : AH} {Q : Value → AH → Prop} (h : VC_master_PutReport w0b z0 z1 z2 z3 z4 z5 z6 z7 z8 z9 z10 z11 z12 z13 z14 z15 z16 z17 z18 z19 z20 z21 H Q) : FW Ee F_master_PutReport [.pointer (some ⟨w0b, 0, none⟩), .agg ⟨[.int .i64 z0, .int .i64 z1, .int .i64 z2, .int .i64 z3, .int .i64 z4, .int .i64 z5, .int .i64 z6, .int .i64 z7, .int .i64 z8, .bool z9, .bool z10, .bool z11, .bool z12, .bool z13, .int .i64 z14, .int .i64 z15, .int .i64 z16, .int .i64 z17, .int .i64 z18, .slice z19 z20 z21]⟩] H Q :=
  letI : Sy := sy0
  wpF_sound (A := ⟨[], []⟩) (Eq.mp (by kernel_rfl) h)
def VC_master_TakeReport (r0b : Nat) (H : AH) (Q : Value → AH → Prop) : Prop :=
 ∀ (H1 : AH),
 H1 = H.new (.cells [.int .i64 0, .int .i64 0, .int .i64 0, .int .i64 0, .int .i64 0, .int .i64 0, .int .i64 0, .int .i64 0, .int .i64 0, .bool false, .bool false, .bool false, .bool false, .bool false, .int .i64 0, .int .i64 0, .int .i64 0, .int .i64 0, .int .i64 0, .slice none 0 0] 0) →
 ∀ (H2 : AH),
 H2 = H1.new (.cells [.int .i64 0, .int .i64 0, .int .i64 0, .int .i64 0, .int .i64 0, .int .i64 0, .int .i64 0, .int .i64 0, .int .i64 0, .bool false, .bool false, .bool false, .bool false, .bool false, .int .i64 0, .int .i64 0, .int .i64 0, .int .i64 0, .int .i64 0, .slice none 0 0] 0) →
 ∀ (H3 : AH),
 H3 = H2.new (.cells [.int .i64 0] 0) →
 ∀ (H4 : AH),
 H4 = H3.new (.cells [.pointer (some ⟨H1.next, 0, none⟩), .pointer (some ⟨H1.next, 1, none⟩), .pointer (some ⟨H1.next, 2, none⟩), .pointer (some ⟨H1.next, 3, none⟩), .pointer (some ⟨H1.next, 4, none⟩), .pointer (some ⟨H2.next, 0, none⟩), .pointer (some ⟨H1.next, 6, none⟩), .pointer (some ⟨H1.next, 7, none⟩), .pointer (some ⟨H1.next, 8, none⟩)] 0) →
 ∃ (Inv : Nat → Int → AH → Prop),
 (
 ∃ (n_1 : Nat),
 Inv n_1 0 H4) ∧
 ∀ (n : Nat),
 ∀ (t17 : Int) (H5 : AH),
 Inv n t17 H5 →
 cond (decide (t17 < (((9 : Nat) : Int)))) (
 (0 : Int) ≤ t17 ∧
 (t17 : Int) < ((9 : Nat) : Int) ∧
 ∃ (t20 : Option Addr),
 H5.cell H3.next (0 + (t17 : Int).toNat * 1) = some (.pointer t20) ∧
 FW Ee F_wire_Reader_Count [.pointer (some ⟨r0b, 0, none⟩), .int .i64 2147483647] H5 fun v H6 =>
 ∃ (r23 : Int),
 v = .int .i64 r23 ∧
 grd t20.isSome (
 grd t20.isSome (
 ∃ (H7 : AH),
 storeCellsv H6 ((adr t20).block) ((adr t20).off) [.int .i64 r23] = some H7 ∧
 ∀ (t25 : Int),
 t25 = IntKind.i64.wrap (t17 + 1) →
 ∃ (m : Nat),
 m < n ∧
 Inv m t25 H7))) (
 ∃ (t26 : Int),
 H5.cell H2.next 0 = some (.int .i64 t26) ∧
 FW Ee F_agg_Take [.pointer (some ⟨r0b, 0, none⟩)] H5 fun v_1 H8 =>
 ∃ (z0 z1 z2 z3 z4 : Bool) (z5 z6 z7 z8 z9 : Int),
 v_1 = .agg ⟨[.bool z0, .bool z1, .bool z2, .bool z3, .bool z4, .int .i64 z5, .int .i64 z6, .int .i64 z7, .int .i64 z8, .int .i64 z9]⟩ ∧
 FW Ee F_master_takeValues [.pointer (some ⟨r0b, 0, none⟩)] H8 fun v_2 H9 =>
 ∃ (r30a : Option Addr) (r30l r30c : Nat),
 v_2 = .slice r30a r30l r30c ∧
 ∃ (H10 : AH),
 storeCellsv H9 H1.next 5 [.int .i64 t26] = some H10 ∧
 ∃ (H11 : AH),
 storeCellsv H10 H1.next 9 [.bool z0, .bool z1, .bool z2, .bool z3, .bool z4, .int .i64 z5, .int .i64 z6, .int .i64 z7, .int .i64 z8, .int .i64 z9] = some H11 ∧
 ∃ (H12 : AH),
 storeCellsv H11 H1.next 19 [.slice r30a r30l r30c] = some H12 ∧
 H9.cell H2.next 0 = some (.int .i64 t26) ∧
 H8.cell H2.next 0 = some (.int .i64 t26) ∧
 ∃ (z10 z11 z12 z13 z14 z15 z16 z17 z18 : Int) (z19 z20 z21 z22 z23 : Bool) (z24 z25 z26 z27 z28 : Int) (z29 : Option Addr) (z30 z31 : Nat),
 H12.cell H1.next (0 + 0) = some (.int .i64 z10) ∧
 H12.cell H1.next (0 + 1) = some (.int .i64 z11) ∧
 H12.cell H1.next (0 + 2) = some (.int .i64 z12) ∧
 H12.cell H1.next (0 + 3) = some (.int .i64 z13) ∧
 H12.cell H1.next (0 + 4) = some (.int .i64 z14) ∧
 H12.cell H1.next (0 + 5) = some (.int .i64 z15) ∧
 H12.cell H1.next (0 + 6) = some (.int .i64 z16) ∧
 H12.cell H1.next (0 + 7) = some (.int .i64 z17) ∧
 H12.cell H1.next (0 + 8) = some (.int .i64 z18) ∧
 H12.cell H1.next (0 + 9) = some (.bool z19) ∧
 H12.cell H1.next (0 + 10) = some (.bool z20) ∧
 H12.cell H1.next (0 + 11) = some (.bool z21) ∧
 H12.cell H1.next (0 + 12) = some (.bool z22) ∧
 H12.cell H1.next (0 + 13) = some (.bool z23) ∧
 H12.cell H1.next (0 + 14) = some (.int .i64 z24) ∧
 H12.cell H1.next (0 + 15) = some (.int .i64 z25) ∧
 H12.cell H1.next (0 + 16) = some (.int .i64 z26) ∧
 H12.cell H1.next (0 + 17) = some (.int .i64 z27) ∧
 H12.cell H1.next (0 + 18) = some (.int .i64 z28) ∧
 H12.cell H1.next (0 + 19) = some (.slice z29 z30 z31) ∧
 ∃ (H13 : AH),
 storeCellsv H12 H.next 0 [.int .i64 z10, .int .i64 z11, .int .i64 z12, .int .i64 z13, .int .i64 z14, .int .i64 z15, .int .i64 z16, .int .i64 z17, .int .i64 z18, .bool z19, .bool z20, .bool z21, .bool z22, .bool z23, .int .i64 z24, .int .i64 z25, .int .i64 z26, .int .i64 z27, .int .i64 z28, .slice z29 z30 z31] = some H13 ∧
 ∃ (z32 z33 z34 z35 z36 z37 z38 z39 z40 : Int) (z41 z42 z43 z44 z45 : Bool) (z46 z47 z48 z49 z50 : Int) (z51 : Option Addr) (z52 z53 : Nat),
 H13.cell H.next (0 + 0) = some (.int .i64 z32) ∧
 H13.cell H.next (0 + 1) = some (.int .i64 z33) ∧
 H13.cell H.next (0 + 2) = some (.int .i64 z34) ∧
 H13.cell H.next (0 + 3) = some (.int .i64 z35) ∧
 H13.cell H.next (0 + 4) = some (.int .i64 z36) ∧
 H13.cell H.next (0 + 5) = some (.int .i64 z37) ∧
 H13.cell H.next (0 + 6) = some (.int .i64 z38) ∧
 H13.cell H.next (0 + 7) = some (.int .i64 z39) ∧
 H13.cell H.next (0 + 8) = some (.int .i64 z40) ∧
 H13.cell H.next (0 + 9) = some (.bool z41) ∧
 H13.cell H.next (0 + 10) = some (.bool z42) ∧
 H13.cell H.next (0 + 11) = some (.bool z43) ∧
 H13.cell H.next (0 + 12) = some (.bool z44) ∧
 H13.cell H.next (0 + 13) = some (.bool z45) ∧
 H13.cell H.next (0 + 14) = some (.int .i64 z46) ∧
 H13.cell H.next (0 + 15) = some (.int .i64 z47) ∧
 H13.cell H.next (0 + 16) = some (.int .i64 z48) ∧
 H13.cell H.next (0 + 17) = some (.int .i64 z49) ∧
 H13.cell H.next (0 + 18) = some (.int .i64 z50) ∧
 H13.cell H.next (0 + 19) = some (.slice z51 z52 z53) ∧
 Q (.agg ⟨[.int .i64 z32, .int .i64 z33, .int .i64 z34, .int .i64 z35, .int .i64 z36, .int .i64 z37, .int .i64 z38, .int .i64 z39, .int .i64 z40, .bool z41, .bool z42, .bool z43, .bool z44, .bool z45, .int .i64 z46, .int .i64 z47, .int .i64 z48, .int .i64 z49, .int .i64 z50, .slice z51 z52 z53]⟩) H13)
set_option maxRecDepth 100000 in
theorem fw_master_TakeReport {r0b : Nat} {H : AH} {Q : Value → AH → Prop} (h : VC_master_TakeReport r0b H Q) : FW Ee F_master_TakeReport [.pointer (some ⟨r0b, 0, none⟩)] H Q :=
  letI : Sy := sy0
  wpF_sound (A := ⟨[], []⟩) (Eq.mp (by kernel_rfl) h)
end Go.Proofs.Cx
namespace Go.Proofs.Cx
open Go Go.Ev
set_option linter.unusedVariables false
set_option maxRecDepth 100000
set_option maxHeartbeats 8000000
def VC_master_PutTask (w0b : Nat) (z0 z1 z2 z3 : Int) (z4 : Option Addr) (z5 z6 : Nat) (z7 : Option Addr) (z8 z9 : Nat) (z10 : List UInt8) (z11 : Option Addr) (z12 z13 : Nat) (z14 : Option Addr) (z15 z16 : Nat) (z17 z18 z19 : Int) (z20 z21 z22 z23 z24 : Bool) (z25 z26 z27 z28 z29 z30 z31 z32 : Int) (z33 : Bool) (H : AH) (Q : Value → AH → Prop) : Prop :=
 ∀ (H1 : AH),
 H1 = H.new (.cells [.int .i64 z0, .int .i64 z1, .int .i64 z2, .int .i64 z3, .slice z4 z5 z6, .slice z7 z8 z9, .string ⟨⟨z10⟩⟩, .slice z11 z12 z13, .slice z14 z15 z16, .int .i64 z17, .int .i64 z18, .int .i64 z19, .bool z20, .bool z21, .bool z22, .bool z23, .bool z24, .int .i64 z25, .int .i64 z26, .int .i64 z27, .int .i64 z28, .int .i64 z29, .int .i64 z30, .int .i64 z31, .int .i64 z32, .bool z33] 0) →
 ∃ (t11 : Int),
 H1.cell H.next 0 = some (.int .i64 t11) ∧
 ∃ (t13 : Int),
 H1.cell H.next 1 = some (.int .i64 t13) ∧
 ∃ (t15 : Int),
 H1.cell H.next 2 = some (.int .i64 t15) ∧
 ∃ (t17 : Int),
 H1.cell H.next 3 = some (.int .i64 t17) ∧
 ∃ (t19 : Int),
 H1.cell H.next 22 = some (.int .i64 t19) ∧
 ∃ (t21 : Int),
 H1.cell H.next 23 = some (.int .i64 t21) ∧
 ∃ (t23 : Int),
 H1.cell H.next 24 = some (.int .i64 t23) ∧
 ∀ (H2 : AH),
 H2 = H1.new (.cells [.int .i64 t11, .int .i64 t13, .int .i64 t15, .int .i64 t17, .int .i64 t19, .int .i64 t21, .int .i64 t23] 0) →
 ∃ (Inv : Nat → Int → AH → Prop),
 (
 ∃ (n_1 : Nat),
 Inv n_1 0 H2) ∧
 ∀ (n : Nat),
 ∀ (t26 : Int) (H3 : AH),
 Inv n t26 H3 →
 cond (decide (t26 < (((7 : Nat) : Int)))) (
 (0 : Int) ≤ t26 ∧
 (t26 : Int) < ((7 : Nat) : Int) ∧
 ∃ (t29 : Int),
 H3.cell H1.next (0 + (t26 : Int).toNat * 1) = some (.int .i64 t29) ∧
 FW Ee F_wire_Writer_Count [.pointer (some ⟨w0b, 0, none⟩), .int .i64 t29] H3 fun v H4 =>
 v = .tuple ⟨[]⟩ ∧
 ∀ (t33 : Int),
 t33 = IntKind.i64.wrap (t26 + 1) →
 ∃ (m : Nat),
 m < n ∧
 Inv m t33 H4) (
 ∃ (t35a : Option Addr) (t35l t35c : Nat),
 H3.cell H.next 4 = some (.slice t35a t35l t35c) ∧
 ∃ (t37a : Option Addr) (t37l t37c : Nat),
 H3.cell H.next 5 = some (.slice t37a t37l t37c) ∧
 ∀ (H5 : AH),
 H5 = H3.new (.cells [.slice t35a t35l t35c, .slice t37a t37l t37c] 0) →
 ∃ (Inv_1 : Nat → Int → AH → Prop),
 (
 ∃ (n_3 : Nat),
 Inv_1 n_3 0 H5) ∧
 ∀ (n_2 : Nat),
 ∀ (t40 : Int) (H6 : AH),
 Inv_1 n_2 t40 H6 →
 cond (decide (t40 < (((2 : Nat) : Int)))) (
 (0 : Int) ≤ t40 ∧
 (t40 : Int) < ((2 : Nat) : Int) ∧
 ∃ (t43a : Option Addr) (t43l t43c : Nat),
 H6.cell H3.next (0 + (t40 : Int).toNat * 1) = some (.slice t43a t43l t43c) ∧
 FW Ee F_wire_Writer_Count [.pointer (some ⟨w0b, 0, none⟩), .int .i64 (((t43l : Nat) : Int))] H6 fun v_1 H7 =>
 v_1 = .tuple ⟨[]⟩ ∧
 ∃ (Inv_2 : Nat → Int → AH → Prop),
 (
 ∃ (n_5 : Nat),
 Inv_2 n_5 0 H7) ∧
 ∀ (n_4 : Nat),
 ∀ (t50 : Int) (H8 : AH),
 Inv_2 n_4 t50 H8 →
 cond (decide (t50 < (((t43l : Nat) : Int)))) (
 grd t43a.isSome (
 (0 : Int) ≤ t50 ∧
 (t50 : Int) < ((t43l : Nat) : Int) ∧
 ∃ (t53 : Int),
 H8.cell ((adr t43a).block) ((adr t43a).off + (t50 : Int).toNat * 1) = some (.int .i64 t53) ∧
 FW Ee F_wire_Writer_Count [.pointer (some ⟨w0b, 0, none⟩), .int .i64 t53] H8 fun v_2 H9 =>
 v_2 = .tuple ⟨[]⟩ ∧
 ∀ (t57 : Int),
 t57 = IntKind.i64.wrap (t50 + 1) →
 ∃ (m_2 : Nat),
 m_2 < n_4 ∧
 Inv_2 m_2 t57 H9)) (
 ∀ (t58 : Int),
 t58 = IntKind.i64.wrap (t40 + 1) →
 ∃ (m_1 : Nat),
 m_1 < n_2 ∧
 Inv_1 m_1 t58 H8)) (
 ∃ (t61 : Bool),
 H6.cell H.next 25 = some (.bool t61) ∧
 FW Ee F_wire_Writer_Bool [.pointer (some ⟨w0b, 0, none⟩), .bool t61] H6 fun v_3 H10 =>
 v_3 = .tuple ⟨[]⟩ ∧
 ∃ (z34 z35 z36 z37 z38 : Bool) (z39 z40 z41 z42 z43 : Int),
 H10.cell H.next (12 + 0) = some (.bool z34) ∧
 H10.cell H.next (12 + 1) = some (.bool z35) ∧
 H10.cell H.next (12 + 2) = some (.bool z36) ∧
 H10.cell H.next (12 + 3) = some (.bool z37) ∧
 H10.cell H.next (12 + 4) = some (.bool z38) ∧
 H10.cell H.next (12 + 5) = some (.int .i64 z39) ∧
 H10.cell H.next (12 + 6) = some (.int .i64 z40) ∧
 H10.cell H.next (12 + 7) = some (.int .i64 z41) ∧
 H10.cell H.next (12 + 8) = some (.int .i64 z42) ∧
 H10.cell H.next (12 + 9) = some (.int .i64 z43) ∧
 FW Ee F_agg_Put [.pointer (some ⟨w0b, 0, none⟩), .agg ⟨[.bool z34, .bool z35, .bool z36, .bool z37, .bool z38, .int .i64 z39, .int .i64 z40, .int .i64 z41, .int .i64 z42, .int .i64 z43]⟩] H10 fun v_4 H11 =>
 v_4 = .tuple ⟨[]⟩ ∧
 ∃ (z44 : List UInt8) (z45 : Option Addr) (z46 z47 : Nat) (z48 : Option Addr) (z49 z50 : Nat) (z51 z52 z53 : Int),
 H11.cell H.next (6 + 0) = some (.string ⟨⟨z44⟩⟩) ∧
 H11.cell H.next (6 + 1) = some (.slice z45 z46 z47) ∧
 H11.cell H.next (6 + 2) = some (.slice z48 z49 z50) ∧
 H11.cell H.next (6 + 3) = some (.int .i64 z51) ∧
 H11.cell H.next (6 + 4) = some (.int .i64 z52) ∧
 H11.cell H.next (6 + 5) = some (.int .i64 z53) ∧
 FW Ee F_run_PutJob [.pointer (some ⟨w0b, 0, none⟩), .agg ⟨[.string ⟨⟨z44⟩⟩, .slice z45 z46 z47, .slice z48 z49 z50, .int .i64 z51, .int .i64 z52, .int .i64 z53]⟩] H11 fun v_5 H12 =>
 v_5 = .tuple ⟨[]⟩ ∧
 Q (.tuple ⟨[]⟩) H12))
set_option maxRecDepth 100000 in
theorem fw_master_PutTask {w0b : Nat} {z0 z1 z2 z3 : Int} {z4 : Option Addr} {z5 z6 : Nat} {z7 : Option Addr} {z8 z9 : Nat} {z10 : List UInt8} {z11 : Option Addr} {z12 z13 : Nat} {z14 : Option Addr} {z15 z16 : Nat} {z17 z18 z19 : Int} {z20 z21 z22 z23 z24 : Bool} {z25 z26 z27 z28 z29 z30 z31 z32 : Int} {z33 : Bool} {H : AH} {Q : Value → AH → Prop} (h : VC_master_PutTask w0b z0 z1 z2 z3 z4 z5 z6 z7 z8 z9 z10 z11 z12 z13 z14 z15 z16 z17 z18 z19 z20 z21 z22 z23 z24 z25 z26 z27 z28 z29 z30 z31 z32 z33 H Q) : FW Ee F_master_PutTask [.pointer (some ⟨w0b, 0, none⟩), .agg ⟨[.int .i64 z0, .int .i64 z1, .int .i64 z2, .int .i64 z3, .slice z4 z5 z6, .slice z7 z8 z9, .string ⟨⟨z10⟩⟩, .slice z11 z12 z13, .slice z14 z15 z16, .int .i64 z17, .int .i64 z18, .int .i64 z19, .bool z20, .bool z21, .bool z22, .bool z23, .bool z24, .int .i64 z25, .int .i64 z26, .int .i64 z27, .int .i64 z28, .int .i64 z29, .int .i64 z30, .int .i64 z31, .int .i64 z32, .bool z33]⟩] H Q :=
  letI : Sy := sy0
  wpF_sound (A := ⟨[], []⟩) (Eq.mp (by kernel_rfl) h)
def VC_master_TakeTask (r0b : Nat) (H : AH) (Q : Value → AH → Prop) : Prop :=
 ∀ (H1 : AH),
 H1 = H.new (.cells [.int .i64 0, .int .i64 0, .int .i64 0, .int .i64 0, .slice none 0 0, .slice none 0 0, .string ⟨⟨[]⟩⟩, .slice none 0 0, .slice none 0 0, .int .i64 0, .int .i64 0, .int .i64 0, .bool false, .bool false, .bool false, .bool false, .bool false, .int .i64 0, .int .i64 0, .int .i64 0, .int .i64 0, .int .i64 0, .int .i64 0, .int .i64 0, .int .i64 0, .bool false] 0) →
 ∀ (H2 : AH),
 H2 = H1.new (.cells [.int .i64 0, .int .i64 0, .int .i64 0, .int .i64 0, .slice none 0 0, .slice none 0 0, .string ⟨⟨[]⟩⟩, .slice none 0 0, .slice none 0 0, .int .i64 0, .int .i64 0, .int .i64 0, .bool false, .bool false, .bool false, .bool false, .bool false, .int .i64 0, .int .i64 0, .int .i64 0, .int .i64 0, .int .i64 0, .int .i64 0, .int .i64 0, .int .i64 0, .bool false] 0) →
 ∀ (H3 : AH),
 H3 = H2.new (.cells [.pointer (some ⟨H1.next, 0, none⟩), .pointer (some ⟨H1.next, 1, none⟩), .pointer (some ⟨H1.next, 2, none⟩), .pointer (some ⟨H1.next, 3, none⟩), .pointer (some ⟨H1.next, 22, none⟩), .pointer (some ⟨H1.next, 23, none⟩), .pointer (some ⟨H1.next, 24, none⟩)] 0) →
 ∃ (Inv : Nat → Int → AH → Prop),
 (
 ∃ (n_1 : Nat),
 Inv n_1 0 H3) ∧
 ∀ (n : Nat),
 ∀ (t18 : Int) (H4 : AH),
 Inv n t18 H4 →
 cond (decide (t18 < (((7 : Nat) : Int)))) (
 (0 : Int) ≤ t18 ∧
 (t18 : Int) < ((7 : Nat) : Int) ∧
 ∃ (t21 : Option Addr),
 H4.cell H2.next (0 + (t18 : Int).toNat * 1) = some (.pointer t21) ∧
 FW Ee F_wire_Reader_Count [.pointer (some ⟨r0b, 0, none⟩), .int .i64 2147483647] H4 fun v H5 =>
 ∃ (r24 : Int),
 v = .int .i64 r24 ∧
 grd t21.isSome (
 grd t21.isSome (
 ∃ (H6 : AH),
 storeCellsv H5 ((adr t21).block) ((adr t21).off) [.int .i64 r24] = some H6 ∧
 ∀ (t26 : Int),
 t26 = IntKind.i64.wrap (t18 + 1) →
 ∃ (m : Nat),
 m < n ∧
 Inv m t26 H6))) (
 ∀ (H7 : AH),
 H7 = H4.new (.cells [.pointer (some ⟨H1.next, 4, none⟩), .pointer (some ⟨H1.next, 5, none⟩)] 0) →
 ∃ (Inv_1 : Nat → Int → AH → Prop),
 (
 ∃ (n_3 : Nat),
 Inv_1 n_3 0 H7) ∧
 ∀ (n_2 : Nat),
 ∀ (t31 : Int) (H8 : AH),
 Inv_1 n_2 t31 H8 →
 cond (decide (t31 < (((2 : Nat) : Int)))) (
 (0 : Int) ≤ t31 ∧
 (t31 : Int) < ((2 : Nat) : Int) ∧
 ∃ (t34 : Option Addr),
 H8.cell H4.next (0 + (t31 : Int).toNat * 1) = some (.pointer t34) ∧
 FW Ee F_wire_Reader_Count [.pointer (some ⟨r0b, 0, none⟩), .int .i64 16] H8 fun v_1 H9 =>
 ∃ (r36 : Int),
 v_1 = .int .i64 r36 ∧
 ∃ (Inv_2 : Nat → Int → AH → Prop),
 (
 ∃ (n_5 : Nat),
 Inv_2 n_5 r36 H9) ∧
 ∀ (n_4 : Nat),
 ∀ (n8 : Int) (H10 : AH),
 Inv_2 n_4 n8 H10 →
 cond (decide (n8 > 0)) (
 FW Ee F_wire_Reader_Err [.pointer (some ⟨r0b, 0, none⟩)] H10 fun v_2 H11 =>
 ∃ (r41 : Int),
 v_2 = .int .i64 r41 ∧
 cond (r41 == 0) (
 grd t34.isSome (
 grd t34.isSome (
 ∃ (t49a : Option Addr) (t49l t49c : Nat),
 H11.cell ((adr t34).block) ((adr t34).off) = some (.slice t49a t49l t49c) ∧
 FW Ee F_wire_Reader_Count [.pointer (some ⟨r0b, 0, none⟩), .int .i64 2147483647] H11 fun v_3 H12 =>
 ∃ (r51 : Int),
 v_3 = .int .i64 r51 ∧
 ∀ (H13 : AH),
 H13 = H12.new (.cells [.int .i64 r51] 0) →
 ∃ (t53a : Option Addr) (t53l t53c : Nat) (H14 : AH),
 apnd H13 1 8 t49a t49l t49c (.slice (some ⟨H12.next, 0, none⟩) 1 2) = some (.slice t53a t53l t53c, H14) ∧
 grd t34.isSome (
 grd t34.isSome (
 ∃ (H15 : AH),
 storeCellsv H14 ((adr t34).block) ((adr t34).off) [.slice t53a t53l t53c] = some H15 ∧
 grd t34.isSome (
 H13.cell ((adr t34).block) ((adr t34).off) = some (.slice t49a t49l t49c) ∧
 ∀ (t45 : Int),
 t45 = IntKind.i64.wrap (n8 - 1) →
 ∃ (m_2 : Nat),
 m_2 < n_4 ∧
 Inv_2 m_2 t45 H15)))))) (
 ∀ (t55 : Int),
 t55 = IntKind.i64.wrap (t31 + 1) →
 ∃ (m_1 : Nat),
 m_1 < n_2 ∧
 Inv_1 m_1 t55 H11)) (
 ∀ (z0 : Int),
 z0 = IntKind.i64.wrap (t31 + 1) →
 ∃ (m_1 : Nat),
 m_1 < n_2 ∧
 Inv_1 m_1 z0 H10)) (
 FW Ee F_wire_Reader_Bool [.pointer (some ⟨r0b, 0, none⟩)] H8 fun v_4 H16 =>
 ∃ (r57 : Bool),
 v_4 = .bool r57 ∧
 FW Ee F_agg_Take [.pointer (some ⟨r0b, 0, none⟩)] H16 fun v_5 H17 =>
 ∃ (z1 z2 z3 z4 z5 : Bool) (z6 z7 z8 z9 z10 : Int),
 v_5 = .agg ⟨[.bool z1, .bool z2, .bool z3, .bool z4, .bool z5, .int .i64 z6, .int .i64 z7, .int .i64 z8, .int .i64 z9, .int .i64 z10]⟩ ∧
 ∃ (H18 : AH),
 storeCellsv H17 H1.next 25 [.bool r57] = some H18 ∧
 ∃ (H19 : AH),
 storeCellsv H18 H1.next 12 [.bool z1, .bool z2, .bool z3, .bool z4, .bool z5, .int .i64 z6, .int .i64 z7, .int .i64 z8, .int .i64 z9, .int .i64 z10] = some H19 ∧
 FW Ee F_run_TakeJob [.pointer (some ⟨r0b, 0, none⟩)] H19 fun v_6 H20 =>
 ∃ (z11 : List UInt8) (z12 : Option Addr) (z13 z14 : Nat) (z15 : Option Addr) (z16 z17 : Nat) (z18 z19 z20 : Int),
 v_6 = .agg ⟨[.string ⟨⟨z11⟩⟩, .slice z12 z13 z14, .slice z15 z16 z17, .int .i64 z18, .int .i64 z19, .int .i64 z20]⟩ ∧
 ∃ (H21 : AH),
 storeCellsv H20 H1.next 6 [.string ⟨⟨z11⟩⟩, .slice z12 z13 z14, .slice z15 z16 z17, .int .i64 z18, .int .i64 z19, .int .i64 z20] = some H21 ∧
 ∃ (z21 z22 z23 z24 : Int) (z25 : Option Addr) (z26 z27 : Nat) (z28 : Option Addr) (z29 z30 : Nat) (z31 : List UInt8) (z32 : Option Addr) (z33 z34 : Nat) (z35 : Option Addr) (z36 z37 : Nat) (z38 z39 z40 : Int) (z41 z42 z43 z44 z45 : Bool) (z46 z47 z48 z49 z50 z51 z52 z53 : Int) (z54 : Bool),
 H21.cell H1.next (0 + 0) = some (.int .i64 z21) ∧
 H21.cell H1.next (0 + 1) = some (.int .i64 z22) ∧
 H21.cell H1.next (0 + 2) = some (.int .i64 z23) ∧
 H21.cell H1.next (0 + 3) = some (.int .i64 z24) ∧
 H21.cell H1.next (0 + 4) = some (.slice z25 z26 z27) ∧
 H21.cell H1.next (0 + 5) = some (.slice z28 z29 z30) ∧
 H21.cell H1.next (0 + 6) = some (.string ⟨⟨z31⟩⟩) ∧
 H21.cell H1.next (0 + 7) = some (.slice z32 z33 z34) ∧
 H21.cell H1.next (0 + 8) = some (.slice z35 z36 z37) ∧
 H21.cell H1.next (0 + 9) = some (.int .i64 z38) ∧
 H21.cell H1.next (0 + 10) = some (.int .i64 z39) ∧
 H21.cell H1.next (0 + 11) = some (.int .i64 z40) ∧
 H21.cell H1.next (0 + 12) = some (.bool z41) ∧
 H21.cell H1.next (0 + 13) = some (.bool z42) ∧
 H21.cell H1.next (0 + 14) = some (.bool z43) ∧
 H21.cell H1.next (0 + 15) = some (.bool z44) ∧
 H21.cell H1.next (0 + 16) = some (.bool z45) ∧
 H21.cell H1.next (0 + 17) = some (.int .i64 z46) ∧
 H21.cell H1.next (0 + 18) = some (.int .i64 z47) ∧
 H21.cell H1.next (0 + 19) = some (.int .i64 z48) ∧
 H21.cell H1.next (0 + 20) = some (.int .i64 z49) ∧
 H21.cell H1.next (0 + 21) = some (.int .i64 z50) ∧
 H21.cell H1.next (0 + 22) = some (.int .i64 z51) ∧
 H21.cell H1.next (0 + 23) = some (.int .i64 z52) ∧
 H21.cell H1.next (0 + 24) = some (.int .i64 z53) ∧
 H21.cell H1.next (0 + 25) = some (.bool z54) ∧
 ∃ (H22 : AH),
 storeCellsv H21 H.next 0 [.int .i64 z21, .int .i64 z22, .int .i64 z23, .int .i64 z24, .slice z25 z26 z27, .slice z28 z29 z30, .string ⟨⟨z31⟩⟩, .slice z32 z33 z34, .slice z35 z36 z37, .int .i64 z38, .int .i64 z39, .int .i64 z40, .bool z41, .bool z42, .bool z43, .bool z44, .bool z45, .int .i64 z46, .int .i64 z47, .int .i64 z48, .int .i64 z49, .int .i64 z50, .int .i64 z51, .int .i64 z52, .int .i64 z53, .bool z54] = some H22 ∧
 ∃ (z55 z56 z57 z58 : Int) (z59 : Option Addr) (z60 z61 : Nat) (z62 : Option Addr) (z63 z64 : Nat) (z65 : List UInt8) (z66 : Option Addr) (z67 z68 : Nat) (z69 : Option Addr) (z70 z71 : Nat) (z72 z73 z74 : Int) (z75 z76 z77 z78 z79 : Bool) (z80 z81 z82 z83 z84 z85 z86 z87 : Int) (z88 : Bool),
 H22.cell H.next (0 + 0) = some (.int .i64 z55) ∧
 H22.cell H.next (0 + 1) = some (.int .i64 z56) ∧
 H22.cell H.next (0 + 2) = some (.int .i64 z57) ∧
 H22.cell H.next (0 + 3) = some (.int .i64 z58) ∧
 H22.cell H.next (0 + 4) = some (.slice z59 z60 z61) ∧
 H22.cell H.next (0 + 5) = some (.slice z62 z63 z64) ∧
 H22.cell H.next (0 + 6) = some (.string ⟨⟨z65⟩⟩) ∧
 H22.cell H.next (0 + 7) = some (.slice z66 z67 z68) ∧
 H22.cell H.next (0 + 8) = some (.slice z69 z70 z71) ∧
 H22.cell H.next (0 + 9) = some (.int .i64 z72) ∧
 H22.cell H.next (0 + 10) = some (.int .i64 z73) ∧
 H22.cell H.next (0 + 11) = some (.int .i64 z74) ∧
 H22.cell H.next (0 + 12) = some (.bool z75) ∧
 H22.cell H.next (0 + 13) = some (.bool z76) ∧
 H22.cell H.next (0 + 14) = some (.bool z77) ∧
 H22.cell H.next (0 + 15) = some (.bool z78) ∧
 H22.cell H.next (0 + 16) = some (.bool z79) ∧
 H22.cell H.next (0 + 17) = some (.int .i64 z80) ∧
 H22.cell H.next (0 + 18) = some (.int .i64 z81) ∧
 H22.cell H.next (0 + 19) = some (.int .i64 z82) ∧
 H22.cell H.next (0 + 20) = some (.int .i64 z83) ∧
 H22.cell H.next (0 + 21) = some (.int .i64 z84) ∧
 H22.cell H.next (0 + 22) = some (.int .i64 z85) ∧
 H22.cell H.next (0 + 23) = some (.int .i64 z86) ∧
 H22.cell H.next (0 + 24) = some (.int .i64 z87) ∧
 H22.cell H.next (0 + 25) = some (.bool z88) ∧
 Q (.agg ⟨[.int .i64 z55, .int .i64 z56, .int .i64 z57, .int .i64 z58, .slice z59 z60 z61, .slice z62 z63 z64, .string ⟨⟨z65⟩⟩, .slice z66 z67 z68, .slice z69 z70 z71, .int .i64 z72, .int .i64 z73, .int .i64 z74, .bool z75, .bool z76, .bool z77, .bool z78, .bool z79, .int .i64 z80, .int .i64 z81, .int .i64 z82, .int .i64 z83, .int .i64 z84, .int .i64 z85, .int .i64 z86, .int .i64 z87, .bool z88]⟩) H22))
set_option maxRecDepth 100000 in
theorem fw_master_TakeTask {r0b : Nat} {H : AH} {Q : Value → AH → Prop} (h : VC_master_TakeTask r0b H Q) : FW Ee F_master_TakeTask [.pointer (some ⟨r0b, 0, none⟩)] H Q :=
  letI : Sy := sy0
  wpF_sound (A := ⟨[], []⟩) (Eq.mp (by kernel_rfl) h)
end Go.Proofs.Cx
namespace Go.Proofs.Cx
open Go Go.Ev
set_option linter.unusedVariables false
set_option maxRecDepth 100000
set_option maxHeartbeats 8000000
end Go.Proofs.Cx
namespace Go.Proofs.Cx
open Go Go.Ev
set_option linter.unusedVariables false
set_option maxRecDepth 100000
set_option maxHeartbeats 8000000
end Go.Proofs.Cx
namespace Go.Proofs.Cx
open Go Go.Ev
set_option linter.unusedVariables false
set_option maxRecDepth 100000
set_option maxHeartbeats 8000000
end Go.Proofs.Cx
namespace Go.Proofs.Cx
open Go Go.Ev
set_option linter.unusedVariables false
set_option maxRecDepth 100000
set_option maxHeartbeats 8000000
end Go.Proofs.Cx
namespace Go.Proofs.Cx
open Go Go.Ev
set_option linter.unusedVariables false
set_option maxRecDepth 100000
set_option maxHeartbeats 8000000
end Go.Proofs.Cx
