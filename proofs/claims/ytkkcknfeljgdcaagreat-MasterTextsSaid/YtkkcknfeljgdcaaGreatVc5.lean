/- What calls come to, as formulas: printed by a program. -/
import Derived.Test.YtkkcknfeljgdcaaGreatVc0
namespace Go.Proofs.Cx
open Go Go.Ev
set_option linter.unusedVariables false
set_option maxRecDepth 100000
set_option maxHeartbeats 8000000
/-- (*cohort/wire.Writer).Bool -/
def VC_wire_Writer_Bool (w0b : Nat) (b1 : Bool) (H : AH) (Q : Value → AH → Prop) : Prop :=
 cond (b1) (
 FW Ee F_wire_Writer_Number [.pointer (some ⟨w0b, 0, none⟩), .int .u64 1] H fun v H1 =>
 v = .tuple ⟨[]⟩ ∧
 Q (.tuple ⟨[]⟩) H1) (
 FW Ee F_wire_Writer_Number [.pointer (some ⟨w0b, 0, none⟩), .int .u64 0] H fun v_1 H2 =>
 v_1 = .tuple ⟨[]⟩ ∧
 Q (.tuple ⟨[]⟩) H2)
set_option maxRecDepth 100000 in
theorem fw_wire_Writer_Bool {w0b : Nat} {b1 : Bool} {H : AH} {Q : Value → AH → Prop} (h : VC_wire_Writer_Bool w0b b1 H Q) : FW Ee F_wire_Writer_Bool [.pointer (some ⟨w0b, 0, none⟩), .bool b1] H Q := by
  have e : VC_wire_Writer_Bool w0b b1 H Q = wpF Ee ⟨[], []⟩ F_wire_Writer_Bool [.pointer (some ⟨w0b, 0, none⟩), .bool b1] H Q := by kernel_rfl
  letI : Sy := sy0
  exact wpF_sound (Eq.mp e h)
/-- (*cohort/wire.Reader).Bool -/
def VC_wire_Reader_Bool (r0b : Nat) (H : AH) (Q : Value → AH → Prop) : Prop :=
 FW Ee F_wire_Reader_At [.pointer (some ⟨r0b, 0, none⟩)] H fun v H1 =>
 ∃ (r6 : Int),
 v = .int .i64 r6 ∧
 FW Ee F_wire_Reader_Number [.pointer (some ⟨r0b, 0, none⟩)] H1 fun v_1 H2 =>
 ∃ (r8 : Int),
 v_1 = .int .u64 r8 ∧
 FW Ee F_wire_Reader_Err [.pointer (some ⟨r0b, 0, none⟩)] H2 fun v_2 H3 =>
 ∃ (r10 : Int),
 v_2 = .int .i64 r10 ∧
 cond (r10 == 0) (
 cond (decide (r8 > 1)) (
 ∃ (H4 : AH),
 storeCellsv H3 r0b 1 [.int .i64 r6] = some H4 ∧
 ∃ (H5 : AH),
 storeCellsv H4 r0b 2 [.int .i64 6] = some H5 ∧
 FW Ee F_wire_Reader_Err [.pointer (some ⟨r0b, 0, none⟩)] H5 fun v_3 H6 =>
 ∃ (r24 : Int),
 v_3 = .int .i64 r24 ∧
 cond (r24 == 0) (
 Q (.bool (r8 == 1)) H6) (
 Q (.bool false) H6)) (
 FW Ee F_wire_Reader_Err [.pointer (some ⟨r0b, 0, none⟩)] H3 fun v_4 H7 =>
 ∃ (r24_1 : Int),
 v_4 = .int .i64 r24_1 ∧
 cond (r24_1 == 0) (
 Q (.bool (r8 == 1)) H7) (
 Q (.bool false) H7))) (
 FW Ee F_wire_Reader_Err [.pointer (some ⟨r0b, 0, none⟩)] H3 fun v_5 H8 =>
 ∃ (r24_2 : Int),
 v_5 = .int .i64 r24_2 ∧
 cond (r24_2 == 0) (
 Q (.bool (r8 == 1)) H8) (
 Q (.bool false) H8))
set_option maxRecDepth 100000 in
theorem fw_wire_Reader_Bool {r0b : Nat} {H : AH} {Q : Value → AH → Prop} (h : VC_wire_Reader_Bool r0b H Q) : FW Ee F_wire_Reader_Bool [.pointer (some ⟨r0b, 0, none⟩)] H Q := by
  have e : VC_wire_Reader_Bool r0b H Q = wpF Ee ⟨[], []⟩ F_wire_Reader_Bool [.pointer (some ⟨r0b, 0, none⟩)] H Q := by kernel_rfl
  letI : Sy := sy0
  exact wpF_sound (Eq.mp e h)
/-- cohort/agg.Put -/
def VC_agg_Put (w0b : Nat) (x1_Has_0 : Bool) (x1_Has_1 : Bool) (x1_Has_2 : Bool) (x1_Has_3 : Bool) (x1_Has_4 : Bool) (x1_V_0 : Int) (x1_V_1 : Int) (x1_V_2 : Int) (x1_V_3 : Int) (x1_V_4 : Int) (H : AH) (Q : Value → AH → Prop) : Prop :=
 ∀ (H1 : AH),
 H1 = H.new (.cells [.bool x1_Has_0, .bool x1_Has_1, .bool x1_Has_2, .bool x1_Has_3, .bool x1_Has_4, .int .i64 x1_V_0, .int .i64 x1_V_1, .int .i64 x1_V_2, .int .i64 x1_V_3, .int .i64 x1_V_4] 0) →
 ∃ (t7_0 : Bool) (t7_1 : Bool) (t7_2 : Bool) (t7_3 : Bool) (t7_4 : Bool),
 H1.cell H.next (0 + 0) = some (.bool t7_0) ∧
 H1.cell H.next (0 + 1) = some (.bool t7_1) ∧
 H1.cell H.next (0 + 2) = some (.bool t7_2) ∧
 H1.cell H.next (0 + 3) = some (.bool t7_3) ∧
 H1.cell H.next (0 + 4) = some (.bool t7_4) ∧
 ∃ (Inv : Nat → Int → AH → Prop),
 (
 ∃ (n_1 : Nat),
 Inv n_1 0 H1) ∧
 ∀ (n : Nat),
 ∀ (t8 : Int) (H2 : AH),
 Inv n t8 H2 →
 cond (decide (t8 < 5)) (
 ∃ (t11_1 : Bool),
 indexv Ee T_5_bool (.agg ⟨[.bool t7_0, .bool t7_1, .bool t7_2, .bool t7_3, .bool t7_4]⟩) (.int .i64 t8) = some (.bool t11_1) ∧
 FW Ee F_wire_Writer_Bool [.pointer (some ⟨w0b, 0, none⟩), .bool t11_1] H2 fun v H3 =>
 v = .tuple ⟨[]⟩ ∧
 cond (t11_1) (
 (0 : Int) ≤ t8 ∧
 (t8 : Int) < ((5 : Nat) : Int) ∧
 ∃ (t20 : Int),
 H3.cell H.next (5 + (t8 : Int).toNat * 1) = some (.int .i64 t20) ∧
 FW Ee F_wire_Writer_Signed [.pointer (some ⟨w0b, 0, none⟩), .int .i64 t20] H3 fun v_1 H4 =>
 v_1 = .tuple ⟨[]⟩ ∧
 ∀ (t22 : Int),
 t22 = IntKind.i64.wrap (t8 + 1) →
 ∃ (m : Nat),
 m < n ∧
 Inv m t22 H4) (
 ∀ (t22_1 : Int),
 t22_1 = IntKind.i64.wrap (t8 + 1) →
 ∃ (m : Nat),
 m < n ∧
 Inv m t22_1 H3)) (
 Q (.tuple ⟨[]⟩) H2)
set_option maxRecDepth 100000 in
theorem fw_agg_Put {w0b : Nat} {x1_Has_0 : Bool} {x1_Has_1 : Bool} {x1_Has_2 : Bool} {x1_Has_3 : Bool} {x1_Has_4 : Bool} {x1_V_0 : Int} {x1_V_1 : Int} {x1_V_2 : Int} {x1_V_3 : Int} {x1_V_4 : Int} {H : AH} {Q : Value → AH → Prop} (h : VC_agg_Put w0b x1_Has_0 x1_Has_1 x1_Has_2 x1_Has_3 x1_Has_4 x1_V_0 x1_V_1 x1_V_2 x1_V_3 x1_V_4 H Q) : FW Ee F_agg_Put [.pointer (some ⟨w0b, 0, none⟩), .agg ⟨[.bool x1_Has_0, .bool x1_Has_1, .bool x1_Has_2, .bool x1_Has_3, .bool x1_Has_4, .int .i64 x1_V_0, .int .i64 x1_V_1, .int .i64 x1_V_2, .int .i64 x1_V_3, .int .i64 x1_V_4]⟩] H Q := by
  have e : VC_agg_Put w0b x1_Has_0 x1_Has_1 x1_Has_2 x1_Has_3 x1_Has_4 x1_V_0 x1_V_1 x1_V_2 x1_V_3 x1_V_4 H Q = wpF Ee ⟨[], []⟩ F_agg_Put [.pointer (some ⟨w0b, 0, none⟩), .agg ⟨[.bool x1_Has_0, .bool x1_Has_1, .bool x1_Has_2, .bool x1_Has_3, .bool x1_Has_4, .int .i64 x1_V_0, .int .i64 x1_V_1, .int .i64 x1_V_2, .int .i64 x1_V_3, .int .i64 x1_V_4]⟩] H Q := by kernel_rfl
  letI : Sy := sy0
  exact wpF_sound (Eq.mp e h)
/-- cohort/agg.Take -/
def VC_agg_Take (r0b : Nat) (H : AH) (Q : Value → AH → Prop) : Prop :=
 ∀ (H1 : AH),
 H1 = H.new (.cells [.bool false, .bool false, .bool false, .bool false, .bool false, .int .i64 0, .int .i64 0, .int .i64 0, .int .i64 0, .int .i64 0] 0) →
 ∀ (H2 : AH),
 H2 = H1.new (.cells [.bool false, .bool false, .bool false, .bool false, .bool false, .int .i64 0, .int .i64 0, .int .i64 0, .int .i64 0, .int .i64 0] 0) →
 ∃ (Inv : Nat → Int → AH → Prop),
 (
 ∃ (n_1 : Nat),
 Inv n_1 0 H2) ∧
 ∀ (n : Nat),
 ∀ (t5 : Int) (H3 : AH),
 Inv n t5 H3 →
 cond (decide (t5 < 5)) (
 FW Ee F_wire_Reader_Bool [.pointer (some ⟨r0b, 0, none⟩)] H3 fun v H4 =>
 ∃ (r10 : Bool),
 v = .bool r10 ∧
 (0 : Int) ≤ t5 ∧
 (t5 : Int) < ((5 : Nat) : Int) ∧
 ∃ (H5 : AH),
 storeCellsv H4 H1.next (0 + (t5 : Int).toNat * 1) [.bool r10] = some H5 ∧
 (0 : Int) ≤ t5 ∧
 (t5 : Int) < ((5 : Nat) : Int) ∧
 ∃ (t16 : Bool),
 H5.cell H1.next (0 + (t5 : Int).toNat * 1) = some (.bool t16) ∧
 cond (t16) (
 FW Ee F_wire_Reader_Signed [.pointer (some ⟨r0b, 0, none⟩)] H5 fun v_1 H6 =>
 ∃ (r19 : Int),
 v_1 = .int .i64 r19 ∧
 (0 : Int) ≤ t5 ∧
 (t5 : Int) < ((5 : Nat) : Int) ∧
 ∃ (H7 : AH),
 storeCellsv H6 H1.next (5 + (t5 : Int).toNat * 1) [.int .i64 r19] = some H7 ∧
 ∀ (t22 : Int),
 t22 = IntKind.i64.wrap (t5 + 1) →
 ∃ (m : Nat),
 m < n ∧
 Inv m t22 H7) (
 ∀ (t22_1 : Int),
 t22_1 = IntKind.i64.wrap (t5 + 1) →
 ∃ (m : Nat),
 m < n ∧
 Inv m t22_1 H5)) (
 FW Ee F_wire_Reader_Err [.pointer (some ⟨r0b, 0, none⟩)] H3 fun v_2 H8 =>
 ∃ (r24 : Int),
 v_2 = .int .i64 r24 ∧
 cond (r24 != 0) (
 ∃ (H9 : AH),
 storeCellsv H8 H.next 0 [.bool false, .bool false, .bool false, .bool false, .bool false, .int .i64 0, .int .i64 0, .int .i64 0, .int .i64 0, .int .i64 0] = some H9 ∧
 ∃ (r2_Has_0 : Bool) (r2_Has_1 : Bool) (r2_Has_2 : Bool) (r2_Has_3 : Bool) (r2_Has_4 : Bool) (r2_V_0 : Int) (r2_V_1 : Int) (r2_V_2 : Int) (r2_V_3 : Int) (r2_V_4 : Int),
 H9.cell H.next (0 + 0) = some (.bool r2_Has_0) ∧
 H9.cell H.next (0 + 1) = some (.bool r2_Has_1) ∧
 H9.cell H.next (0 + 2) = some (.bool r2_Has_2) ∧
 H9.cell H.next (0 + 3) = some (.bool r2_Has_3) ∧
 H9.cell H.next (0 + 4) = some (.bool r2_Has_4) ∧
 H9.cell H.next (0 + 5) = some (.int .i64 r2_V_0) ∧
 H9.cell H.next (0 + 6) = some (.int .i64 r2_V_1) ∧
 H9.cell H.next (0 + 7) = some (.int .i64 r2_V_2) ∧
 H9.cell H.next (0 + 8) = some (.int .i64 r2_V_3) ∧
 H9.cell H.next (0 + 9) = some (.int .i64 r2_V_4) ∧
 Q (.agg ⟨[.bool r2_Has_0, .bool r2_Has_1, .bool r2_Has_2, .bool r2_Has_3, .bool r2_Has_4, .int .i64 r2_V_0, .int .i64 r2_V_1, .int .i64 r2_V_2, .int .i64 r2_V_3, .int .i64 r2_V_4]⟩) H9) (
 ∃ (t27_Has_0 : Bool) (t27_Has_1 : Bool) (t27_Has_2 : Bool) (t27_Has_3 : Bool) (t27_Has_4 : Bool) (t27_V_0 : Int) (t27_V_1 : Int) (t27_V_2 : Int) (t27_V_3 : Int) (t27_V_4 : Int),
 H8.cell H1.next (0 + 0) = some (.bool t27_Has_0) ∧
 H8.cell H1.next (0 + 1) = some (.bool t27_Has_1) ∧
 H8.cell H1.next (0 + 2) = some (.bool t27_Has_2) ∧
 H8.cell H1.next (0 + 3) = some (.bool t27_Has_3) ∧
 H8.cell H1.next (0 + 4) = some (.bool t27_Has_4) ∧
 H8.cell H1.next (0 + 5) = some (.int .i64 t27_V_0) ∧
 H8.cell H1.next (0 + 6) = some (.int .i64 t27_V_1) ∧
 H8.cell H1.next (0 + 7) = some (.int .i64 t27_V_2) ∧
 H8.cell H1.next (0 + 8) = some (.int .i64 t27_V_3) ∧
 H8.cell H1.next (0 + 9) = some (.int .i64 t27_V_4) ∧
 ∃ (H10 : AH),
 storeCellsv H8 H.next 0 [.bool t27_Has_0, .bool t27_Has_1, .bool t27_Has_2, .bool t27_Has_3, .bool t27_Has_4, .int .i64 t27_V_0, .int .i64 t27_V_1, .int .i64 t27_V_2, .int .i64 t27_V_3, .int .i64 t27_V_4] = some H10 ∧
 ∃ (r2_Has_0_1 : Bool) (r2_Has_1_1 : Bool) (r2_Has_2_1 : Bool) (r2_Has_3_1 : Bool) (r2_Has_4_1 : Bool) (r2_V_0_1 : Int) (r2_V_1_1 : Int) (r2_V_2_1 : Int) (r2_V_3_1 : Int) (r2_V_4_1 : Int),
 H10.cell H.next (0 + 0) = some (.bool r2_Has_0_1) ∧
 H10.cell H.next (0 + 1) = some (.bool r2_Has_1_1) ∧
 H10.cell H.next (0 + 2) = some (.bool r2_Has_2_1) ∧
 H10.cell H.next (0 + 3) = some (.bool r2_Has_3_1) ∧
 H10.cell H.next (0 + 4) = some (.bool r2_Has_4_1) ∧
 H10.cell H.next (0 + 5) = some (.int .i64 r2_V_0_1) ∧
 H10.cell H.next (0 + 6) = some (.int .i64 r2_V_1_1) ∧
 H10.cell H.next (0 + 7) = some (.int .i64 r2_V_2_1) ∧
 H10.cell H.next (0 + 8) = some (.int .i64 r2_V_3_1) ∧
 H10.cell H.next (0 + 9) = some (.int .i64 r2_V_4_1) ∧
 Q (.agg ⟨[.bool r2_Has_0_1, .bool r2_Has_1_1, .bool r2_Has_2_1, .bool r2_Has_3_1, .bool r2_Has_4_1, .int .i64 r2_V_0_1, .int .i64 r2_V_1_1, .int .i64 r2_V_2_1, .int .i64 r2_V_3_1, .int .i64 r2_V_4_1]⟩) H10))
set_option maxRecDepth 100000 in
theorem fw_agg_Take {r0b : Nat} {H : AH} {Q : Value → AH → Prop} (h : VC_agg_Take r0b H Q) : FW Ee F_agg_Take [.pointer (some ⟨r0b, 0, none⟩)] H Q := by
  have e : VC_agg_Take r0b H Q = wpF Ee ⟨[], []⟩ F_agg_Take [.pointer (some ⟨r0b, 0, none⟩)] H Q := by kernel_rfl
  letI : Sy := sy0
  exact wpF_sound (Eq.mp e h)
/-- cohort/master.putValues -/
def VC_master_putValues (w0b : Nat) (l1a : Option Addr) (l1l : Nat) (l1c : Nat) (H : AH) (Q : Value → AH → Prop) : Prop :=
 FW Ee F_wire_Writer_Count [.pointer (some ⟨w0b, 0, none⟩), .int .i64 (((l1l : Nat) : Int))] H fun v H1 =>
 v = .tuple ⟨[]⟩ ∧
 ∃ (Inv : Nat → Int → AH → Prop),
 (
 ∃ (n_1 : Nat),
 Inv n_1 0 H1) ∧
 ∀ (n : Nat),
 ∀ (t12 : Int) (H2 : AH),
 Inv n t12 H2 →
 cond (decide (t12 < (((l1l : Nat) : Int)))) (
 grd l1a.isSome (
 (0 : Int) ≤ t12 ∧
 (t12 : Int) < ((l1l : Nat) : Int) ∧
 ∃ (t15_ID : Int) (t15_V : Int),
 H2.cell ((adr l1a).block) ((adr l1a).off + (t12 : Int).toNat * 2 + 0) = some (.int .i64 t15_ID) ∧
 H2.cell ((adr l1a).block) ((adr l1a).off + (t12 : Int).toNat * 2 + 1) = some (.int .i64 t15_V) ∧
 ∀ (H3 : AH),
 H3 = H2.new (.cells [.int .i64 0, .int .i64 0] 0) →
 ∃ (H4 : AH),
 storeCellsv H3 H2.next 0 [.int .i64 t15_ID, .int .i64 t15_V] = some H4 ∧
 ∃ (t18 : Int),
 H4.cell H2.next 0 = some (.int .i64 t18) ∧
 FW Ee F_wire_Writer_Signed [.pointer (some ⟨w0b, 0, none⟩), .int .i64 t18] H4 fun v_1 H5 =>
 v_1 = .tuple ⟨[]⟩ ∧
 ∃ (t22 : Int),
 H5.cell H2.next 1 = some (.int .i64 t22) ∧
 FW Ee F_wire_Writer_Signed [.pointer (some ⟨w0b, 0, none⟩), .int .i64 t22] H5 fun v_2 H6 =>
 v_2 = .tuple ⟨[]⟩ ∧
 ∀ (t24 : Int),
 t24 = IntKind.i64.wrap (t12 + 1) →
 ∃ (m : Nat),
 m < n ∧
 Inv m t24 H6)) (
 Q (.tuple ⟨[]⟩) H2)
set_option maxRecDepth 100000 in
theorem fw_master_putValues {w0b : Nat} {l1a : Option Addr} {l1l : Nat} {l1c : Nat} {H : AH} {Q : Value → AH → Prop} (h : VC_master_putValues w0b l1a l1l l1c H Q) : FW Ee F_master_putValues [.pointer (some ⟨w0b, 0, none⟩), .slice l1a l1l l1c] H Q := by
  have e : VC_master_putValues w0b l1a l1l l1c H Q = wpF Ee ⟨[], []⟩ F_master_putValues [.pointer (some ⟨w0b, 0, none⟩), .slice l1a l1l l1c] H Q := by kernel_rfl
  letI : Sy := sy0
  exact wpF_sound (Eq.mp e h)
/-- cohort/master.takeValues -/
def VC_master_takeValues (r0b : Nat) (H : AH) (Q : Value → AH → Prop) : Prop :=
 FW Ee F_wire_Reader_Count [.pointer (some ⟨r0b, 0, none⟩), .int .i64 256] H fun v H1 =>
 ∃ (r6 : Int),
 v = .int .i64 r6 ∧
 ∃ (Inv : Nat → Option Addr → Nat → Nat → Int → AH → Prop),
 (
 ∃ (n_1 : Nat),
 Inv n_1 none 0 0 r6 H1) ∧
 ∀ (n : Nat),
 ∀ (out3a : Option Addr) (out3l : Nat) (out3c : Nat) (n4 : Int) (H2 : AH),
 Inv n out3a out3l out3c n4 H2 →
 cond (decide (n4 > 0)) (
 FW Ee F_wire_Reader_Err [.pointer (some ⟨r0b, 0, none⟩)] H2 fun v_1 H3 =>
 ∃ (r11 : Int),
 v_1 = .int .i64 r11 ∧
 cond (r11 == 0) (
 FW Ee F_wire_Reader_Signed [.pointer (some ⟨r0b, 0, none⟩)] H3 fun v_2 H4 =>
 ∃ (r18 : Int),
 v_2 = .int .i64 r18 ∧
 FW Ee F_wire_Reader_Signed [.pointer (some ⟨r0b, 0, none⟩)] H4 fun v_3 H5 =>
 ∃ (r20 : Int),
 v_3 = .int .i64 r20 ∧
 ∀ (H6 : AH),
 H6 = H5.new (.cells [.int .i64 r18, .int .i64 r20] 0) →
 ∃ (t23a : Option Addr) (t23l : Nat) (t23c : Nat) (H7 : AH),
 apnd H6 2 16 out3a out3l out3c (.slice (some ⟨H5.next, 0, none⟩) 1 2) = some (.slice t23a t23l t23c, H7) ∧
 ∀ (t15 : Int),
 t15 = IntKind.i64.wrap (n4 - 1) →
 ∃ (m : Nat),
 m < n ∧
 Inv m t23a t23l t23c t15 H7) (
 Q (.slice out3a out3l out3c) H3)) (
 Q (.slice out3a out3l out3c) H2)
set_option maxRecDepth 100000 in
theorem fw_master_takeValues {r0b : Nat} {H : AH} {Q : Value → AH → Prop} (h : VC_master_takeValues r0b H Q) : FW Ee F_master_takeValues [.pointer (some ⟨r0b, 0, none⟩)] H Q := by
  have e : VC_master_takeValues r0b H Q = wpF Ee ⟨[], []⟩ F_master_takeValues [.pointer (some ⟨r0b, 0, none⟩)] H Q := by kernel_rfl
  letI : Sy := sy0
  exact wpF_sound (Eq.mp e h)
/-- cohort/master.PutReport -/
def VC_master_PutReport (w0b : Nat) (x1_Job : Int) (x1_Epoch : Int) (x1_Step : Int) (x1_Phase : Int) (x1_Worker : Int) (x1_Err : Int) (x1_Sent : Int) (x1_Active : Int) (x1_Many : Int) (x1_Agg_Has_0 : Bool) (x1_Agg_Has_1 : Bool) (x1_Agg_Has_2 : Bool) (x1_Agg_Has_3 : Bool) (x1_Agg_Has_4 : Bool) (x1_Agg_V_0 : Int) (x1_Agg_V_1 : Int) (x1_Agg_V_2 : Int) (x1_Agg_V_3 : Int) (x1_Agg_V_4 : Int) (x1_Valuesa : Option Addr) (x1_Valuesl : Nat) (x1_Valuesc : Nat) (H : AH) (Q : Value → AH → Prop) : Prop :=
 ∀ (H1 : AH),
 H1 = H.new (.cells [.int .i64 x1_Job, .int .i64 x1_Epoch, .int .i64 x1_Step, .int .i64 x1_Phase, .int .i64 x1_Worker, .int .i64 x1_Err, .int .i64 x1_Sent, .int .i64 x1_Active, .int .i64 x1_Many, .bool x1_Agg_Has_0, .bool x1_Agg_Has_1, .bool x1_Agg_Has_2, .bool x1_Agg_Has_3, .bool x1_Agg_Has_4, .int .i64 x1_Agg_V_0, .int .i64 x1_Agg_V_1, .int .i64 x1_Agg_V_2, .int .i64 x1_Agg_V_3, .int .i64 x1_Agg_V_4, .slice x1_Valuesa x1_Valuesl x1_Valuesc] 0) →
 ∃ (t7 : Int),
 H1.cell H.next 0 = some (.int .i64 t7) ∧
 ∃ (t9 : Int),
 H1.cell H.next 1 = some (.int .i64 t9) ∧
 ∃ (t11 : Int),
 H1.cell H.next 2 = some (.int .i64 t11) ∧
 ∃ (t13 : Int),
 H1.cell H.next 3 = some (.int .i64 t13) ∧
 ∃ (t15 : Int),
 H1.cell H.next 4 = some (.int .i64 t15) ∧
 ∃ (t17 : Int),
 H1.cell H.next 5 = some (.int .i64 t17) ∧
 ∃ (t19 : Int),
 H1.cell H.next 6 = some (.int .i64 t19) ∧
 ∃ (t21 : Int),
 H1.cell H.next 7 = some (.int .i64 t21) ∧
 ∃ (t23 : Int),
 H1.cell H.next 8 = some (.int .i64 t23) ∧
 ∀ (H2 : AH),
 H2 = H1.new (.cells [.int .i64 t7, .int .i64 t9, .int .i64 t11, .int .i64 t13, .int .i64 t15, .int .i64 t17, .int .i64 t19, .int .i64 t21, .int .i64 t23] 0) →
 ∃ (Inv : Nat → Int → AH → Prop),
 (
 ∃ (n_1 : Nat),
 Inv n_1 0 H2) ∧
 ∀ (n : Nat),
 ∀ (t26 : Int) (H3 : AH),
 Inv n t26 H3 →
 cond (decide (t26 < (((9 : Nat) : Int)))) (
 (0 : Int) ≤ t26 ∧
 (t26 : Int) < ((9 : Nat) : Int) ∧
 ∃ (t29 : Int),
 H3.cell H1.next (0 + (t26 : Int).toNat * 1) = some (.int .i64 t29) ∧
 FW Ee F_wire_Writer_Count [.pointer (some ⟨w0b, 0, none⟩), .int .i64 t29] H3 fun v H4 =>
 v = .tuple ⟨[]⟩ ∧
 ∀ (t33 : Int),
 t33 = IntKind.i64.wrap (t26 + 1) →
 ∃ (m : Nat),
 m < n ∧
 Inv m t33 H4) (
 ∃ (t36_Has_0 : Bool) (t36_Has_1 : Bool) (t36_Has_2 : Bool) (t36_Has_3 : Bool) (t36_Has_4 : Bool) (t36_V_0 : Int) (t36_V_1 : Int) (t36_V_2 : Int) (t36_V_3 : Int) (t36_V_4 : Int),
 H3.cell H.next (9 + 0) = some (.bool t36_Has_0) ∧
 H3.cell H.next (9 + 1) = some (.bool t36_Has_1) ∧
 H3.cell H.next (9 + 2) = some (.bool t36_Has_2) ∧
 H3.cell H.next (9 + 3) = some (.bool t36_Has_3) ∧
 H3.cell H.next (9 + 4) = some (.bool t36_Has_4) ∧
 H3.cell H.next (9 + 5) = some (.int .i64 t36_V_0) ∧
 H3.cell H.next (9 + 6) = some (.int .i64 t36_V_1) ∧
 H3.cell H.next (9 + 7) = some (.int .i64 t36_V_2) ∧
 H3.cell H.next (9 + 8) = some (.int .i64 t36_V_3) ∧
 H3.cell H.next (9 + 9) = some (.int .i64 t36_V_4) ∧
 FW Ee F_agg_Put [.pointer (some ⟨w0b, 0, none⟩), .agg ⟨[.bool t36_Has_0, .bool t36_Has_1, .bool t36_Has_2, .bool t36_Has_3, .bool t36_Has_4, .int .i64 t36_V_0, .int .i64 t36_V_1, .int .i64 t36_V_2, .int .i64 t36_V_3, .int .i64 t36_V_4]⟩] H3 fun v_1 H5 =>
 v_1 = .tuple ⟨[]⟩ ∧
 ∃ (t40a : Option Addr) (t40l : Nat) (t40c : Nat),
 H5.cell H.next 19 = some (.slice t40a t40l t40c) ∧
 FW Ee F_master_putValues [.pointer (some ⟨w0b, 0, none⟩), .slice t40a t40l t40c] H5 fun v_2 H6 =>
 v_2 = .tuple ⟨[]⟩ ∧
 Q (.tuple ⟨[]⟩) H6)
set_option maxRecDepth 100000 in
theorem fw_master_PutReport {w0b : Nat} {x1_Job : Int} {x1_Epoch : Int} {x1_Step : Int} {x1_Phase : Int} {x1_Worker : Int} {x1_Err : Int} {x1_Sent : Int} {x1_Active : Int} {x1_Many : Int} {x1_Agg_Has_0 : Bool} {x1_Agg_Has_1 : Bool} {x1_Agg_Has_2 : Bool} {x1_Agg_Has_3 : Bool} {x1_Agg_Has_4 : Bool} {x1_Agg_V_0 : Int} {x1_Agg_V_1 : Int} {x1_Agg_V_2 : Int} {x1_Agg_V_3 : Int} {x1_Agg_V_4 : Int} {x1_Valuesa : Option Addr} {x1_Valuesl : Nat} {x1_Valuesc : Nat} {H : AH} {Q : Value → AH → Prop} (h : VC_master_PutReport w0b x1_Job x1_Epoch x1_Step x1_Phase x1_Worker x1_Err x1_Sent x1_Active x1_Many x1_Agg_Has_0 x1_Agg_Has_1 x1_Agg_Has_2 x1_Agg_Has_3 x1_Agg_Has_4 x1_Agg_V_0 x1_Agg_V_1 x1_Agg_V_2 x1_Agg_V_3 x1_Agg_V_4 x1_Valuesa x1_Valuesl x1_Valuesc H Q) : FW Ee F_master_PutReport [.pointer (some ⟨w0b, 0, none⟩), .agg ⟨[.int .i64 x1_Job, .int .i64 x1_Epoch, .int .i64 x1_Step, .int .i64 x1_Phase, .int .i64 x1_Worker, .int .i64 x1_Err, .int .i64 x1_Sent, .int .i64 x1_Active, .int .i64 x1_Many, .bool x1_Agg_Has_0, .bool x1_Agg_Has_1, .bool x1_Agg_Has_2, .bool x1_Agg_Has_3, .bool x1_Agg_Has_4, .int .i64 x1_Agg_V_0, .int .i64 x1_Agg_V_1, .int .i64 x1_Agg_V_2, .int .i64 x1_Agg_V_3, .int .i64 x1_Agg_V_4, .slice x1_Valuesa x1_Valuesl x1_Valuesc]⟩] H Q := by
  have e : VC_master_PutReport w0b x1_Job x1_Epoch x1_Step x1_Phase x1_Worker x1_Err x1_Sent x1_Active x1_Many x1_Agg_Has_0 x1_Agg_Has_1 x1_Agg_Has_2 x1_Agg_Has_3 x1_Agg_Has_4 x1_Agg_V_0 x1_Agg_V_1 x1_Agg_V_2 x1_Agg_V_3 x1_Agg_V_4 x1_Valuesa x1_Valuesl x1_Valuesc H Q = wpF Ee ⟨[], []⟩ F_master_PutReport [.pointer (some ⟨w0b, 0, none⟩), .agg ⟨[.int .i64 x1_Job, .int .i64 x1_Epoch, .int .i64 x1_Step, .int .i64 x1_Phase, .int .i64 x1_Worker, .int .i64 x1_Err, .int .i64 x1_Sent, .int .i64 x1_Active, .int .i64 x1_Many, .bool x1_Agg_Has_0, .bool x1_Agg_Has_1, .bool x1_Agg_Has_2, .bool x1_Agg_Has_3, .bool x1_Agg_Has_4, .int .i64 x1_Agg_V_0, .int .i64 x1_Agg_V_1, .int .i64 x1_Agg_V_2, .int .i64 x1_Agg_V_3, .int .i64 x1_Agg_V_4, .slice x1_Valuesa x1_Valuesl x1_Valuesc]⟩] H Q := by kernel_rfl
  letI : Sy := sy0
  exact wpF_sound (Eq.mp e h)
/-- cohort/master.TakeReport -/
def VC_master_TakeReport (r0b : Nat) (H : AH) (Q : Value → AH → Prop) : Prop :=
 ∀ (H1 : AH),
 H1 = H.new (.cells [.int .i64 0, .int .i64 0, .int .i64 0, .int .i64 0, .int .i64 0, .int .i64 0, .int .i64 0, .int .i64 0, .int .i64 0, .bool false, .bool false, .bool false, .bool false, .bool false, .int .i64 0, .int .i64 0, .int .i64 0, .int .i64 0, .int .i64 0, .slice none 0 0] 0) →
 ∀ (H2 : AH),
 H2 = H1.new (.cells [.int .i64 0, .int .i64 0, .int .i64 0, .int .i64 0, .int .i64 0, .int .i64 0, .int .i64 0, .int .i64 0, .int .i64 0, .bool false, .bool false, .bool false, .bool false, .bool false, .int .i64 0, .int .i64 0, .int .i64 0, .int .i64 0, .int .i64 0, .slice none 0 0] 0) →
 ∀ (H3 : AH),
 H3 = H2.new (.cells [.int .i64 0] 0) →
 ∀ (H4 : AH),
 H4 = H3.new (.cells [.pointer (some ⟨H1.next, 0, none⟩), .pointer (some ⟨H1.next, 1, none⟩), .pointer (some ⟨H1.next, 2, none⟩), .pointer (some ⟨H1.next, 3, none⟩), .pointer (some ⟨H1.next, 4, none⟩), .pointer (some ⟨H2.next, 0, none⟩), .pointer (some ⟨H1.next, 6, none⟩), .pointer (some ⟨H1.next, 7, none⟩), .pointer (some ⟨H1.next, 8, none⟩)] 0) →
 ∃ (Inv : Nat → Int → AH → Prop),
 (
 ∃ (n_1 : Nat),
 Inv n_1 0 H4) ∧
 ∀ (n : Nat),
 ∀ (t17 : Int) (H5 : AH),
 Inv n t17 H5 →
 cond (decide (t17 < (((9 : Nat) : Int)))) (
 (0 : Int) ≤ t17 ∧
 (t17 : Int) < ((9 : Nat) : Int) ∧
 ∃ (t20 : Option Addr),
 H5.cell H3.next (0 + (t17 : Int).toNat * 1) = some (.pointer t20) ∧
 FW Ee F_wire_Reader_Count [.pointer (some ⟨r0b, 0, none⟩), .int .i64 2147483647] H5 fun v H6 =>
 ∃ (r23 : Int),
 v = .int .i64 r23 ∧
 grd t20.isSome (
 grd t20.isSome (
 ∃ (H7 : AH),
 storeCellsv H6 ((adr t20).block) ((adr t20).off) [.int .i64 r23] = some H7 ∧
 ∀ (t25 : Int),
 t25 = IntKind.i64.wrap (t17 + 1) →
 ∃ (m : Nat),
 m < n ∧
 Inv m t25 H7))) (
 ∃ (t26 : Int),
 H5.cell H2.next 0 = some (.int .i64 t26) ∧
 FW Ee F_agg_Take [.pointer (some ⟨r0b, 0, none⟩)] H5 fun v_1 H8 =>
 ∃ (r28_Has_0 : Bool) (r28_Has_1 : Bool) (r28_Has_2 : Bool) (r28_Has_3 : Bool) (r28_Has_4 : Bool) (r28_V_0 : Int) (r28_V_1 : Int) (r28_V_2 : Int) (r28_V_3 : Int) (r28_V_4 : Int),
 v_1 = .agg ⟨[.bool r28_Has_0, .bool r28_Has_1, .bool r28_Has_2, .bool r28_Has_3, .bool r28_Has_4, .int .i64 r28_V_0, .int .i64 r28_V_1, .int .i64 r28_V_2, .int .i64 r28_V_3, .int .i64 r28_V_4]⟩ ∧
 FW Ee F_master_takeValues [.pointer (some ⟨r0b, 0, none⟩)] H8 fun v_2 H9 =>
 ∃ (r30a : Option Addr) (r30l : Nat) (r30c : Nat),
 v_2 = .slice r30a r30l r30c ∧
 ∃ (H10 : AH),
 storeCellsv H9 H1.next 5 [.int .i64 t26] = some H10 ∧
 ∃ (H11 : AH),
 storeCellsv H10 H1.next 9 [.bool r28_Has_0, .bool r28_Has_1, .bool r28_Has_2, .bool r28_Has_3, .bool r28_Has_4, .int .i64 r28_V_0, .int .i64 r28_V_1, .int .i64 r28_V_2, .int .i64 r28_V_3, .int .i64 r28_V_4] = some H11 ∧
 ∃ (H12 : AH),
 storeCellsv H11 H1.next 19 [.slice r30a r30l r30c] = some H12 ∧
 H9.cell H2.next 0 = some (.int .i64 t26) ∧
 H8.cell H2.next 0 = some (.int .i64 t26) ∧
 ∃ (t34_Job : Int) (t34_Epoch : Int) (t34_Step : Int) (t34_Phase : Int) (t34_Worker : Int) (t34_Err : Int) (t34_Sent : Int) (t34_Active : Int) (t34_Many : Int) (t34_Agg_Has_0 : Bool) (t34_Agg_Has_1 : Bool) (t34_Agg_Has_2 : Bool) (t34_Agg_Has_3 : Bool) (t34_Agg_Has_4 : Bool) (t34_Agg_V_0 : Int) (t34_Agg_V_1 : Int) (t34_Agg_V_2 : Int) (t34_Agg_V_3 : Int) (t34_Agg_V_4 : Int) (t34_Valuesa : Option Addr) (t34_Valuesl : Nat) (t34_Valuesc : Nat),
 H12.cell H1.next (0 + 0) = some (.int .i64 t34_Job) ∧
 H12.cell H1.next (0 + 1) = some (.int .i64 t34_Epoch) ∧
 H12.cell H1.next (0 + 2) = some (.int .i64 t34_Step) ∧
 H12.cell H1.next (0 + 3) = some (.int .i64 t34_Phase) ∧
 H12.cell H1.next (0 + 4) = some (.int .i64 t34_Worker) ∧
 H12.cell H1.next (0 + 5) = some (.int .i64 t34_Err) ∧
 H12.cell H1.next (0 + 6) = some (.int .i64 t34_Sent) ∧
 H12.cell H1.next (0 + 7) = some (.int .i64 t34_Active) ∧
 H12.cell H1.next (0 + 8) = some (.int .i64 t34_Many) ∧
 H12.cell H1.next (0 + 9) = some (.bool t34_Agg_Has_0) ∧
 H12.cell H1.next (0 + 10) = some (.bool t34_Agg_Has_1) ∧
 H12.cell H1.next (0 + 11) = some (.bool t34_Agg_Has_2) ∧
 H12.cell H1.next (0 + 12) = some (.bool t34_Agg_Has_3) ∧
 H12.cell H1.next (0 + 13) = some (.bool t34_Agg_Has_4) ∧
 H12.cell H1.next (0 + 14) = some (.int .i64 t34_Agg_V_0) ∧
 H12.cell H1.next (0 + 15) = some (.int .i64 t34_Agg_V_1) ∧
 H12.cell H1.next (0 + 16) = some (.int .i64 t34_Agg_V_2) ∧
 H12.cell H1.next (0 + 17) = some (.int .i64 t34_Agg_V_3) ∧
 H12.cell H1.next (0 + 18) = some (.int .i64 t34_Agg_V_4) ∧
 H12.cell H1.next (0 + 19) = some (.slice t34_Valuesa t34_Valuesl t34_Valuesc) ∧
 ∃ (H13 : AH),
 storeCellsv H12 H.next 0 [.int .i64 t34_Job, .int .i64 t34_Epoch, .int .i64 t34_Step, .int .i64 t34_Phase, .int .i64 t34_Worker, .int .i64 t34_Err, .int .i64 t34_Sent, .int .i64 t34_Active, .int .i64 t34_Many, .bool t34_Agg_Has_0, .bool t34_Agg_Has_1, .bool t34_Agg_Has_2, .bool t34_Agg_Has_3, .bool t34_Agg_Has_4, .int .i64 t34_Agg_V_0, .int .i64 t34_Agg_V_1, .int .i64 t34_Agg_V_2, .int .i64 t34_Agg_V_3, .int .i64 t34_Agg_V_4, .slice t34_Valuesa t34_Valuesl t34_Valuesc] = some H13 ∧
 ∃ (r2_Job : Int) (r2_Epoch : Int) (r2_Step : Int) (r2_Phase : Int) (r2_Worker : Int) (r2_Err : Int) (r2_Sent : Int) (r2_Active : Int) (r2_Many : Int) (r2_Agg_Has_0 : Bool) (r2_Agg_Has_1 : Bool) (r2_Agg_Has_2 : Bool) (r2_Agg_Has_3 : Bool) (r2_Agg_Has_4 : Bool) (r2_Agg_V_0 : Int) (r2_Agg_V_1 : Int) (r2_Agg_V_2 : Int) (r2_Agg_V_3 : Int) (r2_Agg_V_4 : Int) (r2_Valuesa : Option Addr) (r2_Valuesl : Nat) (r2_Valuesc : Nat),
 H13.cell H.next (0 + 0) = some (.int .i64 r2_Job) ∧
 H13.cell H.next (0 + 1) = some (.int .i64 r2_Epoch) ∧
 H13.cell H.next (0 + 2) = some (.int .i64 r2_Step) ∧
 H13.cell H.next (0 + 3) = some (.int .i64 r2_Phase) ∧
 H13.cell H.next (0 + 4) = some (.int .i64 r2_Worker) ∧
 H13.cell H.next (0 + 5) = some (.int .i64 r2_Err) ∧
 H13.cell H.next (0 + 6) = some (.int .i64 r2_Sent) ∧
 H13.cell H.next (0 + 7) = some (.int .i64 r2_Active) ∧
 H13.cell H.next (0 + 8) = some (.int .i64 r2_Many) ∧
 H13.cell H.next (0 + 9) = some (.bool r2_Agg_Has_0) ∧
 H13.cell H.next (0 + 10) = some (.bool r2_Agg_Has_1) ∧
 H13.cell H.next (0 + 11) = some (.bool r2_Agg_Has_2) ∧
 H13.cell H.next (0 + 12) = some (.bool r2_Agg_Has_3) ∧
 H13.cell H.next (0 + 13) = some (.bool r2_Agg_Has_4) ∧
 H13.cell H.next (0 + 14) = some (.int .i64 r2_Agg_V_0) ∧
 H13.cell H.next (0 + 15) = some (.int .i64 r2_Agg_V_1) ∧
 H13.cell H.next (0 + 16) = some (.int .i64 r2_Agg_V_2) ∧
 H13.cell H.next (0 + 17) = some (.int .i64 r2_Agg_V_3) ∧
 H13.cell H.next (0 + 18) = some (.int .i64 r2_Agg_V_4) ∧
 H13.cell H.next (0 + 19) = some (.slice r2_Valuesa r2_Valuesl r2_Valuesc) ∧
 Q (.agg ⟨[.int .i64 r2_Job, .int .i64 r2_Epoch, .int .i64 r2_Step, .int .i64 r2_Phase, .int .i64 r2_Worker, .int .i64 r2_Err, .int .i64 r2_Sent, .int .i64 r2_Active, .int .i64 r2_Many, .bool r2_Agg_Has_0, .bool r2_Agg_Has_1, .bool r2_Agg_Has_2, .bool r2_Agg_Has_3, .bool r2_Agg_Has_4, .int .i64 r2_Agg_V_0, .int .i64 r2_Agg_V_1, .int .i64 r2_Agg_V_2, .int .i64 r2_Agg_V_3, .int .i64 r2_Agg_V_4, .slice r2_Valuesa r2_Valuesl r2_Valuesc]⟩) H13)
set_option maxRecDepth 100000 in
theorem fw_master_TakeReport {r0b : Nat} {H : AH} {Q : Value → AH → Prop} (h : VC_master_TakeReport r0b H Q) : FW Ee F_master_TakeReport [.pointer (some ⟨r0b, 0, none⟩)] H Q := by
  have e : VC_master_TakeReport r0b H Q = wpF Ee ⟨[], []⟩ F_master_TakeReport [.pointer (some ⟨r0b, 0, none⟩)] H Q := by kernel_rfl
  letI : Sy := sy0
  exact wpF_sound (Eq.mp e h)
end Go.Proofs.Cx
