/- What calls come to, as formulas: printed by a program. What calls come to, as formulas: printed by a program. -/
import Derived.Test.YtkkcknfeljgdcaaGreatVc0
namespace Go.Proofs.Cx
open Go Go.Ev
set_option linter.unusedVariables false
set_option maxRecDepth 100000
set_option maxHeartbeats 8000000
/-- cohort/master.EncodeCommand -/
def VC_master_EncodeCommand (c0_Kind : Int) (c0_Session : Int) (c0_Seq : Int) (c0_S : List UInt8) (c0_ID : Int) (c0_Worker : Int) (c0_Life : Int) (c0_Report_Job : Int) (c0_Report_Epoch : Int) (c0_Report_Step : Int) (c0_Report_Phase : Int) (c0_Report_Worker : Int) (c0_Report_Err : Int) (c0_Report_Sent : Int) (c0_Report_Active : Int) (c0_Report_Many : Int) (c0_Report_Agg_Has_0 : Bool) (c0_Report_Agg_Has_1 : Bool) (c0_Report_Agg_Has_2 : Bool) (c0_Report_Agg_Has_3 : Bool) (c0_Report_Agg_Has_4 : Bool) (c0_Report_Agg_V_0 : Int) (c0_Report_Agg_V_1 : Int) (c0_Report_Agg_V_2 : Int) (c0_Report_Agg_V_3 : Int) (c0_Report_Agg_V_4 : Int) (c0_Report_Valuesa : Option Addr) (c0_Report_Valuesl : Nat) (c0_Report_Valuesc : Nat) (H : AH) (Q : Value → AH → Prop) : Prop :=
 ∀ (H1 : AH),
 H1 = H.new (.cells [.int .i64 c0_Kind, .int .i64 c0_Session, .int .i64 c0_Seq, .string ⟨⟨c0_S⟩⟩, .int .i64 c0_ID, .int .i64 c0_Worker, .int .i64 c0_Life, .int .i64 c0_Report_Job, .int .i64 c0_Report_Epoch, .int .i64 c0_Report_Step, .int .i64 c0_Report_Phase, .int .i64 c0_Report_Worker, .int .i64 c0_Report_Err, .int .i64 c0_Report_Sent, .int .i64 c0_Report_Active, .int .i64 c0_Report_Many, .bool c0_Report_Agg_Has_0, .bool c0_Report_Agg_Has_1, .bool c0_Report_Agg_Has_2, .bool c0_Report_Agg_Has_3, .bool c0_Report_Agg_Has_4, .int .i64 c0_Report_Agg_V_0, .int .i64 c0_Report_Agg_V_1, .int .i64 c0_Report_Agg_V_2, .int .i64 c0_Report_Agg_V_3, .int .i64 c0_Report_Agg_V_4, .slice c0_Report_Valuesa c0_Report_Valuesl c0_Report_Valuesc] 0) →
 FW Ee F_wire_NewWriter [] H1 fun v H2 =>
 ∃ (r5 : Option Addr),
 v = .pointer r5 ∧
 ∃ (t8 : Int),
 H2.cell H.next 0 = some (.int .i64 t8) ∧
 FW Ee F_wire_Writer_Count [.pointer r5, .int .i64 t8] H2 fun v_1 H3 =>
 v_1 = .tuple ⟨[]⟩ ∧
 ∃ (t11 : Int),
 H3.cell H.next 0 = some (.int .i64 t11) ∧
 cond (t11 == 1) (
 ∃ (t16 : Int),
 H3.cell H.next 1 = some (.int .i64 t16) ∧
 FW Ee F_wire_Writer_Signed [.pointer r5, .int .i64 t16] H3 fun v_2 H4 =>
 v_2 = .tuple ⟨[]⟩ ∧
 ∃ (t20 : Int),
 H4.cell H.next 2 = some (.int .i64 t20) ∧
 FW Ee F_wire_Writer_Count [.pointer r5, .int .i64 t20] H4 fun v_3 H5 =>
 v_3 = .tuple ⟨[]⟩ ∧
 ∃ (t24 : List UInt8),
 H5.cell H.next 3 = some (.string ⟨⟨t24⟩⟩) ∧
 FW Ee F_wire_Writer_Text [.pointer r5, .string ⟨⟨t24⟩⟩] H5 fun v_4 H6 =>
 v_4 = .tuple ⟨[]⟩ ∧
 FW Ee F_wire_Writer_All [.pointer r5] H6 fun v_5 H7 =>
 ∃ (r58 : List UInt8),
 v_5 = .string ⟨⟨r58⟩⟩ ∧
 Q (.tuple ⟨[.string ⟨⟨r58⟩⟩, .int .i64 0]⟩) H7) (
 cond (t11 == 2) (
 ∃ (t30 : Int),
 H3.cell H.next 1 = some (.int .i64 t30) ∧
 FW Ee F_wire_Writer_Signed [.pointer r5, .int .i64 t30] H3 fun v_6 H8 =>
 v_6 = .tuple ⟨[]⟩ ∧
 ∃ (t34 : Int),
 H8.cell H.next 2 = some (.int .i64 t34) ∧
 FW Ee F_wire_Writer_Count [.pointer r5, .int .i64 t34] H8 fun v_7 H9 =>
 v_7 = .tuple ⟨[]⟩ ∧
 ∃ (t38 : Int),
 H9.cell H.next 4 = some (.int .i64 t38) ∧
 FW Ee F_wire_Writer_Count [.pointer r5, .int .i64 t38] H9 fun v_8 H10 =>
 v_8 = .tuple ⟨[]⟩ ∧
 FW Ee F_wire_Writer_All [.pointer r5] H10 fun v_9 H11 =>
 ∃ (r58_1 : List UInt8),
 v_9 = .string ⟨⟨r58_1⟩⟩ ∧
 Q (.tuple ⟨[.string ⟨⟨r58_1⟩⟩, .int .i64 0]⟩) H11) (
 cond (t11 == 3) (
 ∃ (t45 : Int),
 H3.cell H.next 5 = some (.int .i64 t45) ∧
 FW Ee F_wire_Writer_Count [.pointer r5, .int .i64 t45] H3 fun v_10 H12 =>
 v_10 = .tuple ⟨[]⟩ ∧
 ∃ (t49 : Int),
 H12.cell H.next 6 = some (.int .i64 t49) ∧
 FW Ee F_wire_Writer_Count [.pointer r5, .int .i64 t49] H12 fun v_11 H13 =>
 v_11 = .tuple ⟨[]⟩ ∧
 FW Ee F_wire_Writer_All [.pointer r5] H13 fun v_12 H14 =>
 ∃ (r58_2 : List UInt8),
 v_12 = .string ⟨⟨r58_2⟩⟩ ∧
 Q (.tuple ⟨[.string ⟨⟨r58_2⟩⟩, .int .i64 0]⟩) H14) (
 cond (t11 == 4) (
 ∃ (t45_1 : Int),
 H3.cell H.next 5 = some (.int .i64 t45_1) ∧
 FW Ee F_wire_Writer_Count [.pointer r5, .int .i64 t45_1] H3 fun v_13 H15 =>
 v_13 = .tuple ⟨[]⟩ ∧
 ∃ (t49_1 : Int),
 H15.cell H.next 6 = some (.int .i64 t49_1) ∧
 FW Ee F_wire_Writer_Count [.pointer r5, .int .i64 t49_1] H15 fun v_14 H16 =>
 v_14 = .tuple ⟨[]⟩ ∧
 FW Ee F_wire_Writer_All [.pointer r5] H16 fun v_15 H17 =>
 ∃ (r58_3 : List UInt8),
 v_15 = .string ⟨⟨r58_3⟩⟩ ∧
 Q (.tuple ⟨[.string ⟨⟨r58_3⟩⟩, .int .i64 0]⟩) H17) (
 cond (t11 == 5) (
 ∃ (t55_Job : Int) (t55_Epoch : Int) (t55_Step : Int) (t55_Phase : Int) (t55_Worker : Int) (t55_Err : Int) (t55_Sent : Int) (t55_Active : Int) (t55_Many : Int) (t55_Agg_Has_0 : Bool) (t55_Agg_Has_1 : Bool) (t55_Agg_Has_2 : Bool) (t55_Agg_Has_3 : Bool) (t55_Agg_Has_4 : Bool) (t55_Agg_V_0 : Int) (t55_Agg_V_1 : Int) (t55_Agg_V_2 : Int) (t55_Agg_V_3 : Int) (t55_Agg_V_4 : Int) (t55_Valuesa : Option Addr) (t55_Valuesl : Nat) (t55_Valuesc : Nat),
 H3.cell H.next (7 + 0) = some (.int .i64 t55_Job) ∧
 H3.cell H.next (7 + 1) = some (.int .i64 t55_Epoch) ∧
 H3.cell H.next (7 + 2) = some (.int .i64 t55_Step) ∧
 H3.cell H.next (7 + 3) = some (.int .i64 t55_Phase) ∧
 H3.cell H.next (7 + 4) = some (.int .i64 t55_Worker) ∧
 H3.cell H.next (7 + 5) = some (.int .i64 t55_Err) ∧
 H3.cell H.next (7 + 6) = some (.int .i64 t55_Sent) ∧
 H3.cell H.next (7 + 7) = some (.int .i64 t55_Active) ∧
 H3.cell H.next (7 + 8) = some (.int .i64 t55_Many) ∧
 H3.cell H.next (7 + 9) = some (.bool t55_Agg_Has_0) ∧
 H3.cell H.next (7 + 10) = some (.bool t55_Agg_Has_1) ∧
 H3.cell H.next (7 + 11) = some (.bool t55_Agg_Has_2) ∧
 H3.cell H.next (7 + 12) = some (.bool t55_Agg_Has_3) ∧
 H3.cell H.next (7 + 13) = some (.bool t55_Agg_Has_4) ∧
 H3.cell H.next (7 + 14) = some (.int .i64 t55_Agg_V_0) ∧
 H3.cell H.next (7 + 15) = some (.int .i64 t55_Agg_V_1) ∧
 H3.cell H.next (7 + 16) = some (.int .i64 t55_Agg_V_2) ∧
 H3.cell H.next (7 + 17) = some (.int .i64 t55_Agg_V_3) ∧
 H3.cell H.next (7 + 18) = some (.int .i64 t55_Agg_V_4) ∧
 H3.cell H.next (7 + 19) = some (.slice t55_Valuesa t55_Valuesl t55_Valuesc) ∧
 FW Ee F_master_PutReport [.pointer r5, .agg ⟨[.int .i64 t55_Job, .int .i64 t55_Epoch, .int .i64 t55_Step, .int .i64 t55_Phase, .int .i64 t55_Worker, .int .i64 t55_Err, .int .i64 t55_Sent, .int .i64 t55_Active, .int .i64 t55_Many, .bool t55_Agg_Has_0, .bool t55_Agg_Has_1, .bool t55_Agg_Has_2, .bool t55_Agg_Has_3, .bool t55_Agg_Has_4, .int .i64 t55_Agg_V_0, .int .i64 t55_Agg_V_1, .int .i64 t55_Agg_V_2, .int .i64 t55_Agg_V_3, .int .i64 t55_Agg_V_4, .slice t55_Valuesa t55_Valuesl t55_Valuesc]⟩] H3 fun v_16 H18 =>
 v_16 = .tuple ⟨[]⟩ ∧
 FW Ee F_wire_Writer_All [.pointer r5] H18 fun v_17 H19 =>
 ∃ (r58_4 : List UInt8),
 v_17 = .string ⟨⟨r58_4⟩⟩ ∧
 Q (.tuple ⟨[.string ⟨⟨r58_4⟩⟩, .int .i64 0]⟩) H19) (
 Q (.tuple ⟨[.string ⟨⟨[]⟩⟩, .int .i64 172]⟩) H3)))))
set_option maxRecDepth 100000 in
theorem fw_master_EncodeCommand {c0_Kind : Int} {c0_Session : Int} {c0_Seq : Int} {c0_S : List UInt8} {c0_ID : Int} {c0_Worker : Int} {c0_Life : Int} {c0_Report_Job : Int} {c0_Report_Epoch : Int} {c0_Report_Step : Int} {c0_Report_Phase : Int} {c0_Report_Worker : Int} {c0_Report_Err : Int} {c0_Report_Sent : Int} {c0_Report_Active : Int} {c0_Report_Many : Int} {c0_Report_Agg_Has_0 : Bool} {c0_Report_Agg_Has_1 : Bool} {c0_Report_Agg_Has_2 : Bool} {c0_Report_Agg_Has_3 : Bool} {c0_Report_Agg_Has_4 : Bool} {c0_Report_Agg_V_0 : Int} {c0_Report_Agg_V_1 : Int} {c0_Report_Agg_V_2 : Int} {c0_Report_Agg_V_3 : Int} {c0_Report_Agg_V_4 : Int} {c0_Report_Valuesa : Option Addr} {c0_Report_Valuesl : Nat} {c0_Report_Valuesc : Nat} {H : AH} {Q : Value → AH → Prop} (h : VC_master_EncodeCommand c0_Kind c0_Session c0_Seq c0_S c0_ID c0_Worker c0_Life c0_Report_Job c0_Report_Epoch c0_Report_Step c0_Report_Phase c0_Report_Worker c0_Report_Err c0_Report_Sent c0_Report_Active c0_Report_Many c0_Report_Agg_Has_0 c0_Report_Agg_Has_1 c0_Report_Agg_Has_2 c0_Report_Agg_Has_3 c0_Report_Agg_Has_4 c0_Report_Agg_V_0 c0_Report_Agg_V_1 c0_Report_Agg_V_2 c0_Report_Agg_V_3 c0_Report_Agg_V_4 c0_Report_Valuesa c0_Report_Valuesl c0_Report_Valuesc H Q) : FW Ee F_master_EncodeCommand [.agg ⟨[.int .i64 c0_Kind, .int .i64 c0_Session, .int .i64 c0_Seq, .string ⟨⟨c0_S⟩⟩, .int .i64 c0_ID, .int .i64 c0_Worker, .int .i64 c0_Life, .int .i64 c0_Report_Job, .int .i64 c0_Report_Epoch, .int .i64 c0_Report_Step, .int .i64 c0_Report_Phase, .int .i64 c0_Report_Worker, .int .i64 c0_Report_Err, .int .i64 c0_Report_Sent, .int .i64 c0_Report_Active, .int .i64 c0_Report_Many, .bool c0_Report_Agg_Has_0, .bool c0_Report_Agg_Has_1, .bool c0_Report_Agg_Has_2, .bool c0_Report_Agg_Has_3, .bool c0_Report_Agg_Has_4, .int .i64 c0_Report_Agg_V_0, .int .i64 c0_Report_Agg_V_1, .int .i64 c0_Report_Agg_V_2, .int .i64 c0_Report_Agg_V_3, .int .i64 c0_Report_Agg_V_4, .slice c0_Report_Valuesa c0_Report_Valuesl c0_Report_Valuesc]⟩] H Q := by
  have e : VC_master_EncodeCommand c0_Kind c0_Session c0_Seq c0_S c0_ID c0_Worker c0_Life c0_Report_Job c0_Report_Epoch c0_Report_Step c0_Report_Phase c0_Report_Worker c0_Report_Err c0_Report_Sent c0_Report_Active c0_Report_Many c0_Report_Agg_Has_0 c0_Report_Agg_Has_1 c0_Report_Agg_Has_2 c0_Report_Agg_Has_3 c0_Report_Agg_Has_4 c0_Report_Agg_V_0 c0_Report_Agg_V_1 c0_Report_Agg_V_2 c0_Report_Agg_V_3 c0_Report_Agg_V_4 c0_Report_Valuesa c0_Report_Valuesl c0_Report_Valuesc H Q = wpF Ee ⟨[], []⟩ F_master_EncodeCommand [.agg ⟨[.int .i64 c0_Kind, .int .i64 c0_Session, .int .i64 c0_Seq, .string ⟨⟨c0_S⟩⟩, .int .i64 c0_ID, .int .i64 c0_Worker, .int .i64 c0_Life, .int .i64 c0_Report_Job, .int .i64 c0_Report_Epoch, .int .i64 c0_Report_Step, .int .i64 c0_Report_Phase, .int .i64 c0_Report_Worker, .int .i64 c0_Report_Err, .int .i64 c0_Report_Sent, .int .i64 c0_Report_Active, .int .i64 c0_Report_Many, .bool c0_Report_Agg_Has_0, .bool c0_Report_Agg_Has_1, .bool c0_Report_Agg_Has_2, .bool c0_Report_Agg_Has_3, .bool c0_Report_Agg_Has_4, .int .i64 c0_Report_Agg_V_0, .int .i64 c0_Report_Agg_V_1, .int .i64 c0_Report_Agg_V_2, .int .i64 c0_Report_Agg_V_3, .int .i64 c0_Report_Agg_V_4, .slice c0_Report_Valuesa c0_Report_Valuesl c0_Report_Valuesc]⟩] H Q := by kernel_rfl
  letI : Sy := sy0
  exact wpF_sound (Eq.mp e h)
/-- cohort/master.DecodeCommand -/
def VC_master_DecodeCommand (s0 : List UInt8) (H : AH) (Q : Value → AH → Prop) : Prop :=
 ∀ (H1 : AH),
 H1 = H.new (.cells [.int .i64 0, .int .i64 0, .int .i64 0, .string ⟨⟨[]⟩⟩, .int .i64 0, .int .i64 0, .int .i64 0, .int .i64 0, .int .i64 0, .int .i64 0, .int .i64 0, .int .i64 0, .int .i64 0, .int .i64 0, .int .i64 0, .int .i64 0, .bool false, .bool false, .bool false, .bool false, .bool false, .int .i64 0, .int .i64 0, .int .i64 0, .int .i64 0, .int .i64 0, .slice none 0 0] 0) →
 FW Ee F_wire_NewReader [.string ⟨⟨s0⟩⟩] H1 fun v H2 =>
 ∃ (r8 : Option Addr),
 v = .pointer r8 ∧
 FW Ee F_wire_Reader_Count [.pointer r8, .int .i64 5] H2 fun v_1 H3 =>
 ∃ (r10 : Int),
 v_1 = .int .i64 r10 ∧
 ∀ (H4 : AH),
 H4 = H3.new (.cells [.int .i64 0, .int .i64 0, .int .i64 0, .string ⟨⟨[]⟩⟩, .int .i64 0, .int .i64 0, .int .i64 0, .int .i64 0, .int .i64 0, .int .i64 0, .int .i64 0, .int .i64 0, .int .i64 0, .int .i64 0, .int .i64 0, .int .i64 0, .bool false, .bool false, .bool false, .bool false, .bool false, .int .i64 0, .int .i64 0, .int .i64 0, .int .i64 0, .int .i64 0, .slice none 0 0] 0) →
 ∃ (H5 : AH),
 storeCellsv H4 H3.next 0 [.int .i64 r10, .int .i64 0, .int .i64 0, .string ⟨⟨[]⟩⟩, .int .i64 0, .int .i64 0, .int .i64 0, .int .i64 0, .int .i64 0, .int .i64 0, .int .i64 0, .int .i64 0, .int .i64 0, .int .i64 0, .int .i64 0, .int .i64 0, .bool false, .bool false, .bool false, .bool false, .bool false, .int .i64 0, .int .i64 0, .int .i64 0, .int .i64 0, .int .i64 0, .slice none 0 0] = some H5 ∧
 ∃ (t13 : Int),
 H5.cell H3.next 0 = some (.int .i64 t13) ∧
 ∃ (J_1 : AH → Prop),
 (
 cond (t13 == 1) (
 FW Ee F_wire_Reader_Signed [.pointer r8] H5 fun v_2 H6 =>
 ∃ (r19 : Int),
 v_2 = .int .i64 r19 ∧
 FW Ee F_wire_Reader_Count [.pointer r8, .int .i64 2147483647] H6 fun v_3 H7 =>
 ∃ (r21 : Int),
 v_3 = .int .i64 r21 ∧
 ∃ (H8 : AH),
 storeCellsv H7 H3.next 1 [.int .i64 r19] = some H8 ∧
 ∃ (H9 : AH),
 storeCellsv H8 H3.next 2 [.int .i64 r21] = some H9 ∧
 FW Ee F_wire_Reader_Text [.pointer r8] H9 fun v_4 H10 =>
 ∃ (r25 : List UInt8),
 v_4 = .string ⟨⟨r25⟩⟩ ∧
 ∃ (H11 : AH),
 storeCellsv H10 H3.next 3 [.string ⟨⟨r25⟩⟩] = some H11 ∧
 J_1 H11) (
 cond (t13 == 2) (
 FW Ee F_wire_Reader_Signed [.pointer r8] H5 fun v_5 H12 =>
 ∃ (r30 : Int),
 v_5 = .int .i64 r30 ∧
 FW Ee F_wire_Reader_Count [.pointer r8, .int .i64 2147483647] H12 fun v_6 H13 =>
 ∃ (r32 : Int),
 v_6 = .int .i64 r32 ∧
 FW Ee F_wire_Reader_Count [.pointer r8, .int .i64 2147483647] H13 fun v_7 H14 =>
 ∃ (r34 : Int),
 v_7 = .int .i64 r34 ∧
 ∃ (H15 : AH),
 storeCellsv H14 H3.next 1 [.int .i64 r30] = some H15 ∧
 ∃ (H16 : AH),
 storeCellsv H15 H3.next 2 [.int .i64 r32] = some H16 ∧
 ∃ (H17 : AH),
 storeCellsv H16 H3.next 4 [.int .i64 r34] = some H17 ∧
 J_1 H17) (
 cond (t13 == 3) (
 FW Ee F_wire_Reader_Count [.pointer r8, .int .i64 2147483647] H5 fun v_8 H18 =>
 ∃ (r42 : Int),
 v_8 = .int .i64 r42 ∧
 FW Ee F_wire_Reader_Count [.pointer r8, .int .i64 2147483647] H18 fun v_9 H19 =>
 ∃ (r44 : Int),
 v_9 = .int .i64 r44 ∧
 ∃ (H20 : AH),
 storeCellsv H19 H3.next 5 [.int .i64 r42] = some H20 ∧
 ∃ (H21 : AH),
 storeCellsv H20 H3.next 6 [.int .i64 r44] = some H21 ∧
 J_1 H21) (
 cond (t13 == 4) (
 FW Ee F_wire_Reader_Count [.pointer r8, .int .i64 2147483647] H5 fun v_10 H22 =>
 ∃ (r42_1 : Int),
 v_10 = .int .i64 r42_1 ∧
 FW Ee F_wire_Reader_Count [.pointer r8, .int .i64 2147483647] H22 fun v_11 H23 =>
 ∃ (r44_1 : Int),
 v_11 = .int .i64 r44_1 ∧
 ∃ (H24 : AH),
 storeCellsv H23 H3.next 5 [.int .i64 r42_1] = some H24 ∧
 ∃ (H25 : AH),
 storeCellsv H24 H3.next 6 [.int .i64 r44_1] = some H25 ∧
 J_1 H25) (
 cond (t13 == 5) (
 FW Ee F_master_TakeReport [.pointer r8] H5 fun v_12 H26 =>
 ∃ (r50_Job : Int) (r50_Epoch : Int) (r50_Step : Int) (r50_Phase : Int) (r50_Worker : Int) (r50_Err : Int) (r50_Sent : Int) (r50_Active : Int) (r50_Many : Int) (r50_Agg_Has_0 : Bool) (r50_Agg_Has_1 : Bool) (r50_Agg_Has_2 : Bool) (r50_Agg_Has_3 : Bool) (r50_Agg_Has_4 : Bool) (r50_Agg_V_0 : Int) (r50_Agg_V_1 : Int) (r50_Agg_V_2 : Int) (r50_Agg_V_3 : Int) (r50_Agg_V_4 : Int) (r50_Valuesa : Option Addr) (r50_Valuesl : Nat) (r50_Valuesc : Nat),
 v_12 = .agg ⟨[.int .i64 r50_Job, .int .i64 r50_Epoch, .int .i64 r50_Step, .int .i64 r50_Phase, .int .i64 r50_Worker, .int .i64 r50_Err, .int .i64 r50_Sent, .int .i64 r50_Active, .int .i64 r50_Many, .bool r50_Agg_Has_0, .bool r50_Agg_Has_1, .bool r50_Agg_Has_2, .bool r50_Agg_Has_3, .bool r50_Agg_Has_4, .int .i64 r50_Agg_V_0, .int .i64 r50_Agg_V_1, .int .i64 r50_Agg_V_2, .int .i64 r50_Agg_V_3, .int .i64 r50_Agg_V_4, .slice r50_Valuesa r50_Valuesl r50_Valuesc]⟩ ∧
 ∃ (H27 : AH),
 storeCellsv H26 H3.next 7 [.int .i64 r50_Job, .int .i64 r50_Epoch, .int .i64 r50_Step, .int .i64 r50_Phase, .int .i64 r50_Worker, .int .i64 r50_Err, .int .i64 r50_Sent, .int .i64 r50_Active, .int .i64 r50_Many, .bool r50_Agg_Has_0, .bool r50_Agg_Has_1, .bool r50_Agg_Has_2, .bool r50_Agg_Has_3, .bool r50_Agg_Has_4, .int .i64 r50_Agg_V_0, .int .i64 r50_Agg_V_1, .int .i64 r50_Agg_V_2, .int .i64 r50_Agg_V_3, .int .i64 r50_Agg_V_4, .slice r50_Valuesa r50_Valuesl r50_Valuesc] = some H27 ∧
 J_1 H27) (
 FW Ee F_wire_Reader_Fail [.pointer r8, .int .i64 172] H5 fun v_13 H28 =>
 v_13 = .tuple ⟨[]⟩ ∧
 J_1 H28)))))) ∧
 ∀ (H29 : AH),
 J_1 H29 →
 FW Ee F_wire_Reader_End [.pointer r8] H29 fun v_14 H30 =>
 ∃ (r53 : Int),
 v_14 = .int .i64 r53 ∧
 cond (r53 != 0) (
 ∃ (H31 : AH),
 storeCellsv H30 H.next 0 [.int .i64 0, .int .i64 0, .int .i64 0, .string ⟨⟨[]⟩⟩, .int .i64 0, .int .i64 0, .int .i64 0, .int .i64 0, .int .i64 0, .int .i64 0, .int .i64 0, .int .i64 0, .int .i64 0, .int .i64 0, .int .i64 0, .int .i64 0, .bool false, .bool false, .bool false, .bool false, .bool false, .int .i64 0, .int .i64 0, .int .i64 0, .int .i64 0, .int .i64 0, .slice none 0 0] = some H31 ∧
 ∃ (r2_Kind : Int) (r2_Session : Int) (r2_Seq : Int) (r2_S : List UInt8) (r2_ID : Int) (r2_Worker : Int) (r2_Life : Int) (r2_Report_Job : Int) (r2_Report_Epoch : Int) (r2_Report_Step : Int) (r2_Report_Phase : Int) (r2_Report_Worker : Int) (r2_Report_Err : Int) (r2_Report_Sent : Int) (r2_Report_Active : Int) (r2_Report_Many : Int) (r2_Report_Agg_Has_0 : Bool) (r2_Report_Agg_Has_1 : Bool) (r2_Report_Agg_Has_2 : Bool) (r2_Report_Agg_Has_3 : Bool) (r2_Report_Agg_Has_4 : Bool) (r2_Report_Agg_V_0 : Int) (r2_Report_Agg_V_1 : Int) (r2_Report_Agg_V_2 : Int) (r2_Report_Agg_V_3 : Int) (r2_Report_Agg_V_4 : Int) (r2_Report_Valuesa : Option Addr) (r2_Report_Valuesl : Nat) (r2_Report_Valuesc : Nat),
 H31.cell H.next (0 + 0) = some (.int .i64 r2_Kind) ∧
 H31.cell H.next (0 + 1) = some (.int .i64 r2_Session) ∧
 H31.cell H.next (0 + 2) = some (.int .i64 r2_Seq) ∧
 H31.cell H.next (0 + 3) = some (.string ⟨⟨r2_S⟩⟩) ∧
 H31.cell H.next (0 + 4) = some (.int .i64 r2_ID) ∧
 H31.cell H.next (0 + 5) = some (.int .i64 r2_Worker) ∧
 H31.cell H.next (0 + 6) = some (.int .i64 r2_Life) ∧
 H31.cell H.next (0 + 7) = some (.int .i64 r2_Report_Job) ∧
 H31.cell H.next (0 + 8) = some (.int .i64 r2_Report_Epoch) ∧
 H31.cell H.next (0 + 9) = some (.int .i64 r2_Report_Step) ∧
 H31.cell H.next (0 + 10) = some (.int .i64 r2_Report_Phase) ∧
 H31.cell H.next (0 + 11) = some (.int .i64 r2_Report_Worker) ∧
 H31.cell H.next (0 + 12) = some (.int .i64 r2_Report_Err) ∧
 H31.cell H.next (0 + 13) = some (.int .i64 r2_Report_Sent) ∧
 H31.cell H.next (0 + 14) = some (.int .i64 r2_Report_Active) ∧
 H31.cell H.next (0 + 15) = some (.int .i64 r2_Report_Many) ∧
 H31.cell H.next (0 + 16) = some (.bool r2_Report_Agg_Has_0) ∧
 H31.cell H.next (0 + 17) = some (.bool r2_Report_Agg_Has_1) ∧
 H31.cell H.next (0 + 18) = some (.bool r2_Report_Agg_Has_2) ∧
 H31.cell H.next (0 + 19) = some (.bool r2_Report_Agg_Has_3) ∧
 H31.cell H.next (0 + 20) = some (.bool r2_Report_Agg_Has_4) ∧
 H31.cell H.next (0 + 21) = some (.int .i64 r2_Report_Agg_V_0) ∧
 H31.cell H.next (0 + 22) = some (.int .i64 r2_Report_Agg_V_1) ∧
 H31.cell H.next (0 + 23) = some (.int .i64 r2_Report_Agg_V_2) ∧
 H31.cell H.next (0 + 24) = some (.int .i64 r2_Report_Agg_V_3) ∧
 H31.cell H.next (0 + 25) = some (.int .i64 r2_Report_Agg_V_4) ∧
 H31.cell H.next (0 + 26) = some (.slice r2_Report_Valuesa r2_Report_Valuesl r2_Report_Valuesc) ∧
 Q (.tuple ⟨[.agg ⟨[.int .i64 r2_Kind, .int .i64 r2_Session, .int .i64 r2_Seq, .string ⟨⟨r2_S⟩⟩, .int .i64 r2_ID, .int .i64 r2_Worker, .int .i64 r2_Life, .int .i64 r2_Report_Job, .int .i64 r2_Report_Epoch, .int .i64 r2_Report_Step, .int .i64 r2_Report_Phase, .int .i64 r2_Report_Worker, .int .i64 r2_Report_Err, .int .i64 r2_Report_Sent, .int .i64 r2_Report_Active, .int .i64 r2_Report_Many, .bool r2_Report_Agg_Has_0, .bool r2_Report_Agg_Has_1, .bool r2_Report_Agg_Has_2, .bool r2_Report_Agg_Has_3, .bool r2_Report_Agg_Has_4, .int .i64 r2_Report_Agg_V_0, .int .i64 r2_Report_Agg_V_1, .int .i64 r2_Report_Agg_V_2, .int .i64 r2_Report_Agg_V_3, .int .i64 r2_Report_Agg_V_4, .slice r2_Report_Valuesa r2_Report_Valuesl r2_Report_Valuesc]⟩, .int .i64 r53]⟩) H31) (
 ∃ (t58_Kind : Int) (t58_Session : Int) (t58_Seq : Int) (t58_S : List UInt8) (t58_ID : Int) (t58_Worker : Int) (t58_Life : Int) (t58_Report_Job : Int) (t58_Report_Epoch : Int) (t58_Report_Step : Int) (t58_Report_Phase : Int) (t58_Report_Worker : Int) (t58_Report_Err : Int) (t58_Report_Sent : Int) (t58_Report_Active : Int) (t58_Report_Many : Int) (t58_Report_Agg_Has_0 : Bool) (t58_Report_Agg_Has_1 : Bool) (t58_Report_Agg_Has_2 : Bool) (t58_Report_Agg_Has_3 : Bool) (t58_Report_Agg_Has_4 : Bool) (t58_Report_Agg_V_0 : Int) (t58_Report_Agg_V_1 : Int) (t58_Report_Agg_V_2 : Int) (t58_Report_Agg_V_3 : Int) (t58_Report_Agg_V_4 : Int) (t58_Report_Valuesa : Option Addr) (t58_Report_Valuesl : Nat) (t58_Report_Valuesc : Nat),
 H30.cell H3.next (0 + 0) = some (.int .i64 t58_Kind) ∧
 H30.cell H3.next (0 + 1) = some (.int .i64 t58_Session) ∧
 H30.cell H3.next (0 + 2) = some (.int .i64 t58_Seq) ∧
 H30.cell H3.next (0 + 3) = some (.string ⟨⟨t58_S⟩⟩) ∧
 H30.cell H3.next (0 + 4) = some (.int .i64 t58_ID) ∧
 H30.cell H3.next (0 + 5) = some (.int .i64 t58_Worker) ∧
 H30.cell H3.next (0 + 6) = some (.int .i64 t58_Life) ∧
 H30.cell H3.next (0 + 7) = some (.int .i64 t58_Report_Job) ∧
 H30.cell H3.next (0 + 8) = some (.int .i64 t58_Report_Epoch) ∧
 H30.cell H3.next (0 + 9) = some (.int .i64 t58_Report_Step) ∧
 H30.cell H3.next (0 + 10) = some (.int .i64 t58_Report_Phase) ∧
 H30.cell H3.next (0 + 11) = some (.int .i64 t58_Report_Worker) ∧
 H30.cell H3.next (0 + 12) = some (.int .i64 t58_Report_Err) ∧
 H30.cell H3.next (0 + 13) = some (.int .i64 t58_Report_Sent) ∧
 H30.cell H3.next (0 + 14) = some (.int .i64 t58_Report_Active) ∧
 H30.cell H3.next (0 + 15) = some (.int .i64 t58_Report_Many) ∧
 H30.cell H3.next (0 + 16) = some (.bool t58_Report_Agg_Has_0) ∧
 H30.cell H3.next (0 + 17) = some (.bool t58_Report_Agg_Has_1) ∧
 H30.cell H3.next (0 + 18) = some (.bool t58_Report_Agg_Has_2) ∧
 H30.cell H3.next (0 + 19) = some (.bool t58_Report_Agg_Has_3) ∧
 H30.cell H3.next (0 + 20) = some (.bool t58_Report_Agg_Has_4) ∧
 H30.cell H3.next (0 + 21) = some (.int .i64 t58_Report_Agg_V_0) ∧
 H30.cell H3.next (0 + 22) = some (.int .i64 t58_Report_Agg_V_1) ∧
 H30.cell H3.next (0 + 23) = some (.int .i64 t58_Report_Agg_V_2) ∧
 H30.cell H3.next (0 + 24) = some (.int .i64 t58_Report_Agg_V_3) ∧
 H30.cell H3.next (0 + 25) = some (.int .i64 t58_Report_Agg_V_4) ∧
 H30.cell H3.next (0 + 26) = some (.slice t58_Report_Valuesa t58_Report_Valuesl t58_Report_Valuesc) ∧
 ∃ (H32 : AH),
 storeCellsv H30 H.next 0 [.int .i64 t58_Kind, .int .i64 t58_Session, .int .i64 t58_Seq, .string ⟨⟨t58_S⟩⟩, .int .i64 t58_ID, .int .i64 t58_Worker, .int .i64 t58_Life, .int .i64 t58_Report_Job, .int .i64 t58_Report_Epoch, .int .i64 t58_Report_Step, .int .i64 t58_Report_Phase, .int .i64 t58_Report_Worker, .int .i64 t58_Report_Err, .int .i64 t58_Report_Sent, .int .i64 t58_Report_Active, .int .i64 t58_Report_Many, .bool t58_Report_Agg_Has_0, .bool t58_Report_Agg_Has_1, .bool t58_Report_Agg_Has_2, .bool t58_Report_Agg_Has_3, .bool t58_Report_Agg_Has_4, .int .i64 t58_Report_Agg_V_0, .int .i64 t58_Report_Agg_V_1, .int .i64 t58_Report_Agg_V_2, .int .i64 t58_Report_Agg_V_3, .int .i64 t58_Report_Agg_V_4, .slice t58_Report_Valuesa t58_Report_Valuesl t58_Report_Valuesc] = some H32 ∧
 ∃ (r2_Kind_1 : Int) (r2_Session_1 : Int) (r2_Seq_1 : Int) (r2_S_1 : List UInt8) (r2_ID_1 : Int) (r2_Worker_1 : Int) (r2_Life_1 : Int) (r2_Report_Job_1 : Int) (r2_Report_Epoch_1 : Int) (r2_Report_Step_1 : Int) (r2_Report_Phase_1 : Int) (r2_Report_Worker_1 : Int) (r2_Report_Err_1 : Int) (r2_Report_Sent_1 : Int) (r2_Report_Active_1 : Int) (r2_Report_Many_1 : Int) (r2_Report_Agg_Has_0_1 : Bool) (r2_Report_Agg_Has_1_1 : Bool) (r2_Report_Agg_Has_2_1 : Bool) (r2_Report_Agg_Has_3_1 : Bool) (r2_Report_Agg_Has_4_1 : Bool) (r2_Report_Agg_V_0_1 : Int) (r2_Report_Agg_V_1_1 : Int) (r2_Report_Agg_V_2_1 : Int) (r2_Report_Agg_V_3_1 : Int) (r2_Report_Agg_V_4_1 : Int) (r2_Report_Valuesa_1 : Option Addr) (r2_Report_Valuesl_1 : Nat) (r2_Report_Valuesc_1 : Nat),
 H32.cell H.next (0 + 0) = some (.int .i64 r2_Kind_1) ∧
 H32.cell H.next (0 + 1) = some (.int .i64 r2_Session_1) ∧
 H32.cell H.next (0 + 2) = some (.int .i64 r2_Seq_1) ∧
 H32.cell H.next (0 + 3) = some (.string ⟨⟨r2_S_1⟩⟩) ∧
 H32.cell H.next (0 + 4) = some (.int .i64 r2_ID_1) ∧
 H32.cell H.next (0 + 5) = some (.int .i64 r2_Worker_1) ∧
 H32.cell H.next (0 + 6) = some (.int .i64 r2_Life_1) ∧
 H32.cell H.next (0 + 7) = some (.int .i64 r2_Report_Job_1) ∧
 H32.cell H.next (0 + 8) = some (.int .i64 r2_Report_Epoch_1) ∧
 H32.cell H.next (0 + 9) = some (.int .i64 r2_Report_Step_1) ∧
 H32.cell H.next (0 + 10) = some (.int .i64 r2_Report_Phase_1) ∧
 H32.cell H.next (0 + 11) = some (.int .i64 r2_Report_Worker_1) ∧
 H32.cell H.next (0 + 12) = some (.int .i64 r2_Report_Err_1) ∧
 H32.cell H.next (0 + 13) = some (.int .i64 r2_Report_Sent_1) ∧
 H32.cell H.next (0 + 14) = some (.int .i64 r2_Report_Active_1) ∧
 H32.cell H.next (0 + 15) = some (.int .i64 r2_Report_Many_1) ∧
 H32.cell H.next (0 + 16) = some (.bool r2_Report_Agg_Has_0_1) ∧
 H32.cell H.next (0 + 17) = some (.bool r2_Report_Agg_Has_1_1) ∧
 H32.cell H.next (0 + 18) = some (.bool r2_Report_Agg_Has_2_1) ∧
 H32.cell H.next (0 + 19) = some (.bool r2_Report_Agg_Has_3_1) ∧
 H32.cell H.next (0 + 20) = some (.bool r2_Report_Agg_Has_4_1) ∧
 H32.cell H.next (0 + 21) = some (.int .i64 r2_Report_Agg_V_0_1) ∧
 H32.cell H.next (0 + 22) = some (.int .i64 r2_Report_Agg_V_1_1) ∧
 H32.cell H.next (0 + 23) = some (.int .i64 r2_Report_Agg_V_2_1) ∧
 H32.cell H.next (0 + 24) = some (.int .i64 r2_Report_Agg_V_3_1) ∧
 H32.cell H.next (0 + 25) = some (.int .i64 r2_Report_Agg_V_4_1) ∧
 H32.cell H.next (0 + 26) = some (.slice r2_Report_Valuesa_1 r2_Report_Valuesl_1 r2_Report_Valuesc_1) ∧
 Q (.tuple ⟨[.agg ⟨[.int .i64 r2_Kind_1, .int .i64 r2_Session_1, .int .i64 r2_Seq_1, .string ⟨⟨r2_S_1⟩⟩, .int .i64 r2_ID_1, .int .i64 r2_Worker_1, .int .i64 r2_Life_1, .int .i64 r2_Report_Job_1, .int .i64 r2_Report_Epoch_1, .int .i64 r2_Report_Step_1, .int .i64 r2_Report_Phase_1, .int .i64 r2_Report_Worker_1, .int .i64 r2_Report_Err_1, .int .i64 r2_Report_Sent_1, .int .i64 r2_Report_Active_1, .int .i64 r2_Report_Many_1, .bool r2_Report_Agg_Has_0_1, .bool r2_Report_Agg_Has_1_1, .bool r2_Report_Agg_Has_2_1, .bool r2_Report_Agg_Has_3_1, .bool r2_Report_Agg_Has_4_1, .int .i64 r2_Report_Agg_V_0_1, .int .i64 r2_Report_Agg_V_1_1, .int .i64 r2_Report_Agg_V_2_1, .int .i64 r2_Report_Agg_V_3_1, .int .i64 r2_Report_Agg_V_4_1, .slice r2_Report_Valuesa_1 r2_Report_Valuesl_1 r2_Report_Valuesc_1]⟩, .int .i64 0]⟩) H32)
set_option maxRecDepth 100000 in
theorem fw_master_DecodeCommand {s0 : List UInt8} {H : AH} {Q : Value → AH → Prop} (h : VC_master_DecodeCommand s0 H Q) : FW Ee F_master_DecodeCommand [.string ⟨⟨s0⟩⟩] H Q := by
  have e : VC_master_DecodeCommand s0 H Q = wpF Ee ⟨[0], []⟩ F_master_DecodeCommand [.string ⟨⟨s0⟩⟩] H Q := by kernel_rfl
  letI : Sy := sy0
  exact wpF_sound (Eq.mp e h)
/-- cohort/sess.Take -/
def VC_sess_Take (r0b : Nat) (H : AH) (Q : Value → AH → Prop) : Prop :=
 FW Ee F_sess_New [] H fun v H1 =>
 ∃ (r6 : Option Addr),
 v = .pointer r6 ∧
 FW Ee F_wire_Reader_Count [.pointer (some ⟨r0b, 0, none⟩), .int .i64 64] H1 fun v_1 H2 =>
 ∃ (r8 : Int),
 v_1 = .int .i64 r8 ∧
 ∃ (Inv : Nat → Int → AH → Prop),
 (
 ∃ (n_1 : Nat),
 Inv n_1 r8 H2) ∧
 ∀ (n : Nat),
 ∀ (n4 : Int) (H3 : AH),
 Inv n n4 H3 →
 cond (decide (n4 > 0)) (
 FW Ee F_wire_Reader_Err [.pointer (some ⟨r0b, 0, none⟩)] H3 fun v_2 H4 =>
 ∃ (r13 : Int),
 v_2 = .int .i64 r13 ∧
 cond (r13 == 0) (
 FW Ee F_wire_Reader_Signed [.pointer (some ⟨r0b, 0, none⟩)] H4 fun v_3 H5 =>
 ∃ (r19 : Int),
 v_3 = .int .i64 r19 ∧
 grd r6.isSome (
 grd r6.isSome (
 ∃ (t23 : Option Nat),
 H5.cell ((adr r6).block) ((adr r6).off) = some (.map t23) ∧
 FW Ee F_wire_Reader_Count [.pointer (some ⟨r0b, 0, none⟩), .int .i64 2147483647] H5 fun v_4 H6 =>
 ∃ (r26 : Int),
 v_4 = .int .i64 r26 ∧
 FW Ee F_wire_Reader_Text [.pointer (some ⟨r0b, 0, none⟩)] H6 fun v_5 H7 =>
 ∃ (r28 : List UInt8),
 v_5 = .string ⟨⟨r28⟩⟩ ∧
 ∃ (H8 : AH),
 updatev Ee H7 T_M_int64_sess_last (.map t23) (.int .i64 r19) (.agg ⟨[.int .i64 r26, .string ⟨⟨r28⟩⟩]⟩) = some H8 ∧
 H7.cell ((adr r6).block) ((adr r6).off) = some (.map t23) ∧
 H6.cell ((adr r6).block) ((adr r6).off) = some (.map t23) ∧
 ∀ (t17 : Int),
 t17 = IntKind.i64.wrap (n4 - 1) →
 ∃ (m : Nat),
 m < n ∧
 Inv m t17 H8))) (
 FW Ee F_wire_Reader_Err [.pointer (some ⟨r0b, 0, none⟩)] H4 fun v_6 H9 =>
 ∃ (r31 : Int),
 v_6 = .int .i64 r31 ∧
 cond (r31 != 0) (
 Q (.pointer none) H9) (
 Q (.pointer r6) H9))) (
 FW Ee F_wire_Reader_Err [.pointer (some ⟨r0b, 0, none⟩)] H3 fun v_7 H10 =>
 ∃ (r31_1 : Int),
 v_7 = .int .i64 r31_1 ∧
 cond (r31_1 != 0) (
 Q (.pointer none) H10) (
 Q (.pointer r6) H10))
set_option maxRecDepth 100000 in
theorem fw_sess_Take {r0b : Nat} {H : AH} {Q : Value → AH → Prop} (h : VC_sess_Take r0b H Q) : FW Ee F_sess_Take [.pointer (some ⟨r0b, 0, none⟩)] H Q := by
  have e : VC_sess_Take r0b H Q = wpF Ee ⟨[], []⟩ F_sess_Take [.pointer (some ⟨r0b, 0, none⟩)] H Q := by kernel_rfl
  letI : Sy := sy0
  exact wpF_sound (Eq.mp e h)
/-- cohort/run.Decode -/
def VC_run_Decode (s0 : List UInt8) (H : AH) (Q : Value → AH → Prop) : Prop :=
 ∀ (H1 : AH),
 H1 = H.new (.cells [.int .i64 0, .int .i64 0, .int .i64 0, .slice none 0 0] 0) →
 FW Ee F_wire_NewReader [.string ⟨⟨s0⟩⟩] H1 fun v H2 =>
 ∃ (r9 : Option Addr),
 v = .pointer r9 ∧
 FW Ee F_wire_Reader_Count [.pointer r9, .int .i64 2] H2 fun v_1 H3 =>
 ∃ (r11 : Int),
 v_1 = .int .i64 r11 ∧
 FW Ee F_wire_Reader_Count [.pointer r9, .int .i64 1000] H3 fun v_2 H4 =>
 ∃ (r13 : Int),
 v_2 = .int .i64 r13 ∧
 FW Ee F_wire_Reader_Count [.pointer r9, .int .i64 1000] H4 fun v_3 H5 =>
 ∃ (r15 : Int),
 v_3 = .int .i64 r15 ∧
 ∀ (H6 : AH),
 H6 = H5.new (.cells [.int .i64 0, .int .i64 0, .int .i64 0, .slice none 0 0] 0) →
 ∃ (H7 : AH),
 storeCellsv H6 H5.next 0 [.int .i64 r11, .int .i64 r13, .int .i64 r15, .slice none 0 0] = some H7 ∧
 FW Ee F_wire_Reader_Count [.pointer r9, .int .i64 256] H7 fun v_4 H8 =>
 ∃ (r18 : Int),
 v_4 = .int .i64 r18 ∧
 ∃ (Inv : Nat → Int → AH → Prop),
 (
 ∃ (n_1 : Nat),
 Inv n_1 r18 H8) ∧
 ∀ (n : Nat),
 ∀ (n6 : Int) (H9 : AH),
 Inv n n6 H9 →
 cond (decide (n6 > 0)) (
 FW Ee F_wire_Reader_Err [.pointer r9] H9 fun v_5 H10 =>
 ∃ (r23 : Int),
 v_5 = .int .i64 r23 ∧
 cond (r23 == 0) (
 ∃ (t29a : Option Addr) (t29l : Nat) (t29c : Nat),
 H10.cell H5.next 3 = some (.slice t29a t29l t29c) ∧
 FW Ee F_wire_Reader_Signed [.pointer r9] H10 fun v_6 H11 =>
 ∃ (r31 : Int),
 v_6 = .int .i64 r31 ∧
 FW Ee F_wire_Reader_Signed [.pointer r9] H11 fun v_7 H12 =>
 ∃ (r33 : Int),
 v_7 = .int .i64 r33 ∧
 ∀ (H13 : AH),
 H13 = H12.new (.cells [.int .i64 r31, .int .i64 r33] 0) →
 ∃ (t36a : Option Addr) (t36l : Nat) (t36c : Nat) (H14 : AH),
 apnd H13 2 16 t29a t29l t29c (.slice (some ⟨H12.next, 0, none⟩) 1 2) = some (.slice t36a t36l t36c, H14) ∧
 ∃ (H15 : AH),
 storeCellsv H14 H5.next 3 [.slice t36a t36l t36c] = some H15 ∧
 H13.cell H5.next 3 = some (.slice t29a t29l t29c) ∧
 H11.cell H5.next 3 = some (.slice t29a t29l t29c) ∧
 ∀ (t27 : Int),
 t27 = IntKind.i64.wrap (n6 - 1) →
 ∃ (m : Nat),
 m < n ∧
 Inv m t27 H15) (
 FW Ee F_wire_Reader_End [.pointer r9] H10 fun v_8 H16 =>
 ∃ (r39 : Int),
 v_8 = .int .i64 r39 ∧
 cond (r39 != 0) (
 ∃ (H17 : AH),
 storeCellsv H16 H.next 0 [.int .i64 0, .int .i64 0, .int .i64 0, .slice none 0 0] = some H17 ∧
 ∃ (r2_Kind : Int) (r2_Err : Int) (r2_Steps : Int) (r2_Valuesa : Option Addr) (r2_Valuesl : Nat) (r2_Valuesc : Nat),
 H17.cell H.next (0 + 0) = some (.int .i64 r2_Kind) ∧
 H17.cell H.next (0 + 1) = some (.int .i64 r2_Err) ∧
 H17.cell H.next (0 + 2) = some (.int .i64 r2_Steps) ∧
 H17.cell H.next (0 + 3) = some (.slice r2_Valuesa r2_Valuesl r2_Valuesc) ∧
 Q (.tuple ⟨[.agg ⟨[.int .i64 r2_Kind, .int .i64 r2_Err, .int .i64 r2_Steps, .slice r2_Valuesa r2_Valuesl r2_Valuesc]⟩, .int .i64 r39]⟩) H17) (
 ∃ (t44_Kind : Int) (t44_Err : Int) (t44_Steps : Int) (t44_Valuesa : Option Addr) (t44_Valuesl : Nat) (t44_Valuesc : Nat),
 H16.cell H5.next (0 + 0) = some (.int .i64 t44_Kind) ∧
 H16.cell H5.next (0 + 1) = some (.int .i64 t44_Err) ∧
 H16.cell H5.next (0 + 2) = some (.int .i64 t44_Steps) ∧
 H16.cell H5.next (0 + 3) = some (.slice t44_Valuesa t44_Valuesl t44_Valuesc) ∧
 ∃ (H18 : AH),
 storeCellsv H16 H.next 0 [.int .i64 t44_Kind, .int .i64 t44_Err, .int .i64 t44_Steps, .slice t44_Valuesa t44_Valuesl t44_Valuesc] = some H18 ∧
 ∃ (r2_Kind_1 : Int) (r2_Err_1 : Int) (r2_Steps_1 : Int) (r2_Valuesa_1 : Option Addr) (r2_Valuesl_1 : Nat) (r2_Valuesc_1 : Nat),
 H18.cell H.next (0 + 0) = some (.int .i64 r2_Kind_1) ∧
 H18.cell H.next (0 + 1) = some (.int .i64 r2_Err_1) ∧
 H18.cell H.next (0 + 2) = some (.int .i64 r2_Steps_1) ∧
 H18.cell H.next (0 + 3) = some (.slice r2_Valuesa_1 r2_Valuesl_1 r2_Valuesc_1) ∧
 Q (.tuple ⟨[.agg ⟨[.int .i64 r2_Kind_1, .int .i64 r2_Err_1, .int .i64 r2_Steps_1, .slice r2_Valuesa_1 r2_Valuesl_1 r2_Valuesc_1]⟩, .int .i64 0]⟩) H18))) (
 FW Ee F_wire_Reader_End [.pointer r9] H9 fun v_9 H19 =>
 ∃ (r39_1 : Int),
 v_9 = .int .i64 r39_1 ∧
 cond (r39_1 != 0) (
 ∃ (H20 : AH),
 storeCellsv H19 H.next 0 [.int .i64 0, .int .i64 0, .int .i64 0, .slice none 0 0] = some H20 ∧
 ∃ (r2_Kind_2 : Int) (r2_Err_2 : Int) (r2_Steps_2 : Int) (r2_Valuesa_2 : Option Addr) (r2_Valuesl_2 : Nat) (r2_Valuesc_2 : Nat),
 H20.cell H.next (0 + 0) = some (.int .i64 r2_Kind_2) ∧
 H20.cell H.next (0 + 1) = some (.int .i64 r2_Err_2) ∧
 H20.cell H.next (0 + 2) = some (.int .i64 r2_Steps_2) ∧
 H20.cell H.next (0 + 3) = some (.slice r2_Valuesa_2 r2_Valuesl_2 r2_Valuesc_2) ∧
 Q (.tuple ⟨[.agg ⟨[.int .i64 r2_Kind_2, .int .i64 r2_Err_2, .int .i64 r2_Steps_2, .slice r2_Valuesa_2 r2_Valuesl_2 r2_Valuesc_2]⟩, .int .i64 r39_1]⟩) H20) (
 ∃ (t44_Kind_1 : Int) (t44_Err_1 : Int) (t44_Steps_1 : Int) (t44_Valuesa_1 : Option Addr) (t44_Valuesl_1 : Nat) (t44_Valuesc_1 : Nat),
 H19.cell H5.next (0 + 0) = some (.int .i64 t44_Kind_1) ∧
 H19.cell H5.next (0 + 1) = some (.int .i64 t44_Err_1) ∧
 H19.cell H5.next (0 + 2) = some (.int .i64 t44_Steps_1) ∧
 H19.cell H5.next (0 + 3) = some (.slice t44_Valuesa_1 t44_Valuesl_1 t44_Valuesc_1) ∧
 ∃ (H21 : AH),
 storeCellsv H19 H.next 0 [.int .i64 t44_Kind_1, .int .i64 t44_Err_1, .int .i64 t44_Steps_1, .slice t44_Valuesa_1 t44_Valuesl_1 t44_Valuesc_1] = some H21 ∧
 ∃ (r2_Kind_3 : Int) (r2_Err_3 : Int) (r2_Steps_3 : Int) (r2_Valuesa_3 : Option Addr) (r2_Valuesl_3 : Nat) (r2_Valuesc_3 : Nat),
 H21.cell H.next (0 + 0) = some (.int .i64 r2_Kind_3) ∧
 H21.cell H.next (0 + 1) = some (.int .i64 r2_Err_3) ∧
 H21.cell H.next (0 + 2) = some (.int .i64 r2_Steps_3) ∧
 H21.cell H.next (0 + 3) = some (.slice r2_Valuesa_3 r2_Valuesl_3 r2_Valuesc_3) ∧
 Q (.tuple ⟨[.agg ⟨[.int .i64 r2_Kind_3, .int .i64 r2_Err_3, .int .i64 r2_Steps_3, .slice r2_Valuesa_3 r2_Valuesl_3 r2_Valuesc_3]⟩, .int .i64 0]⟩) H21))
set_option maxRecDepth 100000 in
theorem fw_run_Decode {s0 : List UInt8} {H : AH} {Q : Value → AH → Prop} (h : VC_run_Decode s0 H Q) : FW Ee F_run_Decode [.string ⟨⟨s0⟩⟩] H Q := by
  have e : VC_run_Decode s0 H Q = wpF Ee ⟨[], []⟩ F_run_Decode [.string ⟨⟨s0⟩⟩] H Q := by kernel_rfl
  letI : Sy := sy0
  exact wpF_sound (Eq.mp e h)
/-- cohort/master.takeJob -/
def VC_master_takeJob (r0b : Nat) (H : AH) (Q : Value → AH → Prop) : Prop :=
 FW Ee F_wire_Reader_Count [.pointer (some ⟨r0b, 0, none⟩), .int .i64 2147483647] H fun v H1 =>
 ∃ (r13 : Int),
 v = .int .i64 r13 ∧
 FW Ee F_run_TakeJob [.pointer (some ⟨r0b, 0, none⟩)] H1 fun v_1 H2 =>
 ∃ (r15_Program : List UInt8) (r15_Graph_Verticesa : Option Addr) (r15_Graph_Verticesl : Nat) (r15_Graph_Verticesc : Nat) (r15_Paramsa : Option Addr) (r15_Paramsl : Nat) (r15_Paramsc : Nat) (r15_Steps : Int) (r15_Sent : Int) (r15_Parts : Int),
 v_1 = .agg ⟨[.string ⟨⟨r15_Program⟩⟩, .slice r15_Graph_Verticesa r15_Graph_Verticesl r15_Graph_Verticesc, .slice r15_Paramsa r15_Paramsl r15_Paramsc, .int .i64 r15_Steps, .int .i64 r15_Sent, .int .i64 r15_Parts]⟩ ∧
 FW Ee F_wire_Reader_Count [.pointer (some ⟨r0b, 0, none⟩), .int .i64 4] H2 fun v_2 H3 =>
 ∃ (r17 : Int),
 v_2 = .int .i64 r17 ∧
 ∀ (H4 : AH),
 H4 = H3.new (.cells [.int .i64 r13, .string ⟨⟨r15_Program⟩⟩, .slice r15_Graph_Verticesa r15_Graph_Verticesl r15_Graph_Verticesc, .slice r15_Paramsa r15_Paramsl r15_Paramsc, .int .i64 r15_Steps, .int .i64 r15_Sent, .int .i64 r15_Parts, .int .i64 r17, .int .i64 0, .int .i64 0, .int .i64 0, .slice none 0 0, .int .i64 0, .int .i64 0, .int .i64 0, .slice none 0 0, .map none, .bool false, .bool false, .bool false, .bool false, .bool false, .int .i64 0, .int .i64 0, .int .i64 0, .int .i64 0, .int .i64 0, .int .i64 0, .bool false, .bool false, .bool false, .bool false, .bool false, .int .i64 0, .int .i64 0, .int .i64 0, .int .i64 0, .int .i64 0, .int .i64 0, .int .i64 0, .bool false, .bool false, .bool false, .bool false, .bool false, .int .i64 0, .int .i64 0, .int .i64 0, .int .i64 0, .int .i64 0] 0) →
 FW Ee F_wire_Reader_Text [.pointer (some ⟨r0b, 0, none⟩)] H4 fun v_3 H5 =>
 ∃ (r22 : List UInt8),
 v_3 = .string ⟨⟨r22⟩⟩ ∧
 FW Ee F_run_Decode [.string ⟨⟨r22⟩⟩] H5 fun v_4 H6 =>
 ∃ (r23_0_Kind : Int) (r23_0_Err : Int) (r23_0_Steps : Int) (r23_0_Valuesa : Option Addr) (r23_0_Valuesl : Nat) (r23_0_Valuesc : Nat) (r23_1 : Int),
 v_4 = .tuple ⟨[.agg ⟨[.int .i64 r23_0_Kind, .int .i64 r23_0_Err, .int .i64 r23_0_Steps, .slice r23_0_Valuesa r23_0_Valuesl r23_0_Valuesc]⟩, .int .i64 r23_1]⟩ ∧
 ∀ (H7 : AH),
 H7 = H6.new (.cells [.int .i64 0, .int .i64 0, .int .i64 0, .slice none 0 0] 0) →
 ∃ (H8 : AH),
 storeCellsv H7 H6.next 0 [.int .i64 r23_0_Kind, .int .i64 r23_0_Err, .int .i64 r23_0_Steps, .slice r23_0_Valuesa r23_0_Valuesl r23_0_Valuesc] = some H8 ∧
 FW Ee F_wire_Reader_Err [.pointer (some ⟨r0b, 0, none⟩)] H8 fun v_5 H9 =>
 ∃ (r27 : Int),
 v_5 = .int .i64 r27 ∧
 ∃ (J_1 : AH → Prop),
 (
 cond (r27 == 0) (
 FW Ee F_wire_Reader_Fail [.pointer (some ⟨r0b, 0, none⟩), .int .i64 r23_1] H9 fun v_6 H10 =>
 v_6 = .tuple ⟨[]⟩ ∧
 J_1 H10) (
 J_1 H9)) ∧
 ∀ (H11 : AH),
 J_1 H11 →
 ∃ (t33_Kind : Int) (t33_Err : Int) (t33_Steps : Int) (t33_Valuesa : Option Addr) (t33_Valuesl : Nat) (t33_Valuesc : Nat),
 H11.cell H6.next (0 + 0) = some (.int .i64 t33_Kind) ∧
 H11.cell H6.next (0 + 1) = some (.int .i64 t33_Err) ∧
 H11.cell H6.next (0 + 2) = some (.int .i64 t33_Steps) ∧
 H11.cell H6.next (0 + 3) = some (.slice t33_Valuesa t33_Valuesl t33_Valuesc) ∧
 ∃ (H12 : AH),
 storeCellsv H11 H3.next 8 [.int .i64 t33_Kind, .int .i64 t33_Err, .int .i64 t33_Steps, .slice t33_Valuesa t33_Valuesl t33_Valuesc] = some H12 ∧
 ∀ (H13 : AH),
 H13 = H12.new (.cells [.pointer (some ⟨H3.next, 12, none⟩), .pointer (some ⟨H3.next, 13, none⟩), .pointer (some ⟨H3.next, 14, none⟩), .pointer (some ⟨H3.next, 27, none⟩), .pointer (some ⟨H3.next, 38, none⟩), .pointer (some ⟨H3.next, 39, none⟩)] 0) →
 ∃ (Inv : Nat → Int → AH → Prop),
 (
 ∃ (n_1 : Nat),
 Inv n_1 0 H13) ∧
 ∀ (n : Nat),
 ∀ (t56 : Int) (H14 : AH),
 Inv n t56 H14 →
 cond (decide (t56 < (((6 : Nat) : Int)))) (
 (0 : Int) ≤ t56 ∧
 (t56 : Int) < ((6 : Nat) : Int) ∧
 ∃ (t59 : Option Addr),
 H14.cell H12.next (0 + (t56 : Int).toNat * 1) = some (.pointer t59) ∧
 FW Ee F_wire_Reader_Count [.pointer (some ⟨r0b, 0, none⟩), .int .i64 2147483647] H14 fun v_7 H15 =>
 ∃ (r62 : Int),
 v_7 = .int .i64 r62 ∧
 grd t59.isSome (
 grd t59.isSome (
 ∃ (H16 : AH),
 storeCellsv H15 ((adr t59).block) ((adr t59).off) [.int .i64 r62] = some H16 ∧
 ∀ (t64 : Int),
 t64 = IntKind.i64.wrap (t56 + 1) →
 ∃ (m : Nat),
 m < n ∧
 Inv m t64 H16))) (
 FW Ee F_wire_Reader_Count [.pointer (some ⟨r0b, 0, none⟩), .int .i64 16] H14 fun v_8 H17 =>
 ∃ (r66 : Int),
 v_8 = .int .i64 r66 ∧
 ∃ (J_2 : Int → AH → Prop),
 (
 ∃ (Inv_1 : Nat → Int → AH → Prop),
 (
 ∃ (n_3 : Nat),
 Inv_1 n_3 r66 H17) ∧
 ∀ (n_2 : Nat),
 ∀ (n6 : Int) (H18 : AH),
 Inv_1 n_2 n6 H18 →
 cond (decide (n6 > 0)) (
 FW Ee F_wire_Reader_Err [.pointer (some ⟨r0b, 0, none⟩)] H18 fun v_9 H19 =>
 ∃ (r71 : Int),
 v_9 = .int .i64 r71 ∧
 cond (r71 == 0) (
 ∃ (t80a : Option Addr) (t80l : Nat) (t80c : Nat),
 H19.cell H3.next 15 = some (.slice t80a t80l t80c) ∧
 FW Ee F_wire_Reader_Count [.pointer (some ⟨r0b, 0, none⟩), .int .i64 2147483647] H19 fun v_10 H20 =>
 ∃ (r82 : Int),
 v_10 = .int .i64 r82 ∧
 ∀ (H21 : AH),
 H21 = H20.new (.cells [.int .i64 r82] 0) →
 ∃ (t84a : Option Addr) (t84l : Nat) (t84c : Nat) (H22 : AH),
 apnd H21 1 8 t80a t80l t80c (.slice (some ⟨H20.next, 0, none⟩) 1 2) = some (.slice t84a t84l t84c, H22) ∧
 ∃ (H23 : AH),
 storeCellsv H22 H3.next 15 [.slice t84a t84l t84c] = some H23 ∧
 H21.cell H3.next 15 = some (.slice t80a t80l t80c) ∧
 ∀ (t75 : Int),
 t75 = IntKind.i64.wrap (n6 - 1) →
 ∃ (m_1 : Nat),
 m_1 < n_2 ∧
 Inv_1 m_1 t75 H23) (
 J_2 n6 H19)) (
 J_2 n6 H18)) ∧
 ∀ (n6_1 : Int) (H24 : AH),
 J_2 n6_1 H24 →
 ∀ (H25 : AH),
 H25 = H24.new (.cells [.pointer (some ⟨H3.next, 17, none⟩), .pointer (some ⟨H3.next, 28, none⟩), .pointer (some ⟨H3.next, 40, none⟩)] 0) →
 ∃ (Inv_2 : Nat → Int → AH → Prop),
 (
 ∃ (n_5 : Nat),
 Inv_2 n_5 0 H25) ∧
 ∀ (n_4 : Nat),
 ∀ (t98 : Int) (H26 : AH),
 Inv_2 n_4 t98 H26 →
 cond (decide (t98 < (((3 : Nat) : Int)))) (
 (0 : Int) ≤ t98 ∧
 (t98 : Int) < ((3 : Nat) : Int) ∧
 ∃ (t101 : Option Addr),
 H26.cell H24.next (0 + (t98 : Int).toNat * 1) = some (.pointer t101) ∧
 FW Ee F_agg_Take [.pointer (some ⟨r0b, 0, none⟩)] H26 fun v_11 H27 =>
 ∃ (r104_Has_0 : Bool) (r104_Has_1 : Bool) (r104_Has_2 : Bool) (r104_Has_3 : Bool) (r104_Has_4 : Bool) (r104_V_0 : Int) (r104_V_1 : Int) (r104_V_2 : Int) (r104_V_3 : Int) (r104_V_4 : Int),
 v_11 = .agg ⟨[.bool r104_Has_0, .bool r104_Has_1, .bool r104_Has_2, .bool r104_Has_3, .bool r104_Has_4, .int .i64 r104_V_0, .int .i64 r104_V_1, .int .i64 r104_V_2, .int .i64 r104_V_3, .int .i64 r104_V_4]⟩ ∧
 grd t101.isSome (
 grd t101.isSome (
 ∃ (H28 : AH),
 storeCellsv H27 ((adr t101).block) ((adr t101).off) [.bool r104_Has_0, .bool r104_Has_1, .bool r104_Has_2, .bool r104_Has_3, .bool r104_Has_4, .int .i64 r104_V_0, .int .i64 r104_V_1, .int .i64 r104_V_2, .int .i64 r104_V_3, .int .i64 r104_V_4] = some H28 ∧
 ∀ (t106 : Int),
 t106 = IntKind.i64.wrap (t98 + 1) →
 ∃ (m_2 : Nat),
 m_2 < n_4 ∧
 Inv_2 m_2 t106 H28))) (
 ∃ (t110 : Int),
 H26.cell H3.next 7 = some (.int .i64 t110) ∧
 ∃ (J_3 : AH → Prop),
 (
 cond (t110 == 2) (
 ∀ (H29 : AH),
 H29 = H26.new (.map [] 0) →
 ∃ (H30 : AH),
 storeCellsv H29 H3.next 16 [.map (some H26.next)] = some H30 ∧
 J_3 H30) (
 J_3 H26)) ∧
 ∀ (H31 : AH),
 J_3 H31 →
 FW Ee F_wire_Reader_Count [.pointer (some ⟨r0b, 0, none⟩), .int .i64 64] H31 fun v_12 H32 =>
 ∃ (r117 : Int),
 v_12 = .int .i64 r117 ∧
 ∃ (J_4 : Int → AH → Prop),
 (
 ∃ (Inv_3 : Nat → Int → AH → Prop),
 (
 ∃ (n_7 : Nat),
 Inv_3 n_7 r117 H32) ∧
 ∀ (n_6 : Nat),
 ∀ (n6_2 : Int) (H33 : AH),
 Inv_3 n_6 n6_2 H33 →
 cond (decide (n6_2 > 0)) (
 FW Ee F_wire_Reader_Err [.pointer (some ⟨r0b, 0, none⟩)] H33 fun v_13 H34 =>
 ∃ (r122 : Int),
 v_13 = .int .i64 r122 ∧
 cond (r122 == 0) (
 FW Ee F_master_TakeReport [.pointer (some ⟨r0b, 0, none⟩)] H34 fun v_14 H35 =>
 ∃ (r128_Job : Int) (r128_Epoch : Int) (r128_Step : Int) (r128_Phase : Int) (r128_Worker : Int) (r128_Err : Int) (r128_Sent : Int) (r128_Active : Int) (r128_Many : Int) (r128_Agg_Has_0 : Bool) (r128_Agg_Has_1 : Bool) (r128_Agg_Has_2 : Bool) (r128_Agg_Has_3 : Bool) (r128_Agg_Has_4 : Bool) (r128_Agg_V_0 : Int) (r128_Agg_V_1 : Int) (r128_Agg_V_2 : Int) (r128_Agg_V_3 : Int) (r128_Agg_V_4 : Int) (r128_Valuesa : Option Addr) (r128_Valuesl : Nat) (r128_Valuesc : Nat),
 v_14 = .agg ⟨[.int .i64 r128_Job, .int .i64 r128_Epoch, .int .i64 r128_Step, .int .i64 r128_Phase, .int .i64 r128_Worker, .int .i64 r128_Err, .int .i64 r128_Sent, .int .i64 r128_Active, .int .i64 r128_Many, .bool r128_Agg_Has_0, .bool r128_Agg_Has_1, .bool r128_Agg_Has_2, .bool r128_Agg_Has_3, .bool r128_Agg_Has_4, .int .i64 r128_Agg_V_0, .int .i64 r128_Agg_V_1, .int .i64 r128_Agg_V_2, .int .i64 r128_Agg_V_3, .int .i64 r128_Agg_V_4, .slice r128_Valuesa r128_Valuesl r128_Valuesc]⟩ ∧
 ∀ (H36 : AH),
 H36 = H35.new (.cells [.int .i64 0, .int .i64 0, .int .i64 0, .int .i64 0, .int .i64 0, .int .i64 0, .int .i64 0, .int .i64 0, .int .i64 0, .bool false, .bool false, .bool false, .bool false, .bool false, .int .i64 0, .int .i64 0, .int .i64 0, .int .i64 0, .int .i64 0, .slice none 0 0] 0) →
 ∃ (H37 : AH),
 storeCellsv H36 H35.next 0 [.int .i64 r128_Job, .int .i64 r128_Epoch, .int .i64 r128_Step, .int .i64 r128_Phase, .int .i64 r128_Worker, .int .i64 r128_Err, .int .i64 r128_Sent, .int .i64 r128_Active, .int .i64 r128_Many, .bool r128_Agg_Has_0, .bool r128_Agg_Has_1, .bool r128_Agg_Has_2, .bool r128_Agg_Has_3, .bool r128_Agg_Has_4, .int .i64 r128_Agg_V_0, .int .i64 r128_Agg_V_1, .int .i64 r128_Agg_V_2, .int .i64 r128_Agg_V_3, .int .i64 r128_Agg_V_4, .slice r128_Valuesa r128_Valuesl r128_Valuesc] = some H37 ∧
 ∃ (t132 : Option Nat),
 H37.cell H3.next 16 = some (.map t132) ∧
 ∃ (J_5 : AH → Prop),
 (
 cond (!t132.isNone) (
 ∃ (t137 : Option Nat),
 H37.cell H3.next 16 = some (.map t137) ∧
 ∃ (t139 : Int),
 H37.cell H35.next 4 = some (.int .i64 t139) ∧
 ∃ (t140_Job : Int) (t140_Epoch : Int) (t140_Step : Int) (t140_Phase : Int) (t140_Worker : Int) (t140_Err : Int) (t140_Sent : Int) (t140_Active : Int) (t140_Many : Int) (t140_Agg_Has_0 : Bool) (t140_Agg_Has_1 : Bool) (t140_Agg_Has_2 : Bool) (t140_Agg_Has_3 : Bool) (t140_Agg_Has_4 : Bool) (t140_Agg_V_0 : Int) (t140_Agg_V_1 : Int) (t140_Agg_V_2 : Int) (t140_Agg_V_3 : Int) (t140_Agg_V_4 : Int) (t140_Valuesa : Option Addr) (t140_Valuesl : Nat) (t140_Valuesc : Nat),
 H37.cell H35.next (0 + 0) = some (.int .i64 t140_Job) ∧
 H37.cell H35.next (0 + 1) = some (.int .i64 t140_Epoch) ∧
 H37.cell H35.next (0 + 2) = some (.int .i64 t140_Step) ∧
 H37.cell H35.next (0 + 3) = some (.int .i64 t140_Phase) ∧
 H37.cell H35.next (0 + 4) = some (.int .i64 t140_Worker) ∧
 H37.cell H35.next (0 + 5) = some (.int .i64 t140_Err) ∧
 H37.cell H35.next (0 + 6) = some (.int .i64 t140_Sent) ∧
 H37.cell H35.next (0 + 7) = some (.int .i64 t140_Active) ∧
 H37.cell H35.next (0 + 8) = some (.int .i64 t140_Many) ∧
 H37.cell H35.next (0 + 9) = some (.bool t140_Agg_Has_0) ∧
 H37.cell H35.next (0 + 10) = some (.bool t140_Agg_Has_1) ∧
 H37.cell H35.next (0 + 11) = some (.bool t140_Agg_Has_2) ∧
 H37.cell H35.next (0 + 12) = some (.bool t140_Agg_Has_3) ∧
 H37.cell H35.next (0 + 13) = some (.bool t140_Agg_Has_4) ∧
 H37.cell H35.next (0 + 14) = some (.int .i64 t140_Agg_V_0) ∧
 H37.cell H35.next (0 + 15) = some (.int .i64 t140_Agg_V_1) ∧
 H37.cell H35.next (0 + 16) = some (.int .i64 t140_Agg_V_2) ∧
 H37.cell H35.next (0 + 17) = some (.int .i64 t140_Agg_V_3) ∧
 H37.cell H35.next (0 + 18) = some (.int .i64 t140_Agg_V_4) ∧
 H37.cell H35.next (0 + 19) = some (.slice t140_Valuesa t140_Valuesl t140_Valuesc) ∧
 ∃ (H38 : AH),
 updatev Ee H37 T_M_int_api_Report (.map t137) (.int .i64 t139) (.agg ⟨[.int .i64 t140_Job, .int .i64 t140_Epoch, .int .i64 t140_Step, .int .i64 t140_Phase, .int .i64 t140_Worker, .int .i64 t140_Err, .int .i64 t140_Sent, .int .i64 t140_Active, .int .i64 t140_Many, .bool t140_Agg_Has_0, .bool t140_Agg_Has_1, .bool t140_Agg_Has_2, .bool t140_Agg_Has_3, .bool t140_Agg_Has_4, .int .i64 t140_Agg_V_0, .int .i64 t140_Agg_V_1, .int .i64 t140_Agg_V_2, .int .i64 t140_Agg_V_3, .int .i64 t140_Agg_V_4, .slice t140_Valuesa t140_Valuesl t140_Valuesc]⟩) = some H38 ∧
 J_5 H38) (
 J_5 H37)) ∧
 ∀ (H39 : AH),
 J_5 H39 →
 ∀ (t126 : Int),
 t126 = IntKind.i64.wrap (n6_2 - 1) →
 ∃ (m_3 : Nat),
 m_3 < n_6 ∧
 Inv_3 m_3 t126 H39) (
 J_4 n6_2 H34)) (
 J_4 n6_2 H33)) ∧
 ∀ (n6_3 : Int) (H40 : AH),
 J_4 n6_3 H40 →
 Q (.pointer (some ⟨H3.next, 0, none⟩)) H40))
set_option maxRecDepth 100000 in
theorem fw_master_takeJob {r0b : Nat} {H : AH} {Q : Value → AH → Prop} (h : VC_master_takeJob r0b H Q) : FW Ee F_master_takeJob [.pointer (some ⟨r0b, 0, none⟩)] H Q := by
  have e : VC_master_takeJob r0b H Q = wpF Ee ⟨[2, 6], [28, 111, 133]⟩ F_master_takeJob [.pointer (some ⟨r0b, 0, none⟩)] H Q := by kernel_rfl
  letI : Sy := sy0
  exact wpF_sound (Eq.mp e h)
/-- cohort/master.Decode -/
def VC_master_Decode (s0 : List UInt8) (H : AH) (Q : Value → AH → Prop) : Prop :=
 FW Ee F_wire_NewReader [.string ⟨⟨s0⟩⟩] H fun v H1 =>
 ∃ (r12 : Option Addr),
 v = .pointer r12 ∧
 FW Ee F_master_New [] H1 fun v_1 H2 =>
 ∃ (r13 : Option Addr),
 v_1 = .pointer r13 ∧
 FW Ee F_sess_Take [.pointer r12] H2 fun v_2 H3 =>
 ∃ (r16 : Option Addr),
 v_2 = .pointer r16 ∧
 grd r13.isSome (
 grd r13.isSome (
 ∃ (H4 : AH),
 storeCellsv H3 ((adr r13).block) ((adr r13).off) [.pointer r16] = some H4 ∧
 FW Ee F_wire_Reader_Count [.pointer r12, .int .i64 2147483647] H4 fun v_3 H5 =>
 ∃ (r22 : Int),
 v_3 = .int .i64 r22 ∧
 FW Ee F_wire_Reader_Count [.pointer r12, .int .i64 2147483647] H5 fun v_4 H6 =>
 ∃ (r24 : Int),
 v_4 = .int .i64 r24 ∧
 grd r13.isSome (
 grd r13.isSome (
 ∃ (H7 : AH),
 storeCellsv H6 ((adr r13).block) ((adr r13).off + 3) [.int .i64 r22] = some H7 ∧
 grd r13.isSome (
 grd r13.isSome (
 ∃ (H8 : AH),
 storeCellsv H7 ((adr r13).block) ((adr r13).off + 4) [.int .i64 r24] = some H8 ∧
 FW Ee F_wire_Reader_Count [.pointer r12, .int .i64 64] H8 fun v_5 H9 =>
 ∃ (r30 : Int),
 v_5 = .int .i64 r30 ∧
 ∃ (J_1 : Int → AH → Prop),
 (
 ∃ (Inv : Nat → Int → AH → Prop),
 (
 ∃ (n_1 : Nat),
 Inv n_1 r30 H9) ∧
 ∀ (n : Nat),
 ∀ (n6 : Int) (H10 : AH),
 Inv n n6 H10 →
 cond (decide (n6 > 0)) (
 FW Ee F_wire_Reader_Err [.pointer r12] H10 fun v_6 H11 =>
 ∃ (r35 : Int),
 v_6 = .int .i64 r35 ∧
 cond (r35 == 0) (
 FW Ee F_wire_Reader_Count [.pointer r12, .int .i64 2147483647] H11 fun v_7 H12 =>
 ∃ (r41 : Int),
 v_7 = .int .i64 r41 ∧
 grd r13.isSome (
 grd r13.isSome (
 ∃ (t45 : Option Nat),
 H12.cell ((adr r13).block) ((adr r13).off + 2) = some (.map t45) ∧
 FW Ee F_wire_Reader_Count [.pointer r12, .int .i64 2147483647] H12 fun v_8 H13 =>
 ∃ (r48 : Int),
 v_8 = .int .i64 r48 ∧
 ∃ (H14 : AH),
 updatev Ee H13 T_M_int_int (.map t45) (.int .i64 r41) (.int .i64 r48) = some H14 ∧
 H13.cell ((adr r13).block) ((adr r13).off + 2) = some (.map t45) ∧
 ∀ (t39 : Int),
 t39 = IntKind.i64.wrap (n6 - 1) →
 ∃ (m : Nat),
 m < n ∧
 Inv m t39 H14))) (
 J_1 n6 H11)) (
 J_1 n6 H10)) ∧
 ∀ (n6_1 : Int) (H15 : AH),
 J_1 n6_1 H15 →
 FW Ee F_wire_Reader_Count [.pointer r12, .int .i64 64] H15 fun v_9 H16 =>
 ∃ (r50 : Int),
 v_9 = .int .i64 r50 ∧
 ∃ (J_2 : Int → AH → Prop),
 (
 ∃ (Inv_1 : Nat → Int → AH → Prop),
 (
 ∃ (n_3 : Nat),
 Inv_1 n_3 r50 H16) ∧
 ∀ (n_2 : Nat),
 ∀ (n8 : Int) (H17 : AH),
 Inv_1 n_2 n8 H17 →
 cond (decide (n8 > 0)) (
 FW Ee F_wire_Reader_Err [.pointer r12] H17 fun v_10 H18 =>
 ∃ (r55 : Int),
 v_10 = .int .i64 r55 ∧
 cond (r55 == 0) (
 FW Ee F_master_takeJob [.pointer r12] H18 fun v_11 H19 =>
 ∃ (r61 : Option Addr),
 v_11 = .pointer r61 ∧
 grd r13.isSome (
 grd r13.isSome (
 ∃ (t65 : Option Nat),
 H19.cell ((adr r13).block) ((adr r13).off + 1) = some (.map t65) ∧
 grd r61.isSome (
 grd r61.isSome (
 ∃ (t69 : Int),
 H19.cell ((adr r61).block) ((adr r61).off) = some (.int .i64 t69) ∧
 ∃ (H20 : AH),
 updatev Ee H19 T_M_int_P_master_job (.map t65) (.int .i64 t69) (.pointer r61) = some H20 ∧
 ∀ (t59 : Int),
 t59 = IntKind.i64.wrap (n8 - 1) →
 ∃ (m_1 : Nat),
 m_1 < n_2 ∧
 Inv_1 m_1 t59 H20))))) (
 J_2 n8 H18)) (
 J_2 n8 H17)) ∧
 ∀ (n8_1 : Int) (H21 : AH),
 J_2 n8_1 H21 →
 FW Ee F_wire_Reader_End [.pointer r12] H21 fun v_12 H22 =>
 ∃ (r72 : Int),
 v_12 = .int .i64 r72 ∧
 cond (r72 != 0) (
 Q (.tuple ⟨[.pointer none, .int .i64 r72]⟩) H22) (
 Q (.tuple ⟨[.pointer r13, .int .i64 0]⟩) H22)))))))
set_option maxRecDepth 100000 in
theorem fw_master_Decode {s0 : List UInt8} {H : AH} {Q : Value → AH → Prop} (h : VC_master_Decode s0 H Q) : FW Ee F_master_Decode [.string ⟨⟨s0⟩⟩] H Q := by
  have e : VC_master_Decode s0 H Q = wpF Ee ⟨[0, 2], []⟩ F_master_Decode [.string ⟨⟨s0⟩⟩] H Q := by kernel_rfl
  letI : Sy := sy0
  exact wpF_sound (Eq.mp e h)
end Go.Proofs.Cx

namespace Go.Proofs.Cx
open Go Go.Ev
set_option linter.unusedVariables false
set_option maxRecDepth 100000
set_option maxHeartbeats 8000000
/-- what stands behind MasterBytes' commands -/
def TailMB (s1 : List UInt8) (t4 : Bool) (Hx : AH) (Q : Value → AH → Prop) : Prop :=
  FW Ee F_master_DecodeCommand [.string ⟨⟨s1⟩⟩] Hx fun v_3 H8 =>
    ∃ (r173_0_Kind : Int) (r173_0_Session : Int) (r173_0_Seq : Int) (r173_0_S : List UInt8) (r173_0_ID : Int) (r173_0_Worker : Int) (r173_0_Life : Int) (r173_0_Report_Job : Int) (r173_0_Report_Epoch : Int) (r173_0_Report_Step : Int) (r173_0_Report_Phase : Int) (r173_0_Report_Worker : Int) (r173_0_Report_Err : Int) (r173_0_Report_Sent : Int) (r173_0_Report_Active : Int) (r173_0_Report_Many : Int) (r173_0_Report_Agg_Has_0 : Bool) (r173_0_Report_Agg_Has_1 : Bool) (r173_0_Report_Agg_Has_2 : Bool) (r173_0_Report_Agg_Has_3 : Bool) (r173_0_Report_Agg_Has_4 : Bool) (r173_0_Report_Agg_V_0 : Int) (r173_0_Report_Agg_V_1 : Int) (r173_0_Report_Agg_V_2 : Int) (r173_0_Report_Agg_V_3 : Int) (r173_0_Report_Agg_V_4 : Int) (r173_0_Report_Valuesa : Option Addr) (r173_0_Report_Valuesl : Nat) (r173_0_Report_Valuesc : Nat) (r173_1 : Int),
    v_3 = .tuple ⟨[.agg ⟨[.int .i64 r173_0_Kind, .int .i64 r173_0_Session, .int .i64 r173_0_Seq, .string ⟨⟨r173_0_S⟩⟩, .int .i64 r173_0_ID, .int .i64 r173_0_Worker, .int .i64 r173_0_Life, .int .i64 r173_0_Report_Job, .int .i64 r173_0_Report_Epoch, .int .i64 r173_0_Report_Step, .int .i64 r173_0_Report_Phase, .int .i64 r173_0_Report_Worker, .int .i64 r173_0_Report_Err, .int .i64 r173_0_Report_Sent, .int .i64 r173_0_Report_Active, .int .i64 r173_0_Report_Many, .bool r173_0_Report_Agg_Has_0, .bool r173_0_Report_Agg_Has_1, .bool r173_0_Report_Agg_Has_2, .bool r173_0_Report_Agg_Has_3, .bool r173_0_Report_Agg_Has_4, .int .i64 r173_0_Report_Agg_V_0, .int .i64 r173_0_Report_Agg_V_1, .int .i64 r173_0_Report_Agg_V_2, .int .i64 r173_0_Report_Agg_V_3, .int .i64 r173_0_Report_Agg_V_4, .slice r173_0_Report_Valuesa r173_0_Report_Valuesl r173_0_Report_Valuesc]⟩, .int .i64 r173_1]⟩ ∧
    ∀ (H9 : AH),
    H9 = H8.new (.cells [.int .i64 0, .int .i64 0, .int .i64 0, .string ⟨⟨[]⟩⟩, .int .i64 0, .int .i64 0, .int .i64 0, .int .i64 0, .int .i64 0, .int .i64 0, .int .i64 0, .int .i64 0, .int .i64 0, .int .i64 0, .int .i64 0, .int .i64 0, .bool false, .bool false, .bool false, .bool false, .bool false, .int .i64 0, .int .i64 0, .int .i64 0, .int .i64 0, .int .i64 0, .slice none 0 0] 0) →
    ∃ (H10 : AH),
    storeCellsv H9 H8.next 0 [.int .i64 r173_0_Kind, .int .i64 r173_0_Session, .int .i64 r173_0_Seq, .string ⟨⟨r173_0_S⟩⟩, .int .i64 r173_0_ID, .int .i64 r173_0_Worker, .int .i64 r173_0_Life, .int .i64 r173_0_Report_Job, .int .i64 r173_0_Report_Epoch, .int .i64 r173_0_Report_Step, .int .i64 r173_0_Report_Phase, .int .i64 r173_0_Report_Worker, .int .i64 r173_0_Report_Err, .int .i64 r173_0_Report_Sent, .int .i64 r173_0_Report_Active, .int .i64 r173_0_Report_Many, .bool r173_0_Report_Agg_Has_0, .bool r173_0_Report_Agg_Has_1, .bool r173_0_Report_Agg_Has_2, .bool r173_0_Report_Agg_Has_3, .bool r173_0_Report_Agg_Has_4, .int .i64 r173_0_Report_Agg_V_0, .int .i64 r173_0_Report_Agg_V_1, .int .i64 r173_0_Report_Agg_V_2, .int .i64 r173_0_Report_Agg_V_3, .int .i64 r173_0_Report_Agg_V_4, .slice r173_0_Report_Valuesa r173_0_Report_Valuesl r173_0_Report_Valuesc] = some H10 ∧
    ∃ (J_2 : Bool → AH → Prop),
    (
      cond (r173_1 == 0) (
        ∃ (t179_Kind : Int) (t179_Session : Int) (t179_Seq : Int) (t179_S : List UInt8) (t179_ID : Int) (t179_Worker : Int) (t179_Life : Int) (t179_Report_Job : Int) (t179_Report_Epoch : Int) (t179_Report_Step : Int) (t179_Report_Phase : Int) (t179_Report_Worker : Int) (t179_Report_Err : Int) (t179_Report_Sent : Int) (t179_Report_Active : Int) (t179_Report_Many : Int) (t179_Report_Agg_Has_0 : Bool) (t179_Report_Agg_Has_1 : Bool) (t179_Report_Agg_Has_2 : Bool) (t179_Report_Agg_Has_3 : Bool) (t179_Report_Agg_Has_4 : Bool) (t179_Report_Agg_V_0 : Int) (t179_Report_Agg_V_1 : Int) (t179_Report_Agg_V_2 : Int) (t179_Report_Agg_V_3 : Int) (t179_Report_Agg_V_4 : Int) (t179_Report_Valuesa : Option Addr) (t179_Report_Valuesl : Nat) (t179_Report_Valuesc : Nat),
        H10.cell H8.next (0 + 0) = some (.int .i64 t179_Kind) ∧
        H10.cell H8.next (0 + 1) = some (.int .i64 t179_Session) ∧
        H10.cell H8.next (0 + 2) = some (.int .i64 t179_Seq) ∧
        H10.cell H8.next (0 + 3) = some (.string ⟨⟨t179_S⟩⟩) ∧
        H10.cell H8.next (0 + 4) = some (.int .i64 t179_ID) ∧
        H10.cell H8.next (0 + 5) = some (.int .i64 t179_Worker) ∧
        H10.cell H8.next (0 + 6) = some (.int .i64 t179_Life) ∧
        H10.cell H8.next (0 + 7) = some (.int .i64 t179_Report_Job) ∧
        H10.cell H8.next (0 + 8) = some (.int .i64 t179_Report_Epoch) ∧
        H10.cell H8.next (0 + 9) = some (.int .i64 t179_Report_Step) ∧
        H10.cell H8.next (0 + 10) = some (.int .i64 t179_Report_Phase) ∧
        H10.cell H8.next (0 + 11) = some (.int .i64 t179_Report_Worker) ∧
        H10.cell H8.next (0 + 12) = some (.int .i64 t179_Report_Err) ∧
        H10.cell H8.next (0 + 13) = some (.int .i64 t179_Report_Sent) ∧
        H10.cell H8.next (0 + 14) = some (.int .i64 t179_Report_Active) ∧
        H10.cell H8.next (0 + 15) = some (.int .i64 t179_Report_Many) ∧
        H10.cell H8.next (0 + 16) = some (.bool t179_Report_Agg_Has_0) ∧
        H10.cell H8.next (0 + 17) = some (.bool t179_Report_Agg_Has_1) ∧
        H10.cell H8.next (0 + 18) = some (.bool t179_Report_Agg_Has_2) ∧
        H10.cell H8.next (0 + 19) = some (.bool t179_Report_Agg_Has_3) ∧
        H10.cell H8.next (0 + 20) = some (.bool t179_Report_Agg_Has_4) ∧
        H10.cell H8.next (0 + 21) = some (.int .i64 t179_Report_Agg_V_0) ∧
        H10.cell H8.next (0 + 22) = some (.int .i64 t179_Report_Agg_V_1) ∧
        H10.cell H8.next (0 + 23) = some (.int .i64 t179_Report_Agg_V_2) ∧
        H10.cell H8.next (0 + 24) = some (.int .i64 t179_Report_Agg_V_3) ∧
        H10.cell H8.next (0 + 25) = some (.int .i64 t179_Report_Agg_V_4) ∧
        H10.cell H8.next (0 + 26) = some (.slice t179_Report_Valuesa t179_Report_Valuesl t179_Report_Valuesc) ∧
        FW Ee F_master_EncodeCommand [.agg ⟨[.int .i64 t179_Kind, .int .i64 t179_Session, .int .i64 t179_Seq, .string ⟨⟨t179_S⟩⟩, .int .i64 t179_ID, .int .i64 t179_Worker, .int .i64 t179_Life, .int .i64 t179_Report_Job, .int .i64 t179_Report_Epoch, .int .i64 t179_Report_Step, .int .i64 t179_Report_Phase, .int .i64 t179_Report_Worker, .int .i64 t179_Report_Err, .int .i64 t179_Report_Sent, .int .i64 t179_Report_Active, .int .i64 t179_Report_Many, .bool t179_Report_Agg_Has_0, .bool t179_Report_Agg_Has_1, .bool t179_Report_Agg_Has_2, .bool t179_Report_Agg_Has_3, .bool t179_Report_Agg_Has_4, .int .i64 t179_Report_Agg_V_0, .int .i64 t179_Report_Agg_V_1, .int .i64 t179_Report_Agg_V_2, .int .i64 t179_Report_Agg_V_3, .int .i64 t179_Report_Agg_V_4, .slice t179_Report_Valuesa t179_Report_Valuesl t179_Report_Valuesc]⟩] H10 fun v_4 H11 =>
          ∃ (r180_0 : List UInt8) (r180_1 : Int),
          v_4 = .tuple ⟨[.string ⟨⟨r180_0⟩⟩, .int .i64 r180_1]⟩ ∧
          cond (r180_1 != 0) (
            Q (.bool false) H11) (
            cond (!((r180_0 : List UInt8) == s1)) (
              Q (.bool false) H11) (
              J_2 t4 H11))) (
        ∃ (t191 : Int),
        H10.cell H8.next 0 = some (.int .i64 t191) ∧
        cond (t191 != 0) (
          Q (.bool false) H10) (
          J_2 t4 H10))) ∧
    ∀ (t4_1 : Bool) (H12 : AH),
    J_2 t4_1 H12 →
    FW Ee F_master_Decode [.string ⟨⟨s1⟩⟩] H12 fun v_5 H13 =>
      ∃ (r195_0 : Option Addr) (r195_1 : Int),
      v_5 = .tuple ⟨[.pointer r195_0, .int .i64 r195_1]⟩ ∧
      cond (r195_1 != 0) (
        Q (.bool r195_0.isNone) H13) (
        Q (.bool (!r195_0.isNone)) H13)
/-- cohort/cohortlaw17.MasterBytes -/
def VC_cohortlaw17_MasterBytes (c0_Kind : Int) (c0_Session : Int) (c0_Seq : Int) (c0_S : List UInt8) (c0_ID : Int) (c0_Worker : Int) (c0_Life : Int) (c0_Report_Job : Int) (c0_Report_Epoch : Int) (c0_Report_Step : Int) (c0_Report_Phase : Int) (c0_Report_Worker : Int) (c0_Report_Err : Int) (c0_Report_Sent : Int) (c0_Report_Active : Int) (c0_Report_Many : Int) (c0_Report_Agg_Has_0 : Bool) (c0_Report_Agg_Has_1 : Bool) (c0_Report_Agg_Has_2 : Bool) (c0_Report_Agg_Has_3 : Bool) (c0_Report_Agg_Has_4 : Bool) (c0_Report_Agg_V_0 : Int) (c0_Report_Agg_V_1 : Int) (c0_Report_Agg_V_2 : Int) (c0_Report_Agg_V_3 : Int) (c0_Report_Agg_V_4 : Int) (c0_Report_Valuesa : Option Addr) (c0_Report_Valuesl : Nat) (c0_Report_Valuesc : Nat) (s1 : List UInt8) (H : AH) (Q : Value → AH → Prop) : Prop :=
 ∀ (H1 : AH),
 H1 = H.new (.cells [.int .i64 c0_Kind, .int .i64 c0_Session, .int .i64 c0_Seq, .string ⟨⟨c0_S⟩⟩, .int .i64 c0_ID, .int .i64 c0_Worker, .int .i64 c0_Life, .int .i64 c0_Report_Job, .int .i64 c0_Report_Epoch, .int .i64 c0_Report_Step, .int .i64 c0_Report_Phase, .int .i64 c0_Report_Worker, .int .i64 c0_Report_Err, .int .i64 c0_Report_Sent, .int .i64 c0_Report_Active, .int .i64 c0_Report_Many, .bool c0_Report_Agg_Has_0, .bool c0_Report_Agg_Has_1, .bool c0_Report_Agg_Has_2, .bool c0_Report_Agg_Has_3, .bool c0_Report_Agg_Has_4, .int .i64 c0_Report_Agg_V_0, .int .i64 c0_Report_Agg_V_1, .int .i64 c0_Report_Agg_V_2, .int .i64 c0_Report_Agg_V_3, .int .i64 c0_Report_Agg_V_4, .slice c0_Report_Valuesa c0_Report_Valuesl c0_Report_Valuesc] 0) →
 ∃ (t17_Kind : Int) (t17_Session : Int) (t17_Seq : Int) (t17_S : List UInt8) (t17_ID : Int) (t17_Worker : Int) (t17_Life : Int) (t17_Report_Job : Int) (t17_Report_Epoch : Int) (t17_Report_Step : Int) (t17_Report_Phase : Int) (t17_Report_Worker : Int) (t17_Report_Err : Int) (t17_Report_Sent : Int) (t17_Report_Active : Int) (t17_Report_Many : Int) (t17_Report_Agg_Has_0 : Bool) (t17_Report_Agg_Has_1 : Bool) (t17_Report_Agg_Has_2 : Bool) (t17_Report_Agg_Has_3 : Bool) (t17_Report_Agg_Has_4 : Bool) (t17_Report_Agg_V_0 : Int) (t17_Report_Agg_V_1 : Int) (t17_Report_Agg_V_2 : Int) (t17_Report_Agg_V_3 : Int) (t17_Report_Agg_V_4 : Int) (t17_Report_Valuesa : Option Addr) (t17_Report_Valuesl : Nat) (t17_Report_Valuesc : Nat),
 H1.cell H.next (0 + 0) = some (.int .i64 t17_Kind) ∧
 H1.cell H.next (0 + 1) = some (.int .i64 t17_Session) ∧
 H1.cell H.next (0 + 2) = some (.int .i64 t17_Seq) ∧
 H1.cell H.next (0 + 3) = some (.string ⟨⟨t17_S⟩⟩) ∧
 H1.cell H.next (0 + 4) = some (.int .i64 t17_ID) ∧
 H1.cell H.next (0 + 5) = some (.int .i64 t17_Worker) ∧
 H1.cell H.next (0 + 6) = some (.int .i64 t17_Life) ∧
 H1.cell H.next (0 + 7) = some (.int .i64 t17_Report_Job) ∧
 H1.cell H.next (0 + 8) = some (.int .i64 t17_Report_Epoch) ∧
 H1.cell H.next (0 + 9) = some (.int .i64 t17_Report_Step) ∧
 H1.cell H.next (0 + 10) = some (.int .i64 t17_Report_Phase) ∧
 H1.cell H.next (0 + 11) = some (.int .i64 t17_Report_Worker) ∧
 H1.cell H.next (0 + 12) = some (.int .i64 t17_Report_Err) ∧
 H1.cell H.next (0 + 13) = some (.int .i64 t17_Report_Sent) ∧
 H1.cell H.next (0 + 14) = some (.int .i64 t17_Report_Active) ∧
 H1.cell H.next (0 + 15) = some (.int .i64 t17_Report_Many) ∧
 H1.cell H.next (0 + 16) = some (.bool t17_Report_Agg_Has_0) ∧
 H1.cell H.next (0 + 17) = some (.bool t17_Report_Agg_Has_1) ∧
 H1.cell H.next (0 + 18) = some (.bool t17_Report_Agg_Has_2) ∧
 H1.cell H.next (0 + 19) = some (.bool t17_Report_Agg_Has_3) ∧
 H1.cell H.next (0 + 20) = some (.bool t17_Report_Agg_Has_4) ∧
 H1.cell H.next (0 + 21) = some (.int .i64 t17_Report_Agg_V_0) ∧
 H1.cell H.next (0 + 22) = some (.int .i64 t17_Report_Agg_V_1) ∧
 H1.cell H.next (0 + 23) = some (.int .i64 t17_Report_Agg_V_2) ∧
 H1.cell H.next (0 + 24) = some (.int .i64 t17_Report_Agg_V_3) ∧
 H1.cell H.next (0 + 25) = some (.int .i64 t17_Report_Agg_V_4) ∧
 H1.cell H.next (0 + 26) = some (.slice t17_Report_Valuesa t17_Report_Valuesl t17_Report_Valuesc) ∧
 FW Ee F_master_EncodeCommand [.agg ⟨[.int .i64 t17_Kind, .int .i64 t17_Session, .int .i64 t17_Seq, .string ⟨⟨t17_S⟩⟩, .int .i64 t17_ID, .int .i64 t17_Worker, .int .i64 t17_Life, .int .i64 t17_Report_Job, .int .i64 t17_Report_Epoch, .int .i64 t17_Report_Step, .int .i64 t17_Report_Phase, .int .i64 t17_Report_Worker, .int .i64 t17_Report_Err, .int .i64 t17_Report_Sent, .int .i64 t17_Report_Active, .int .i64 t17_Report_Many, .bool t17_Report_Agg_Has_0, .bool t17_Report_Agg_Has_1, .bool t17_Report_Agg_Has_2, .bool t17_Report_Agg_Has_3, .bool t17_Report_Agg_Has_4, .int .i64 t17_Report_Agg_V_0, .int .i64 t17_Report_Agg_V_1, .int .i64 t17_Report_Agg_V_2, .int .i64 t17_Report_Agg_V_3, .int .i64 t17_Report_Agg_V_4, .slice t17_Report_Valuesa t17_Report_Valuesl t17_Report_Valuesc]⟩] H1 fun v H2 =>
 ∃ (r18_0 : List UInt8) (r18_1 : Int),
 v = .tuple ⟨[.string ⟨⟨r18_0⟩⟩, .int .i64 r18_1]⟩ ∧
 FW Ee F_cohortlaw17_awake [] H2 fun v_1 H3 =>
 ∃ (r21 : Bool),
 v_1 = .bool r21 ∧
 cond (!r21) (
 Q (.bool false) H3) (
 ∃ (t27 : Int),
 H3.cell H.next 0 = some (.int .i64 t27) ∧
 cond (decide (t27 ≥ 1)) (
 ∃ (t31 : Int),
 H3.cell H.next 0 = some (.int .i64 t31) ∧
 cond (!((r18_1 == 0) == (decide (t31 ≤ 5)))) (
 Q (.bool false) H3) (
 cond (r18_1 != 0) (
 cond (r18_1 != 172) (
 Q (.bool false) H3) (
 cond (!((r18_0 : List UInt8) == [])) (
 Q (.bool false) H3) (
 cond (r18_1 == 0) (
 ∃ (t52 : Int),
 H3.cell H.next 0 = some (.int .i64 t52) ∧
 cond (decide (t52 < 5)) (
 ∃ (t57 : Int),
 H3.cell H.next 2 = some (.int .i64 t57) ∧
 cond (decide (t57 ≥ 0)) (
 ∃ (t62 : Int),
 H3.cell H.next 2 = some (.int .i64 t62) ∧
 cond (decide (t62 < 2147483648)) (
 ∃ (t67 : Int),
 H3.cell H.next 4 = some (.int .i64 t67) ∧
 cond (decide (t67 ≥ 0)) (
 ∃ (t72 : Int),
 H3.cell H.next 4 = some (.int .i64 t72) ∧
 cond (decide (t72 < 2147483648)) (
 ∃ (t77 : Int),
 H3.cell H.next 5 = some (.int .i64 t77) ∧
 cond (decide (t77 ≥ 0)) (
 ∃ (t82 : Int),
 H3.cell H.next 5 = some (.int .i64 t82) ∧
 cond (decide (t82 < 2147483648)) (
 ∃ (t87 : Int),
 H3.cell H.next 6 = some (.int .i64 t87) ∧
 cond (decide (t87 ≥ 0)) (
 ∃ (t92 : Int),
 H3.cell H.next 6 = some (.int .i64 t92) ∧
 ∃ (J_1 : Bool → AH → Prop),
 (
 cond (decide (t92 < 2147483648)) (
 FW Ee F_master_DecodeCommand [.string ⟨⟨r18_0⟩⟩] H3 fun v_2 H4 =>
 ∃ (r97_0_Kind : Int) (r97_0_Session : Int) (r97_0_Seq : Int) (r97_0_S : List UInt8) (r97_0_ID : Int) (r97_0_Worker : Int) (r97_0_Life : Int) (r97_0_Report_Job : Int) (r97_0_Report_Epoch : Int) (r97_0_Report_Step : Int) (r97_0_Report_Phase : Int) (r97_0_Report_Worker : Int) (r97_0_Report_Err : Int) (r97_0_Report_Sent : Int) (r97_0_Report_Active : Int) (r97_0_Report_Many : Int) (r97_0_Report_Agg_Has_0 : Bool) (r97_0_Report_Agg_Has_1 : Bool) (r97_0_Report_Agg_Has_2 : Bool) (r97_0_Report_Agg_Has_3 : Bool) (r97_0_Report_Agg_Has_4 : Bool) (r97_0_Report_Agg_V_0 : Int) (r97_0_Report_Agg_V_1 : Int) (r97_0_Report_Agg_V_2 : Int) (r97_0_Report_Agg_V_3 : Int) (r97_0_Report_Agg_V_4 : Int) (r97_0_Report_Valuesa : Option Addr) (r97_0_Report_Valuesl : Nat) (r97_0_Report_Valuesc : Nat) (r97_1 : Int),
 v_2 = .tuple ⟨[.agg ⟨[.int .i64 r97_0_Kind, .int .i64 r97_0_Session, .int .i64 r97_0_Seq, .string ⟨⟨r97_0_S⟩⟩, .int .i64 r97_0_ID, .int .i64 r97_0_Worker, .int .i64 r97_0_Life, .int .i64 r97_0_Report_Job, .int .i64 r97_0_Report_Epoch, .int .i64 r97_0_Report_Step, .int .i64 r97_0_Report_Phase, .int .i64 r97_0_Report_Worker, .int .i64 r97_0_Report_Err, .int .i64 r97_0_Report_Sent, .int .i64 r97_0_Report_Active, .int .i64 r97_0_Report_Many, .bool r97_0_Report_Agg_Has_0, .bool r97_0_Report_Agg_Has_1, .bool r97_0_Report_Agg_Has_2, .bool r97_0_Report_Agg_Has_3, .bool r97_0_Report_Agg_Has_4, .int .i64 r97_0_Report_Agg_V_0, .int .i64 r97_0_Report_Agg_V_1, .int .i64 r97_0_Report_Agg_V_2, .int .i64 r97_0_Report_Agg_V_3, .int .i64 r97_0_Report_Agg_V_4, .slice r97_0_Report_Valuesa r97_0_Report_Valuesl r97_0_Report_Valuesc]⟩, .int .i64 r97_1]⟩ ∧
 ∀ (H5 : AH),
 H5 = H4.new (.cells [.int .i64 0, .int .i64 0, .int .i64 0, .string ⟨⟨[]⟩⟩, .int .i64 0, .int .i64 0, .int .i64 0, .int .i64 0, .int .i64 0, .int .i64 0, .int .i64 0, .int .i64 0, .int .i64 0, .int .i64 0, .int .i64 0, .int .i64 0, .bool false, .bool false, .bool false, .bool false, .bool false, .int .i64 0, .int .i64 0, .int .i64 0, .int .i64 0, .int .i64 0, .slice none 0 0] 0) →
 ∃ (H6 : AH),
 storeCellsv H5 H4.next 0 [.int .i64 r97_0_Kind, .int .i64 r97_0_Session, .int .i64 r97_0_Seq, .string ⟨⟨r97_0_S⟩⟩, .int .i64 r97_0_ID, .int .i64 r97_0_Worker, .int .i64 r97_0_Life, .int .i64 r97_0_Report_Job, .int .i64 r97_0_Report_Epoch, .int .i64 r97_0_Report_Step, .int .i64 r97_0_Report_Phase, .int .i64 r97_0_Report_Worker, .int .i64 r97_0_Report_Err, .int .i64 r97_0_Report_Sent, .int .i64 r97_0_Report_Active, .int .i64 r97_0_Report_Many, .bool r97_0_Report_Agg_Has_0, .bool r97_0_Report_Agg_Has_1, .bool r97_0_Report_Agg_Has_2, .bool r97_0_Report_Agg_Has_3, .bool r97_0_Report_Agg_Has_4, .int .i64 r97_0_Report_Agg_V_0, .int .i64 r97_0_Report_Agg_V_1, .int .i64 r97_0_Report_Agg_V_2, .int .i64 r97_0_Report_Agg_V_3, .int .i64 r97_0_Report_Agg_V_4, .slice r97_0_Report_Valuesa r97_0_Report_Valuesl r97_0_Report_Valuesc] = some H6 ∧
 cond (r97_1 != 0) (
 Q (.bool false) H6) (
 ∃ (t104 : Int),
 H6.cell H4.next 0 = some (.int .i64 t104) ∧
 ∃ (t106 : Int),
 H6.cell H.next 0 = some (.int .i64 t106) ∧
 cond (t104 != t106) (
 Q (.bool false) H6) (
 ∃ (t110 : Int),
 H6.cell H.next 0 = some (.int .i64 t110) ∧
 cond (decide (t110 ≤ 2)) (
 ∃ (t114 : Int),
 H6.cell H4.next 1 = some (.int .i64 t114) ∧
 ∃ (t116 : Int),
 H6.cell H.next 1 = some (.int .i64 t116) ∧
 cond (t114 == t116) (
 ∃ (t121 : Int),
 H6.cell H4.next 2 = some (.int .i64 t121) ∧
 ∃ (t123 : Int),
 H6.cell H.next 2 = some (.int .i64 t123) ∧
 cond (t121 == t123) (
 ∃ (t149 : Int),
 H6.cell H.next 0 = some (.int .i64 t149) ∧
 cond (t149 == 1) (
 ∃ (t153 : List UInt8),
 H6.cell H4.next 3 = some (.string ⟨⟨t153⟩⟩) ∧
 ∃ (t155 : List UInt8),
 H6.cell H.next 3 = some (.string ⟨⟨t155⟩⟩) ∧
 cond (!((t153 : List UInt8) == t155)) (
 Q (.bool false) H6) (
 ∃ (t161 : Int),
 H6.cell H.next 0 = some (.int .i64 t161) ∧
 cond (t161 == 2) (
 ∃ (t165 : Int),
 H6.cell H4.next 4 = some (.int .i64 t165) ∧
 ∃ (t167 : Int),
 H6.cell H.next 4 = some (.int .i64 t167) ∧
 cond (t165 != t167) (
 Q (.bool false) H6) (
 J_1 false H6)) (
 J_1 false H6))) (
 ∃ (t161_1 : Int),
 H6.cell H.next 0 = some (.int .i64 t161_1) ∧
 cond (t161_1 == 2) (
 ∃ (t165_1 : Int),
 H6.cell H4.next 4 = some (.int .i64 t165_1) ∧
 ∃ (t167_1 : Int),
 H6.cell H.next 4 = some (.int .i64 t167_1) ∧
 cond (t165_1 != t167_1) (
 Q (.bool false) H6) (
 J_1 false H6)) (
 J_1 false H6))) (
 ∃ (t128 : Int),
 H6.cell H.next 0 = some (.int .i64 t128) ∧
 cond (decide (t128 > 2)) (
 ∃ (t132 : Int),
 H6.cell H4.next 5 = some (.int .i64 t132) ∧
 ∃ (t134 : Int),
 H6.cell H.next 5 = some (.int .i64 t134) ∧
 cond (t132 == t134) (
 ∃ (t139 : Int),
 H6.cell H4.next 6 = some (.int .i64 t139) ∧
 ∃ (t141 : Int),
 H6.cell H.next 6 = some (.int .i64 t141) ∧
 cond (!(t139 == t141)) (
 Q (.bool false) H6) (
 ∃ (t149_1 : Int),
 H6.cell H.next 0 = some (.int .i64 t149_1) ∧
 cond (t149_1 == 1) (
 ∃ (t153_1 : List UInt8),
 H6.cell H4.next 3 = some (.string ⟨⟨t153_1⟩⟩) ∧
 ∃ (t155_1 : List UInt8),
 H6.cell H.next 3 = some (.string ⟨⟨t155_1⟩⟩) ∧
 cond (!((t153_1 : List UInt8) == t155_1)) (
 Q (.bool false) H6) (
 ∃ (t161_2 : Int),
 H6.cell H.next 0 = some (.int .i64 t161_2) ∧
 cond (t161_2 == 2) (
 ∃ (t165_2 : Int),
 H6.cell H4.next 4 = some (.int .i64 t165_2) ∧
 ∃ (t167_2 : Int),
 H6.cell H.next 4 = some (.int .i64 t167_2) ∧
 cond (t165_2 != t167_2) (
 Q (.bool false) H6) (
 J_1 false H6)) (
 J_1 false H6))) (
 ∃ (t161_3 : Int),
 H6.cell H.next 0 = some (.int .i64 t161_3) ∧
 cond (t161_3 == 2) (
 ∃ (t165_3 : Int),
 H6.cell H4.next 4 = some (.int .i64 t165_3) ∧
 ∃ (t167_3 : Int),
 H6.cell H.next 4 = some (.int .i64 t167_3) ∧
 cond (t165_3 != t167_3) (
 Q (.bool false) H6) (
 J_1 false H6)) (
 J_1 false H6)))) (
 Q (.bool false) H6)) (
 Q (.bool false) H6))) (
 ∃ (t128_1 : Int),
 H6.cell H.next 0 = some (.int .i64 t128_1) ∧
 cond (decide (t128_1 > 2)) (
 ∃ (t132_1 : Int),
 H6.cell H4.next 5 = some (.int .i64 t132_1) ∧
 ∃ (t134_1 : Int),
 H6.cell H.next 5 = some (.int .i64 t134_1) ∧
 cond (t132_1 == t134_1) (
 ∃ (t139_1 : Int),
 H6.cell H4.next 6 = some (.int .i64 t139_1) ∧
 ∃ (t141_1 : Int),
 H6.cell H.next 6 = some (.int .i64 t141_1) ∧
 cond (!(t139_1 == t141_1)) (
 Q (.bool false) H6) (
 ∃ (t149_2 : Int),
 H6.cell H.next 0 = some (.int .i64 t149_2) ∧
 cond (t149_2 == 1) (
 ∃ (t153_2 : List UInt8),
 H6.cell H4.next 3 = some (.string ⟨⟨t153_2⟩⟩) ∧
 ∃ (t155_2 : List UInt8),
 H6.cell H.next 3 = some (.string ⟨⟨t155_2⟩⟩) ∧
 cond (!((t153_2 : List UInt8) == t155_2)) (
 Q (.bool false) H6) (
 ∃ (t161_4 : Int),
 H6.cell H.next 0 = some (.int .i64 t161_4) ∧
 cond (t161_4 == 2) (
 ∃ (t165_4 : Int),
 H6.cell H4.next 4 = some (.int .i64 t165_4) ∧
 ∃ (t167_4 : Int),
 H6.cell H.next 4 = some (.int .i64 t167_4) ∧
 cond (t165_4 != t167_4) (
 Q (.bool false) H6) (
 J_1 false H6)) (
 J_1 false H6))) (
 ∃ (t161_5 : Int),
 H6.cell H.next 0 = some (.int .i64 t161_5) ∧
 cond (t161_5 == 2) (
 ∃ (t165_5 : Int),
 H6.cell H4.next 4 = some (.int .i64 t165_5) ∧
 ∃ (t167_5 : Int),
 H6.cell H.next 4 = some (.int .i64 t167_5) ∧
 cond (t165_5 != t167_5) (
 Q (.bool false) H6) (
 J_1 false H6)) (
 J_1 false H6)))) (
 Q (.bool false) H6)) (
 Q (.bool false) H6))) (
 ∃ (t128_2 : Int),
 H6.cell H.next 0 = some (.int .i64 t128_2) ∧
 cond (decide (t128_2 > 2)) (
 ∃ (t132_2 : Int),
 H6.cell H4.next 5 = some (.int .i64 t132_2) ∧
 ∃ (t134_2 : Int),
 H6.cell H.next 5 = some (.int .i64 t134_2) ∧
 cond (t132_2 == t134_2) (
 ∃ (t139_2 : Int),
 H6.cell H4.next 6 = some (.int .i64 t139_2) ∧
 ∃ (t141_2 : Int),
 H6.cell H.next 6 = some (.int .i64 t141_2) ∧
 cond (!(t139_2 == t141_2)) (
 Q (.bool false) H6) (
 ∃ (t149_3 : Int),
 H6.cell H.next 0 = some (.int .i64 t149_3) ∧
 cond (t149_3 == 1) (
 ∃ (t153_3 : List UInt8),
 H6.cell H4.next 3 = some (.string ⟨⟨t153_3⟩⟩) ∧
 ∃ (t155_3 : List UInt8),
 H6.cell H.next 3 = some (.string ⟨⟨t155_3⟩⟩) ∧
 cond (!((t153_3 : List UInt8) == t155_3)) (
 Q (.bool false) H6) (
 ∃ (t161_6 : Int),
 H6.cell H.next 0 = some (.int .i64 t161_6) ∧
 cond (t161_6 == 2) (
 ∃ (t165_6 : Int),
 H6.cell H4.next 4 = some (.int .i64 t165_6) ∧
 ∃ (t167_6 : Int),
 H6.cell H.next 4 = some (.int .i64 t167_6) ∧
 cond (t165_6 != t167_6) (
 Q (.bool false) H6) (
 J_1 false H6)) (
 J_1 false H6))) (
 ∃ (t161_7 : Int),
 H6.cell H.next 0 = some (.int .i64 t161_7) ∧
 cond (t161_7 == 2) (
 ∃ (t165_7 : Int),
 H6.cell H4.next 4 = some (.int .i64 t165_7) ∧
 ∃ (t167_7 : Int),
 H6.cell H.next 4 = some (.int .i64 t167_7) ∧
 cond (t165_7 != t167_7) (
 Q (.bool false) H6) (
 J_1 false H6)) (
 J_1 false H6)))) (
 Q (.bool false) H6)) (
 Q (.bool false) H6))))) (
 J_1 false H3)) ∧
 ∀ (t4 : Bool) (H7 : AH),
 J_1 t4 H7 →
 TailMB s1 t4 H7 Q) (
 ∃ (J_3 : Bool → AH → Prop),
 J_3 false H3 ∧
 ∀ (t4_2 : Bool) (H14 : AH),
 J_3 t4_2 H14 →
 TailMB s1 t4_2 H14 Q)) (
 ∃ (J_5 : Bool → AH → Prop),
 J_5 false H3 ∧
 ∀ (t4_4 : Bool) (H21 : AH),
 J_5 t4_4 H21 →
 TailMB s1 t4_4 H21 Q)) (
 ∃ (J_7 : Bool → AH → Prop),
 J_7 false H3 ∧
 ∀ (t4_6 : Bool) (H28 : AH),
 J_7 t4_6 H28 →
 TailMB s1 t4_6 H28 Q)) (
 ∃ (J_9 : Bool → AH → Prop),
 J_9 false H3 ∧
 ∀ (t4_8 : Bool) (H35 : AH),
 J_9 t4_8 H35 →
 TailMB s1 t4_8 H35 Q)) (
 ∃ (J_11 : Bool → AH → Prop),
 J_11 false H3 ∧
 ∀ (t4_10 : Bool) (H42 : AH),
 J_11 t4_10 H42 →
 TailMB s1 t4_10 H42 Q)) (
 ∃ (J_13 : Bool → AH → Prop),
 J_13 false H3 ∧
 ∀ (t4_12 : Bool) (H49 : AH),
 J_13 t4_12 H49 →
 TailMB s1 t4_12 H49 Q)) (
 ∃ (J_15 : Bool → AH → Prop),
 J_15 false H3 ∧
 ∀ (t4_14 : Bool) (H56 : AH),
 J_15 t4_14 H56 →
 TailMB s1 t4_14 H56 Q)) (
 ∃ (J_17 : Bool → AH → Prop),
 J_17 false H3 ∧
 ∀ (t4_16 : Bool) (H63 : AH),
 J_17 t4_16 H63 →
 TailMB s1 t4_16 H63 Q)) (
 ∃ (J_19 : Bool → AH → Prop),
 J_19 false H3 ∧
 ∀ (t4_18 : Bool) (H70 : AH),
 J_19 t4_18 H70 →
 TailMB s1 t4_18 H70 Q)))) (
 cond (r18_1 == 0) (
 ∃ (t52_1 : Int),
 H3.cell H.next 0 = some (.int .i64 t52_1) ∧
 cond (decide (t52_1 < 5)) (
 ∃ (t57_1 : Int),
 H3.cell H.next 2 = some (.int .i64 t57_1) ∧
 cond (decide (t57_1 ≥ 0)) (
 ∃ (t62_1 : Int),
 H3.cell H.next 2 = some (.int .i64 t62_1) ∧
 cond (decide (t62_1 < 2147483648)) (
 ∃ (t67_1 : Int),
 H3.cell H.next 4 = some (.int .i64 t67_1) ∧
 cond (decide (t67_1 ≥ 0)) (
 ∃ (t72_1 : Int),
 H3.cell H.next 4 = some (.int .i64 t72_1) ∧
 cond (decide (t72_1 < 2147483648)) (
 ∃ (t77_1 : Int),
 H3.cell H.next 5 = some (.int .i64 t77_1) ∧
 cond (decide (t77_1 ≥ 0)) (
 ∃ (t82_1 : Int),
 H3.cell H.next 5 = some (.int .i64 t82_1) ∧
 cond (decide (t82_1 < 2147483648)) (
 ∃ (t87_1 : Int),
 H3.cell H.next 6 = some (.int .i64 t87_1) ∧
 cond (decide (t87_1 ≥ 0)) (
 ∃ (t92_1 : Int),
 H3.cell H.next 6 = some (.int .i64 t92_1) ∧
 ∃ (J_21 : Bool → AH → Prop),
 (
 cond (decide (t92_1 < 2147483648)) (
 FW Ee F_master_DecodeCommand [.string ⟨⟨r18_0⟩⟩] H3 fun v_33 H77 =>
 ∃ (r97_0_Kind_1 : Int) (r97_0_Session_1 : Int) (r97_0_Seq_1 : Int) (r97_0_S_1 : List UInt8) (r97_0_ID_1 : Int) (r97_0_Worker_1 : Int) (r97_0_Life_1 : Int) (r97_0_Report_Job_1 : Int) (r97_0_Report_Epoch_1 : Int) (r97_0_Report_Step_1 : Int) (r97_0_Report_Phase_1 : Int) (r97_0_Report_Worker_1 : Int) (r97_0_Report_Err_1 : Int) (r97_0_Report_Sent_1 : Int) (r97_0_Report_Active_1 : Int) (r97_0_Report_Many_1 : Int) (r97_0_Report_Agg_Has_0_1 : Bool) (r97_0_Report_Agg_Has_1_1 : Bool) (r97_0_Report_Agg_Has_2_1 : Bool) (r97_0_Report_Agg_Has_3_1 : Bool) (r97_0_Report_Agg_Has_4_1 : Bool) (r97_0_Report_Agg_V_0_1 : Int) (r97_0_Report_Agg_V_1_1 : Int) (r97_0_Report_Agg_V_2_1 : Int) (r97_0_Report_Agg_V_3_1 : Int) (r97_0_Report_Agg_V_4_1 : Int) (r97_0_Report_Valuesa_1 : Option Addr) (r97_0_Report_Valuesl_1 : Nat) (r97_0_Report_Valuesc_1 : Nat) (r97_1_1 : Int),
 v_33 = .tuple ⟨[.agg ⟨[.int .i64 r97_0_Kind_1, .int .i64 r97_0_Session_1, .int .i64 r97_0_Seq_1, .string ⟨⟨r97_0_S_1⟩⟩, .int .i64 r97_0_ID_1, .int .i64 r97_0_Worker_1, .int .i64 r97_0_Life_1, .int .i64 r97_0_Report_Job_1, .int .i64 r97_0_Report_Epoch_1, .int .i64 r97_0_Report_Step_1, .int .i64 r97_0_Report_Phase_1, .int .i64 r97_0_Report_Worker_1, .int .i64 r97_0_Report_Err_1, .int .i64 r97_0_Report_Sent_1, .int .i64 r97_0_Report_Active_1, .int .i64 r97_0_Report_Many_1, .bool r97_0_Report_Agg_Has_0_1, .bool r97_0_Report_Agg_Has_1_1, .bool r97_0_Report_Agg_Has_2_1, .bool r97_0_Report_Agg_Has_3_1, .bool r97_0_Report_Agg_Has_4_1, .int .i64 r97_0_Report_Agg_V_0_1, .int .i64 r97_0_Report_Agg_V_1_1, .int .i64 r97_0_Report_Agg_V_2_1, .int .i64 r97_0_Report_Agg_V_3_1, .int .i64 r97_0_Report_Agg_V_4_1, .slice r97_0_Report_Valuesa_1 r97_0_Report_Valuesl_1 r97_0_Report_Valuesc_1]⟩, .int .i64 r97_1_1]⟩ ∧
 ∀ (H78 : AH),
 H78 = H77.new (.cells [.int .i64 0, .int .i64 0, .int .i64 0, .string ⟨⟨[]⟩⟩, .int .i64 0, .int .i64 0, .int .i64 0, .int .i64 0, .int .i64 0, .int .i64 0, .int .i64 0, .int .i64 0, .int .i64 0, .int .i64 0, .int .i64 0, .int .i64 0, .bool false, .bool false, .bool false, .bool false, .bool false, .int .i64 0, .int .i64 0, .int .i64 0, .int .i64 0, .int .i64 0, .slice none 0 0] 0) →
 ∃ (H79 : AH),
 storeCellsv H78 H77.next 0 [.int .i64 r97_0_Kind_1, .int .i64 r97_0_Session_1, .int .i64 r97_0_Seq_1, .string ⟨⟨r97_0_S_1⟩⟩, .int .i64 r97_0_ID_1, .int .i64 r97_0_Worker_1, .int .i64 r97_0_Life_1, .int .i64 r97_0_Report_Job_1, .int .i64 r97_0_Report_Epoch_1, .int .i64 r97_0_Report_Step_1, .int .i64 r97_0_Report_Phase_1, .int .i64 r97_0_Report_Worker_1, .int .i64 r97_0_Report_Err_1, .int .i64 r97_0_Report_Sent_1, .int .i64 r97_0_Report_Active_1, .int .i64 r97_0_Report_Many_1, .bool r97_0_Report_Agg_Has_0_1, .bool r97_0_Report_Agg_Has_1_1, .bool r97_0_Report_Agg_Has_2_1, .bool r97_0_Report_Agg_Has_3_1, .bool r97_0_Report_Agg_Has_4_1, .int .i64 r97_0_Report_Agg_V_0_1, .int .i64 r97_0_Report_Agg_V_1_1, .int .i64 r97_0_Report_Agg_V_2_1, .int .i64 r97_0_Report_Agg_V_3_1, .int .i64 r97_0_Report_Agg_V_4_1, .slice r97_0_Report_Valuesa_1 r97_0_Report_Valuesl_1 r97_0_Report_Valuesc_1] = some H79 ∧
 cond (r97_1_1 != 0) (
 Q (.bool false) H79) (
 ∃ (t104_1 : Int),
 H79.cell H77.next 0 = some (.int .i64 t104_1) ∧
 ∃ (t106_1 : Int),
 H79.cell H.next 0 = some (.int .i64 t106_1) ∧
 cond (t104_1 != t106_1) (
 Q (.bool false) H79) (
 ∃ (t110_1 : Int),
 H79.cell H.next 0 = some (.int .i64 t110_1) ∧
 cond (decide (t110_1 ≤ 2)) (
 ∃ (t114_1 : Int),
 H79.cell H77.next 1 = some (.int .i64 t114_1) ∧
 ∃ (t116_1 : Int),
 H79.cell H.next 1 = some (.int .i64 t116_1) ∧
 cond (t114_1 == t116_1) (
 ∃ (t121_1 : Int),
 H79.cell H77.next 2 = some (.int .i64 t121_1) ∧
 ∃ (t123_1 : Int),
 H79.cell H.next 2 = some (.int .i64 t123_1) ∧
 cond (t121_1 == t123_1) (
 ∃ (t149_4 : Int),
 H79.cell H.next 0 = some (.int .i64 t149_4) ∧
 cond (t149_4 == 1) (
 ∃ (t153_4 : List UInt8),
 H79.cell H77.next 3 = some (.string ⟨⟨t153_4⟩⟩) ∧
 ∃ (t155_4 : List UInt8),
 H79.cell H.next 3 = some (.string ⟨⟨t155_4⟩⟩) ∧
 cond (!((t153_4 : List UInt8) == t155_4)) (
 Q (.bool false) H79) (
 ∃ (t161_8 : Int),
 H79.cell H.next 0 = some (.int .i64 t161_8) ∧
 cond (t161_8 == 2) (
 ∃ (t165_8 : Int),
 H79.cell H77.next 4 = some (.int .i64 t165_8) ∧
 ∃ (t167_8 : Int),
 H79.cell H.next 4 = some (.int .i64 t167_8) ∧
 cond (t165_8 != t167_8) (
 Q (.bool false) H79) (
 J_21 false H79)) (
 J_21 false H79))) (
 ∃ (t161_9 : Int),
 H79.cell H.next 0 = some (.int .i64 t161_9) ∧
 cond (t161_9 == 2) (
 ∃ (t165_9 : Int),
 H79.cell H77.next 4 = some (.int .i64 t165_9) ∧
 ∃ (t167_9 : Int),
 H79.cell H.next 4 = some (.int .i64 t167_9) ∧
 cond (t165_9 != t167_9) (
 Q (.bool false) H79) (
 J_21 false H79)) (
 J_21 false H79))) (
 ∃ (t128_3 : Int),
 H79.cell H.next 0 = some (.int .i64 t128_3) ∧
 cond (decide (t128_3 > 2)) (
 ∃ (t132_3 : Int),
 H79.cell H77.next 5 = some (.int .i64 t132_3) ∧
 ∃ (t134_3 : Int),
 H79.cell H.next 5 = some (.int .i64 t134_3) ∧
 cond (t132_3 == t134_3) (
 ∃ (t139_3 : Int),
 H79.cell H77.next 6 = some (.int .i64 t139_3) ∧
 ∃ (t141_3 : Int),
 H79.cell H.next 6 = some (.int .i64 t141_3) ∧
 cond (!(t139_3 == t141_3)) (
 Q (.bool false) H79) (
 ∃ (t149_5 : Int),
 H79.cell H.next 0 = some (.int .i64 t149_5) ∧
 cond (t149_5 == 1) (
 ∃ (t153_5 : List UInt8),
 H79.cell H77.next 3 = some (.string ⟨⟨t153_5⟩⟩) ∧
 ∃ (t155_5 : List UInt8),
 H79.cell H.next 3 = some (.string ⟨⟨t155_5⟩⟩) ∧
 cond (!((t153_5 : List UInt8) == t155_5)) (
 Q (.bool false) H79) (
 ∃ (t161_10 : Int),
 H79.cell H.next 0 = some (.int .i64 t161_10) ∧
 cond (t161_10 == 2) (
 ∃ (t165_10 : Int),
 H79.cell H77.next 4 = some (.int .i64 t165_10) ∧
 ∃ (t167_10 : Int),
 H79.cell H.next 4 = some (.int .i64 t167_10) ∧
 cond (t165_10 != t167_10) (
 Q (.bool false) H79) (
 J_21 false H79)) (
 J_21 false H79))) (
 ∃ (t161_11 : Int),
 H79.cell H.next 0 = some (.int .i64 t161_11) ∧
 cond (t161_11 == 2) (
 ∃ (t165_11 : Int),
 H79.cell H77.next 4 = some (.int .i64 t165_11) ∧
 ∃ (t167_11 : Int),
 H79.cell H.next 4 = some (.int .i64 t167_11) ∧
 cond (t165_11 != t167_11) (
 Q (.bool false) H79) (
 J_21 false H79)) (
 J_21 false H79)))) (
 Q (.bool false) H79)) (
 Q (.bool false) H79))) (
 ∃ (t128_4 : Int),
 H79.cell H.next 0 = some (.int .i64 t128_4) ∧
 cond (decide (t128_4 > 2)) (
 ∃ (t132_4 : Int),
 H79.cell H77.next 5 = some (.int .i64 t132_4) ∧
 ∃ (t134_4 : Int),
 H79.cell H.next 5 = some (.int .i64 t134_4) ∧
 cond (t132_4 == t134_4) (
 ∃ (t139_4 : Int),
 H79.cell H77.next 6 = some (.int .i64 t139_4) ∧
 ∃ (t141_4 : Int),
 H79.cell H.next 6 = some (.int .i64 t141_4) ∧
 cond (!(t139_4 == t141_4)) (
 Q (.bool false) H79) (
 ∃ (t149_6 : Int),
 H79.cell H.next 0 = some (.int .i64 t149_6) ∧
 cond (t149_6 == 1) (
 ∃ (t153_6 : List UInt8),
 H79.cell H77.next 3 = some (.string ⟨⟨t153_6⟩⟩) ∧
 ∃ (t155_6 : List UInt8),
 H79.cell H.next 3 = some (.string ⟨⟨t155_6⟩⟩) ∧
 cond (!((t153_6 : List UInt8) == t155_6)) (
 Q (.bool false) H79) (
 ∃ (t161_12 : Int),
 H79.cell H.next 0 = some (.int .i64 t161_12) ∧
 cond (t161_12 == 2) (
 ∃ (t165_12 : Int),
 H79.cell H77.next 4 = some (.int .i64 t165_12) ∧
 ∃ (t167_12 : Int),
 H79.cell H.next 4 = some (.int .i64 t167_12) ∧
 cond (t165_12 != t167_12) (
 Q (.bool false) H79) (
 J_21 false H79)) (
 J_21 false H79))) (
 ∃ (t161_13 : Int),
 H79.cell H.next 0 = some (.int .i64 t161_13) ∧
 cond (t161_13 == 2) (
 ∃ (t165_13 : Int),
 H79.cell H77.next 4 = some (.int .i64 t165_13) ∧
 ∃ (t167_13 : Int),
 H79.cell H.next 4 = some (.int .i64 t167_13) ∧
 cond (t165_13 != t167_13) (
 Q (.bool false) H79) (
 J_21 false H79)) (
 J_21 false H79)))) (
 Q (.bool false) H79)) (
 Q (.bool false) H79))) (
 ∃ (t128_5 : Int),
 H79.cell H.next 0 = some (.int .i64 t128_5) ∧
 cond (decide (t128_5 > 2)) (
 ∃ (t132_5 : Int),
 H79.cell H77.next 5 = some (.int .i64 t132_5) ∧
 ∃ (t134_5 : Int),
 H79.cell H.next 5 = some (.int .i64 t134_5) ∧
 cond (t132_5 == t134_5) (
 ∃ (t139_5 : Int),
 H79.cell H77.next 6 = some (.int .i64 t139_5) ∧
 ∃ (t141_5 : Int),
 H79.cell H.next 6 = some (.int .i64 t141_5) ∧
 cond (!(t139_5 == t141_5)) (
 Q (.bool false) H79) (
 ∃ (t149_7 : Int),
 H79.cell H.next 0 = some (.int .i64 t149_7) ∧
 cond (t149_7 == 1) (
 ∃ (t153_7 : List UInt8),
 H79.cell H77.next 3 = some (.string ⟨⟨t153_7⟩⟩) ∧
 ∃ (t155_7 : List UInt8),
 H79.cell H.next 3 = some (.string ⟨⟨t155_7⟩⟩) ∧
 cond (!((t153_7 : List UInt8) == t155_7)) (
 Q (.bool false) H79) (
 ∃ (t161_14 : Int),
 H79.cell H.next 0 = some (.int .i64 t161_14) ∧
 cond (t161_14 == 2) (
 ∃ (t165_14 : Int),
 H79.cell H77.next 4 = some (.int .i64 t165_14) ∧
 ∃ (t167_14 : Int),
 H79.cell H.next 4 = some (.int .i64 t167_14) ∧
 cond (t165_14 != t167_14) (
 Q (.bool false) H79) (
 J_21 false H79)) (
 J_21 false H79))) (
 ∃ (t161_15 : Int),
 H79.cell H.next 0 = some (.int .i64 t161_15) ∧
 cond (t161_15 == 2) (
 ∃ (t165_15 : Int),
 H79.cell H77.next 4 = some (.int .i64 t165_15) ∧
 ∃ (t167_15 : Int),
 H79.cell H.next 4 = some (.int .i64 t167_15) ∧
 cond (t165_15 != t167_15) (
 Q (.bool false) H79) (
 J_21 false H79)) (
 J_21 false H79)))) (
 Q (.bool false) H79)) (
 Q (.bool false) H79))))) (
 J_21 false H3)) ∧
 ∀ (t4_20 : Bool) (H80 : AH),
 J_21 t4_20 H80 →
 TailMB s1 t4_20 H80 Q) (
 ∃ (J_23 : Bool → AH → Prop),
 J_23 false H3 ∧
 ∀ (t4_22 : Bool) (H87 : AH),
 J_23 t4_22 H87 →
 TailMB s1 t4_22 H87 Q)) (
 ∃ (J_25 : Bool → AH → Prop),
 J_25 false H3 ∧
 ∀ (t4_24 : Bool) (H94 : AH),
 J_25 t4_24 H94 →
 TailMB s1 t4_24 H94 Q)) (
 ∃ (J_27 : Bool → AH → Prop),
 J_27 false H3 ∧
 ∀ (t4_26 : Bool) (H101 : AH),
 J_27 t4_26 H101 →
 TailMB s1 t4_26 H101 Q)) (
 ∃ (J_29 : Bool → AH → Prop),
 J_29 false H3 ∧
 ∀ (t4_28 : Bool) (H108 : AH),
 J_29 t4_28 H108 →
 TailMB s1 t4_28 H108 Q)) (
 ∃ (J_31 : Bool → AH → Prop),
 J_31 false H3 ∧
 ∀ (t4_30 : Bool) (H115 : AH),
 J_31 t4_30 H115 →
 TailMB s1 t4_30 H115 Q)) (
 ∃ (J_33 : Bool → AH → Prop),
 J_33 false H3 ∧
 ∀ (t4_32 : Bool) (H122 : AH),
 J_33 t4_32 H122 →
 TailMB s1 t4_32 H122 Q)) (
 ∃ (J_35 : Bool → AH → Prop),
 J_35 false H3 ∧
 ∀ (t4_34 : Bool) (H129 : AH),
 J_35 t4_34 H129 →
 TailMB s1 t4_34 H129 Q)) (
 ∃ (J_37 : Bool → AH → Prop),
 J_37 false H3 ∧
 ∀ (t4_36 : Bool) (H136 : AH),
 J_37 t4_36 H136 →
 TailMB s1 t4_36 H136 Q)) (
 ∃ (J_39 : Bool → AH → Prop),
 J_39 false H3 ∧
 ∀ (t4_38 : Bool) (H143 : AH),
 J_39 t4_38 H143 →
 TailMB s1 t4_38 H143 Q)))) (
 cond (!((r18_1 == 0) == false)) (
 Q (.bool false) H3) (
 cond (r18_1 != 0) (
 cond (r18_1 != 172) (
 Q (.bool false) H3) (
 cond (!((r18_0 : List UInt8) == [])) (
 Q (.bool false) H3) (
 cond (r18_1 == 0) (
 ∃ (t52_2 : Int),
 H3.cell H.next 0 = some (.int .i64 t52_2) ∧
 cond (decide (t52_2 < 5)) (
 ∃ (t57_2 : Int),
 H3.cell H.next 2 = some (.int .i64 t57_2) ∧
 cond (decide (t57_2 ≥ 0)) (
 ∃ (t62_2 : Int),
 H3.cell H.next 2 = some (.int .i64 t62_2) ∧
 cond (decide (t62_2 < 2147483648)) (
 ∃ (t67_2 : Int),
 H3.cell H.next 4 = some (.int .i64 t67_2) ∧
 cond (decide (t67_2 ≥ 0)) (
 ∃ (t72_2 : Int),
 H3.cell H.next 4 = some (.int .i64 t72_2) ∧
 cond (decide (t72_2 < 2147483648)) (
 ∃ (t77_2 : Int),
 H3.cell H.next 5 = some (.int .i64 t77_2) ∧
 cond (decide (t77_2 ≥ 0)) (
 ∃ (t82_2 : Int),
 H3.cell H.next 5 = some (.int .i64 t82_2) ∧
 cond (decide (t82_2 < 2147483648)) (
 ∃ (t87_2 : Int),
 H3.cell H.next 6 = some (.int .i64 t87_2) ∧
 cond (decide (t87_2 ≥ 0)) (
 ∃ (t92_2 : Int),
 H3.cell H.next 6 = some (.int .i64 t92_2) ∧
 ∃ (J_41 : Bool → AH → Prop),
 (
 cond (decide (t92_2 < 2147483648)) (
 FW Ee F_master_DecodeCommand [.string ⟨⟨r18_0⟩⟩] H3 fun v_64 H150 =>
 ∃ (r97_0_Kind_2 : Int) (r97_0_Session_2 : Int) (r97_0_Seq_2 : Int) (r97_0_S_2 : List UInt8) (r97_0_ID_2 : Int) (r97_0_Worker_2 : Int) (r97_0_Life_2 : Int) (r97_0_Report_Job_2 : Int) (r97_0_Report_Epoch_2 : Int) (r97_0_Report_Step_2 : Int) (r97_0_Report_Phase_2 : Int) (r97_0_Report_Worker_2 : Int) (r97_0_Report_Err_2 : Int) (r97_0_Report_Sent_2 : Int) (r97_0_Report_Active_2 : Int) (r97_0_Report_Many_2 : Int) (r97_0_Report_Agg_Has_0_2 : Bool) (r97_0_Report_Agg_Has_1_2 : Bool) (r97_0_Report_Agg_Has_2_2 : Bool) (r97_0_Report_Agg_Has_3_2 : Bool) (r97_0_Report_Agg_Has_4_2 : Bool) (r97_0_Report_Agg_V_0_2 : Int) (r97_0_Report_Agg_V_1_2 : Int) (r97_0_Report_Agg_V_2_2 : Int) (r97_0_Report_Agg_V_3_2 : Int) (r97_0_Report_Agg_V_4_2 : Int) (r97_0_Report_Valuesa_2 : Option Addr) (r97_0_Report_Valuesl_2 : Nat) (r97_0_Report_Valuesc_2 : Nat) (r97_1_2 : Int),
 v_64 = .tuple ⟨[.agg ⟨[.int .i64 r97_0_Kind_2, .int .i64 r97_0_Session_2, .int .i64 r97_0_Seq_2, .string ⟨⟨r97_0_S_2⟩⟩, .int .i64 r97_0_ID_2, .int .i64 r97_0_Worker_2, .int .i64 r97_0_Life_2, .int .i64 r97_0_Report_Job_2, .int .i64 r97_0_Report_Epoch_2, .int .i64 r97_0_Report_Step_2, .int .i64 r97_0_Report_Phase_2, .int .i64 r97_0_Report_Worker_2, .int .i64 r97_0_Report_Err_2, .int .i64 r97_0_Report_Sent_2, .int .i64 r97_0_Report_Active_2, .int .i64 r97_0_Report_Many_2, .bool r97_0_Report_Agg_Has_0_2, .bool r97_0_Report_Agg_Has_1_2, .bool r97_0_Report_Agg_Has_2_2, .bool r97_0_Report_Agg_Has_3_2, .bool r97_0_Report_Agg_Has_4_2, .int .i64 r97_0_Report_Agg_V_0_2, .int .i64 r97_0_Report_Agg_V_1_2, .int .i64 r97_0_Report_Agg_V_2_2, .int .i64 r97_0_Report_Agg_V_3_2, .int .i64 r97_0_Report_Agg_V_4_2, .slice r97_0_Report_Valuesa_2 r97_0_Report_Valuesl_2 r97_0_Report_Valuesc_2]⟩, .int .i64 r97_1_2]⟩ ∧
 ∀ (H151 : AH),
 H151 = H150.new (.cells [.int .i64 0, .int .i64 0, .int .i64 0, .string ⟨⟨[]⟩⟩, .int .i64 0, .int .i64 0, .int .i64 0, .int .i64 0, .int .i64 0, .int .i64 0, .int .i64 0, .int .i64 0, .int .i64 0, .int .i64 0, .int .i64 0, .int .i64 0, .bool false, .bool false, .bool false, .bool false, .bool false, .int .i64 0, .int .i64 0, .int .i64 0, .int .i64 0, .int .i64 0, .slice none 0 0] 0) →
 ∃ (H152 : AH),
 storeCellsv H151 H150.next 0 [.int .i64 r97_0_Kind_2, .int .i64 r97_0_Session_2, .int .i64 r97_0_Seq_2, .string ⟨⟨r97_0_S_2⟩⟩, .int .i64 r97_0_ID_2, .int .i64 r97_0_Worker_2, .int .i64 r97_0_Life_2, .int .i64 r97_0_Report_Job_2, .int .i64 r97_0_Report_Epoch_2, .int .i64 r97_0_Report_Step_2, .int .i64 r97_0_Report_Phase_2, .int .i64 r97_0_Report_Worker_2, .int .i64 r97_0_Report_Err_2, .int .i64 r97_0_Report_Sent_2, .int .i64 r97_0_Report_Active_2, .int .i64 r97_0_Report_Many_2, .bool r97_0_Report_Agg_Has_0_2, .bool r97_0_Report_Agg_Has_1_2, .bool r97_0_Report_Agg_Has_2_2, .bool r97_0_Report_Agg_Has_3_2, .bool r97_0_Report_Agg_Has_4_2, .int .i64 r97_0_Report_Agg_V_0_2, .int .i64 r97_0_Report_Agg_V_1_2, .int .i64 r97_0_Report_Agg_V_2_2, .int .i64 r97_0_Report_Agg_V_3_2, .int .i64 r97_0_Report_Agg_V_4_2, .slice r97_0_Report_Valuesa_2 r97_0_Report_Valuesl_2 r97_0_Report_Valuesc_2] = some H152 ∧
 cond (r97_1_2 != 0) (
 Q (.bool false) H152) (
 ∃ (t104_2 : Int),
 H152.cell H150.next 0 = some (.int .i64 t104_2) ∧
 ∃ (t106_2 : Int),
 H152.cell H.next 0 = some (.int .i64 t106_2) ∧
 cond (t104_2 != t106_2) (
 Q (.bool false) H152) (
 ∃ (t110_2 : Int),
 H152.cell H.next 0 = some (.int .i64 t110_2) ∧
 cond (decide (t110_2 ≤ 2)) (
 ∃ (t114_2 : Int),
 H152.cell H150.next 1 = some (.int .i64 t114_2) ∧
 ∃ (t116_2 : Int),
 H152.cell H.next 1 = some (.int .i64 t116_2) ∧
 cond (t114_2 == t116_2) (
 ∃ (t121_2 : Int),
 H152.cell H150.next 2 = some (.int .i64 t121_2) ∧
 ∃ (t123_2 : Int),
 H152.cell H.next 2 = some (.int .i64 t123_2) ∧
 cond (t121_2 == t123_2) (
 ∃ (t149_8 : Int),
 H152.cell H.next 0 = some (.int .i64 t149_8) ∧
 cond (t149_8 == 1) (
 ∃ (t153_8 : List UInt8),
 H152.cell H150.next 3 = some (.string ⟨⟨t153_8⟩⟩) ∧
 ∃ (t155_8 : List UInt8),
 H152.cell H.next 3 = some (.string ⟨⟨t155_8⟩⟩) ∧
 cond (!((t153_8 : List UInt8) == t155_8)) (
 Q (.bool false) H152) (
 ∃ (t161_16 : Int),
 H152.cell H.next 0 = some (.int .i64 t161_16) ∧
 cond (t161_16 == 2) (
 ∃ (t165_16 : Int),
 H152.cell H150.next 4 = some (.int .i64 t165_16) ∧
 ∃ (t167_16 : Int),
 H152.cell H.next 4 = some (.int .i64 t167_16) ∧
 cond (t165_16 != t167_16) (
 Q (.bool false) H152) (
 J_41 false H152)) (
 J_41 false H152))) (
 ∃ (t161_17 : Int),
 H152.cell H.next 0 = some (.int .i64 t161_17) ∧
 cond (t161_17 == 2) (
 ∃ (t165_17 : Int),
 H152.cell H150.next 4 = some (.int .i64 t165_17) ∧
 ∃ (t167_17 : Int),
 H152.cell H.next 4 = some (.int .i64 t167_17) ∧
 cond (t165_17 != t167_17) (
 Q (.bool false) H152) (
 J_41 false H152)) (
 J_41 false H152))) (
 ∃ (t128_6 : Int),
 H152.cell H.next 0 = some (.int .i64 t128_6) ∧
 cond (decide (t128_6 > 2)) (
 ∃ (t132_6 : Int),
 H152.cell H150.next 5 = some (.int .i64 t132_6) ∧
 ∃ (t134_6 : Int),
 H152.cell H.next 5 = some (.int .i64 t134_6) ∧
 cond (t132_6 == t134_6) (
 ∃ (t139_6 : Int),
 H152.cell H150.next 6 = some (.int .i64 t139_6) ∧
 ∃ (t141_6 : Int),
 H152.cell H.next 6 = some (.int .i64 t141_6) ∧
 cond (!(t139_6 == t141_6)) (
 Q (.bool false) H152) (
 ∃ (t149_9 : Int),
 H152.cell H.next 0 = some (.int .i64 t149_9) ∧
 cond (t149_9 == 1) (
 ∃ (t153_9 : List UInt8),
 H152.cell H150.next 3 = some (.string ⟨⟨t153_9⟩⟩) ∧
 ∃ (t155_9 : List UInt8),
 H152.cell H.next 3 = some (.string ⟨⟨t155_9⟩⟩) ∧
 cond (!((t153_9 : List UInt8) == t155_9)) (
 Q (.bool false) H152) (
 ∃ (t161_18 : Int),
 H152.cell H.next 0 = some (.int .i64 t161_18) ∧
 cond (t161_18 == 2) (
 ∃ (t165_18 : Int),
 H152.cell H150.next 4 = some (.int .i64 t165_18) ∧
 ∃ (t167_18 : Int),
 H152.cell H.next 4 = some (.int .i64 t167_18) ∧
 cond (t165_18 != t167_18) (
 Q (.bool false) H152) (
 J_41 false H152)) (
 J_41 false H152))) (
 ∃ (t161_19 : Int),
 H152.cell H.next 0 = some (.int .i64 t161_19) ∧
 cond (t161_19 == 2) (
 ∃ (t165_19 : Int),
 H152.cell H150.next 4 = some (.int .i64 t165_19) ∧
 ∃ (t167_19 : Int),
 H152.cell H.next 4 = some (.int .i64 t167_19) ∧
 cond (t165_19 != t167_19) (
 Q (.bool false) H152) (
 J_41 false H152)) (
 J_41 false H152)))) (
 Q (.bool false) H152)) (
 Q (.bool false) H152))) (
 ∃ (t128_7 : Int),
 H152.cell H.next 0 = some (.int .i64 t128_7) ∧
 cond (decide (t128_7 > 2)) (
 ∃ (t132_7 : Int),
 H152.cell H150.next 5 = some (.int .i64 t132_7) ∧
 ∃ (t134_7 : Int),
 H152.cell H.next 5 = some (.int .i64 t134_7) ∧
 cond (t132_7 == t134_7) (
 ∃ (t139_7 : Int),
 H152.cell H150.next 6 = some (.int .i64 t139_7) ∧
 ∃ (t141_7 : Int),
 H152.cell H.next 6 = some (.int .i64 t141_7) ∧
 cond (!(t139_7 == t141_7)) (
 Q (.bool false) H152) (
 ∃ (t149_10 : Int),
 H152.cell H.next 0 = some (.int .i64 t149_10) ∧
 cond (t149_10 == 1) (
 ∃ (t153_10 : List UInt8),
 H152.cell H150.next 3 = some (.string ⟨⟨t153_10⟩⟩) ∧
 ∃ (t155_10 : List UInt8),
 H152.cell H.next 3 = some (.string ⟨⟨t155_10⟩⟩) ∧
 cond (!((t153_10 : List UInt8) == t155_10)) (
 Q (.bool false) H152) (
 ∃ (t161_20 : Int),
 H152.cell H.next 0 = some (.int .i64 t161_20) ∧
 cond (t161_20 == 2) (
 ∃ (t165_20 : Int),
 H152.cell H150.next 4 = some (.int .i64 t165_20) ∧
 ∃ (t167_20 : Int),
 H152.cell H.next 4 = some (.int .i64 t167_20) ∧
 cond (t165_20 != t167_20) (
 Q (.bool false) H152) (
 J_41 false H152)) (
 J_41 false H152))) (
 ∃ (t161_21 : Int),
 H152.cell H.next 0 = some (.int .i64 t161_21) ∧
 cond (t161_21 == 2) (
 ∃ (t165_21 : Int),
 H152.cell H150.next 4 = some (.int .i64 t165_21) ∧
 ∃ (t167_21 : Int),
 H152.cell H.next 4 = some (.int .i64 t167_21) ∧
 cond (t165_21 != t167_21) (
 Q (.bool false) H152) (
 J_41 false H152)) (
 J_41 false H152)))) (
 Q (.bool false) H152)) (
 Q (.bool false) H152))) (
 ∃ (t128_8 : Int),
 H152.cell H.next 0 = some (.int .i64 t128_8) ∧
 cond (decide (t128_8 > 2)) (
 ∃ (t132_8 : Int),
 H152.cell H150.next 5 = some (.int .i64 t132_8) ∧
 ∃ (t134_8 : Int),
 H152.cell H.next 5 = some (.int .i64 t134_8) ∧
 cond (t132_8 == t134_8) (
 ∃ (t139_8 : Int),
 H152.cell H150.next 6 = some (.int .i64 t139_8) ∧
 ∃ (t141_8 : Int),
 H152.cell H.next 6 = some (.int .i64 t141_8) ∧
 cond (!(t139_8 == t141_8)) (
 Q (.bool false) H152) (
 ∃ (t149_11 : Int),
 H152.cell H.next 0 = some (.int .i64 t149_11) ∧
 cond (t149_11 == 1) (
 ∃ (t153_11 : List UInt8),
 H152.cell H150.next 3 = some (.string ⟨⟨t153_11⟩⟩) ∧
 ∃ (t155_11 : List UInt8),
 H152.cell H.next 3 = some (.string ⟨⟨t155_11⟩⟩) ∧
 cond (!((t153_11 : List UInt8) == t155_11)) (
 Q (.bool false) H152) (
 ∃ (t161_22 : Int),
 H152.cell H.next 0 = some (.int .i64 t161_22) ∧
 cond (t161_22 == 2) (
 ∃ (t165_22 : Int),
 H152.cell H150.next 4 = some (.int .i64 t165_22) ∧
 ∃ (t167_22 : Int),
 H152.cell H.next 4 = some (.int .i64 t167_22) ∧
 cond (t165_22 != t167_22) (
 Q (.bool false) H152) (
 J_41 false H152)) (
 J_41 false H152))) (
 ∃ (t161_23 : Int),
 H152.cell H.next 0 = some (.int .i64 t161_23) ∧
 cond (t161_23 == 2) (
 ∃ (t165_23 : Int),
 H152.cell H150.next 4 = some (.int .i64 t165_23) ∧
 ∃ (t167_23 : Int),
 H152.cell H.next 4 = some (.int .i64 t167_23) ∧
 cond (t165_23 != t167_23) (
 Q (.bool false) H152) (
 J_41 false H152)) (
 J_41 false H152)))) (
 Q (.bool false) H152)) (
 Q (.bool false) H152))))) (
 J_41 false H3)) ∧
 ∀ (t4_40 : Bool) (H153 : AH),
 J_41 t4_40 H153 →
 TailMB s1 t4_40 H153 Q) (
 ∃ (J_43 : Bool → AH → Prop),
 J_43 false H3 ∧
 ∀ (t4_42 : Bool) (H160 : AH),
 J_43 t4_42 H160 →
 TailMB s1 t4_42 H160 Q)) (
 ∃ (J_45 : Bool → AH → Prop),
 J_45 false H3 ∧
 ∀ (t4_44 : Bool) (H167 : AH),
 J_45 t4_44 H167 →
 TailMB s1 t4_44 H167 Q)) (
 ∃ (J_47 : Bool → AH → Prop),
 J_47 false H3 ∧
 ∀ (t4_46 : Bool) (H174 : AH),
 J_47 t4_46 H174 →
 TailMB s1 t4_46 H174 Q)) (
 ∃ (J_49 : Bool → AH → Prop),
 J_49 false H3 ∧
 ∀ (t4_48 : Bool) (H181 : AH),
 J_49 t4_48 H181 →
 TailMB s1 t4_48 H181 Q)) (
 ∃ (J_51 : Bool → AH → Prop),
 J_51 false H3 ∧
 ∀ (t4_50 : Bool) (H188 : AH),
 J_51 t4_50 H188 →
 TailMB s1 t4_50 H188 Q)) (
 ∃ (J_53 : Bool → AH → Prop),
 J_53 false H3 ∧
 ∀ (t4_52 : Bool) (H195 : AH),
 J_53 t4_52 H195 →
 TailMB s1 t4_52 H195 Q)) (
 ∃ (J_55 : Bool → AH → Prop),
 J_55 false H3 ∧
 ∀ (t4_54 : Bool) (H202 : AH),
 J_55 t4_54 H202 →
 TailMB s1 t4_54 H202 Q)) (
 ∃ (J_57 : Bool → AH → Prop),
 J_57 false H3 ∧
 ∀ (t4_56 : Bool) (H209 : AH),
 J_57 t4_56 H209 →
 TailMB s1 t4_56 H209 Q)) (
 ∃ (J_59 : Bool → AH → Prop),
 J_59 false H3 ∧
 ∀ (t4_58 : Bool) (H216 : AH),
 J_59 t4_58 H216 →
 TailMB s1 t4_58 H216 Q)))) (
 cond (r18_1 == 0) (
 ∃ (t52_3 : Int),
 H3.cell H.next 0 = some (.int .i64 t52_3) ∧
 cond (decide (t52_3 < 5)) (
 ∃ (t57_3 : Int),
 H3.cell H.next 2 = some (.int .i64 t57_3) ∧
 cond (decide (t57_3 ≥ 0)) (
 ∃ (t62_3 : Int),
 H3.cell H.next 2 = some (.int .i64 t62_3) ∧
 cond (decide (t62_3 < 2147483648)) (
 ∃ (t67_3 : Int),
 H3.cell H.next 4 = some (.int .i64 t67_3) ∧
 cond (decide (t67_3 ≥ 0)) (
 ∃ (t72_3 : Int),
 H3.cell H.next 4 = some (.int .i64 t72_3) ∧
 cond (decide (t72_3 < 2147483648)) (
 ∃ (t77_3 : Int),
 H3.cell H.next 5 = some (.int .i64 t77_3) ∧
 cond (decide (t77_3 ≥ 0)) (
 ∃ (t82_3 : Int),
 H3.cell H.next 5 = some (.int .i64 t82_3) ∧
 cond (decide (t82_3 < 2147483648)) (
 ∃ (t87_3 : Int),
 H3.cell H.next 6 = some (.int .i64 t87_3) ∧
 cond (decide (t87_3 ≥ 0)) (
 ∃ (t92_3 : Int),
 H3.cell H.next 6 = some (.int .i64 t92_3) ∧
 ∃ (J_61 : Bool → AH → Prop),
 (
 cond (decide (t92_3 < 2147483648)) (
 FW Ee F_master_DecodeCommand [.string ⟨⟨r18_0⟩⟩] H3 fun v_95 H223 =>
 ∃ (r97_0_Kind_3 : Int) (r97_0_Session_3 : Int) (r97_0_Seq_3 : Int) (r97_0_S_3 : List UInt8) (r97_0_ID_3 : Int) (r97_0_Worker_3 : Int) (r97_0_Life_3 : Int) (r97_0_Report_Job_3 : Int) (r97_0_Report_Epoch_3 : Int) (r97_0_Report_Step_3 : Int) (r97_0_Report_Phase_3 : Int) (r97_0_Report_Worker_3 : Int) (r97_0_Report_Err_3 : Int) (r97_0_Report_Sent_3 : Int) (r97_0_Report_Active_3 : Int) (r97_0_Report_Many_3 : Int) (r97_0_Report_Agg_Has_0_3 : Bool) (r97_0_Report_Agg_Has_1_3 : Bool) (r97_0_Report_Agg_Has_2_3 : Bool) (r97_0_Report_Agg_Has_3_3 : Bool) (r97_0_Report_Agg_Has_4_3 : Bool) (r97_0_Report_Agg_V_0_3 : Int) (r97_0_Report_Agg_V_1_3 : Int) (r97_0_Report_Agg_V_2_3 : Int) (r97_0_Report_Agg_V_3_3 : Int) (r97_0_Report_Agg_V_4_3 : Int) (r97_0_Report_Valuesa_3 : Option Addr) (r97_0_Report_Valuesl_3 : Nat) (r97_0_Report_Valuesc_3 : Nat) (r97_1_3 : Int),
 v_95 = .tuple ⟨[.agg ⟨[.int .i64 r97_0_Kind_3, .int .i64 r97_0_Session_3, .int .i64 r97_0_Seq_3, .string ⟨⟨r97_0_S_3⟩⟩, .int .i64 r97_0_ID_3, .int .i64 r97_0_Worker_3, .int .i64 r97_0_Life_3, .int .i64 r97_0_Report_Job_3, .int .i64 r97_0_Report_Epoch_3, .int .i64 r97_0_Report_Step_3, .int .i64 r97_0_Report_Phase_3, .int .i64 r97_0_Report_Worker_3, .int .i64 r97_0_Report_Err_3, .int .i64 r97_0_Report_Sent_3, .int .i64 r97_0_Report_Active_3, .int .i64 r97_0_Report_Many_3, .bool r97_0_Report_Agg_Has_0_3, .bool r97_0_Report_Agg_Has_1_3, .bool r97_0_Report_Agg_Has_2_3, .bool r97_0_Report_Agg_Has_3_3, .bool r97_0_Report_Agg_Has_4_3, .int .i64 r97_0_Report_Agg_V_0_3, .int .i64 r97_0_Report_Agg_V_1_3, .int .i64 r97_0_Report_Agg_V_2_3, .int .i64 r97_0_Report_Agg_V_3_3, .int .i64 r97_0_Report_Agg_V_4_3, .slice r97_0_Report_Valuesa_3 r97_0_Report_Valuesl_3 r97_0_Report_Valuesc_3]⟩, .int .i64 r97_1_3]⟩ ∧
 ∀ (H224 : AH),
 H224 = H223.new (.cells [.int .i64 0, .int .i64 0, .int .i64 0, .string ⟨⟨[]⟩⟩, .int .i64 0, .int .i64 0, .int .i64 0, .int .i64 0, .int .i64 0, .int .i64 0, .int .i64 0, .int .i64 0, .int .i64 0, .int .i64 0, .int .i64 0, .int .i64 0, .bool false, .bool false, .bool false, .bool false, .bool false, .int .i64 0, .int .i64 0, .int .i64 0, .int .i64 0, .int .i64 0, .slice none 0 0] 0) →
 ∃ (H225 : AH),
 storeCellsv H224 H223.next 0 [.int .i64 r97_0_Kind_3, .int .i64 r97_0_Session_3, .int .i64 r97_0_Seq_3, .string ⟨⟨r97_0_S_3⟩⟩, .int .i64 r97_0_ID_3, .int .i64 r97_0_Worker_3, .int .i64 r97_0_Life_3, .int .i64 r97_0_Report_Job_3, .int .i64 r97_0_Report_Epoch_3, .int .i64 r97_0_Report_Step_3, .int .i64 r97_0_Report_Phase_3, .int .i64 r97_0_Report_Worker_3, .int .i64 r97_0_Report_Err_3, .int .i64 r97_0_Report_Sent_3, .int .i64 r97_0_Report_Active_3, .int .i64 r97_0_Report_Many_3, .bool r97_0_Report_Agg_Has_0_3, .bool r97_0_Report_Agg_Has_1_3, .bool r97_0_Report_Agg_Has_2_3, .bool r97_0_Report_Agg_Has_3_3, .bool r97_0_Report_Agg_Has_4_3, .int .i64 r97_0_Report_Agg_V_0_3, .int .i64 r97_0_Report_Agg_V_1_3, .int .i64 r97_0_Report_Agg_V_2_3, .int .i64 r97_0_Report_Agg_V_3_3, .int .i64 r97_0_Report_Agg_V_4_3, .slice r97_0_Report_Valuesa_3 r97_0_Report_Valuesl_3 r97_0_Report_Valuesc_3] = some H225 ∧
 cond (r97_1_3 != 0) (
 Q (.bool false) H225) (
 ∃ (t104_3 : Int),
 H225.cell H223.next 0 = some (.int .i64 t104_3) ∧
 ∃ (t106_3 : Int),
 H225.cell H.next 0 = some (.int .i64 t106_3) ∧
 cond (t104_3 != t106_3) (
 Q (.bool false) H225) (
 ∃ (t110_3 : Int),
 H225.cell H.next 0 = some (.int .i64 t110_3) ∧
 cond (decide (t110_3 ≤ 2)) (
 ∃ (t114_3 : Int),
 H225.cell H223.next 1 = some (.int .i64 t114_3) ∧
 ∃ (t116_3 : Int),
 H225.cell H.next 1 = some (.int .i64 t116_3) ∧
 cond (t114_3 == t116_3) (
 ∃ (t121_3 : Int),
 H225.cell H223.next 2 = some (.int .i64 t121_3) ∧
 ∃ (t123_3 : Int),
 H225.cell H.next 2 = some (.int .i64 t123_3) ∧
 cond (t121_3 == t123_3) (
 ∃ (t149_12 : Int),
 H225.cell H.next 0 = some (.int .i64 t149_12) ∧
 cond (t149_12 == 1) (
 ∃ (t153_12 : List UInt8),
 H225.cell H223.next 3 = some (.string ⟨⟨t153_12⟩⟩) ∧
 ∃ (t155_12 : List UInt8),
 H225.cell H.next 3 = some (.string ⟨⟨t155_12⟩⟩) ∧
 cond (!((t153_12 : List UInt8) == t155_12)) (
 Q (.bool false) H225) (
 ∃ (t161_24 : Int),
 H225.cell H.next 0 = some (.int .i64 t161_24) ∧
 cond (t161_24 == 2) (
 ∃ (t165_24 : Int),
 H225.cell H223.next 4 = some (.int .i64 t165_24) ∧
 ∃ (t167_24 : Int),
 H225.cell H.next 4 = some (.int .i64 t167_24) ∧
 cond (t165_24 != t167_24) (
 Q (.bool false) H225) (
 J_61 false H225)) (
 J_61 false H225))) (
 ∃ (t161_25 : Int),
 H225.cell H.next 0 = some (.int .i64 t161_25) ∧
 cond (t161_25 == 2) (
 ∃ (t165_25 : Int),
 H225.cell H223.next 4 = some (.int .i64 t165_25) ∧
 ∃ (t167_25 : Int),
 H225.cell H.next 4 = some (.int .i64 t167_25) ∧
 cond (t165_25 != t167_25) (
 Q (.bool false) H225) (
 J_61 false H225)) (
 J_61 false H225))) (
 ∃ (t128_9 : Int),
 H225.cell H.next 0 = some (.int .i64 t128_9) ∧
 cond (decide (t128_9 > 2)) (
 ∃ (t132_9 : Int),
 H225.cell H223.next 5 = some (.int .i64 t132_9) ∧
 ∃ (t134_9 : Int),
 H225.cell H.next 5 = some (.int .i64 t134_9) ∧
 cond (t132_9 == t134_9) (
 ∃ (t139_9 : Int),
 H225.cell H223.next 6 = some (.int .i64 t139_9) ∧
 ∃ (t141_9 : Int),
 H225.cell H.next 6 = some (.int .i64 t141_9) ∧
 cond (!(t139_9 == t141_9)) (
 Q (.bool false) H225) (
 ∃ (t149_13 : Int),
 H225.cell H.next 0 = some (.int .i64 t149_13) ∧
 cond (t149_13 == 1) (
 ∃ (t153_13 : List UInt8),
 H225.cell H223.next 3 = some (.string ⟨⟨t153_13⟩⟩) ∧
 ∃ (t155_13 : List UInt8),
 H225.cell H.next 3 = some (.string ⟨⟨t155_13⟩⟩) ∧
 cond (!((t153_13 : List UInt8) == t155_13)) (
 Q (.bool false) H225) (
 ∃ (t161_26 : Int),
 H225.cell H.next 0 = some (.int .i64 t161_26) ∧
 cond (t161_26 == 2) (
 ∃ (t165_26 : Int),
 H225.cell H223.next 4 = some (.int .i64 t165_26) ∧
 ∃ (t167_26 : Int),
 H225.cell H.next 4 = some (.int .i64 t167_26) ∧
 cond (t165_26 != t167_26) (
 Q (.bool false) H225) (
 J_61 false H225)) (
 J_61 false H225))) (
 ∃ (t161_27 : Int),
 H225.cell H.next 0 = some (.int .i64 t161_27) ∧
 cond (t161_27 == 2) (
 ∃ (t165_27 : Int),
 H225.cell H223.next 4 = some (.int .i64 t165_27) ∧
 ∃ (t167_27 : Int),
 H225.cell H.next 4 = some (.int .i64 t167_27) ∧
 cond (t165_27 != t167_27) (
 Q (.bool false) H225) (
 J_61 false H225)) (
 J_61 false H225)))) (
 Q (.bool false) H225)) (
 Q (.bool false) H225))) (
 ∃ (t128_10 : Int),
 H225.cell H.next 0 = some (.int .i64 t128_10) ∧
 cond (decide (t128_10 > 2)) (
 ∃ (t132_10 : Int),
 H225.cell H223.next 5 = some (.int .i64 t132_10) ∧
 ∃ (t134_10 : Int),
 H225.cell H.next 5 = some (.int .i64 t134_10) ∧
 cond (t132_10 == t134_10) (
 ∃ (t139_10 : Int),
 H225.cell H223.next 6 = some (.int .i64 t139_10) ∧
 ∃ (t141_10 : Int),
 H225.cell H.next 6 = some (.int .i64 t141_10) ∧
 cond (!(t139_10 == t141_10)) (
 Q (.bool false) H225) (
 ∃ (t149_14 : Int),
 H225.cell H.next 0 = some (.int .i64 t149_14) ∧
 cond (t149_14 == 1) (
 ∃ (t153_14 : List UInt8),
 H225.cell H223.next 3 = some (.string ⟨⟨t153_14⟩⟩) ∧
 ∃ (t155_14 : List UInt8),
 H225.cell H.next 3 = some (.string ⟨⟨t155_14⟩⟩) ∧
 cond (!((t153_14 : List UInt8) == t155_14)) (
 Q (.bool false) H225) (
 ∃ (t161_28 : Int),
 H225.cell H.next 0 = some (.int .i64 t161_28) ∧
 cond (t161_28 == 2) (
 ∃ (t165_28 : Int),
 H225.cell H223.next 4 = some (.int .i64 t165_28) ∧
 ∃ (t167_28 : Int),
 H225.cell H.next 4 = some (.int .i64 t167_28) ∧
 cond (t165_28 != t167_28) (
 Q (.bool false) H225) (
 J_61 false H225)) (
 J_61 false H225))) (
 ∃ (t161_29 : Int),
 H225.cell H.next 0 = some (.int .i64 t161_29) ∧
 cond (t161_29 == 2) (
 ∃ (t165_29 : Int),
 H225.cell H223.next 4 = some (.int .i64 t165_29) ∧
 ∃ (t167_29 : Int),
 H225.cell H.next 4 = some (.int .i64 t167_29) ∧
 cond (t165_29 != t167_29) (
 Q (.bool false) H225) (
 J_61 false H225)) (
 J_61 false H225)))) (
 Q (.bool false) H225)) (
 Q (.bool false) H225))) (
 ∃ (t128_11 : Int),
 H225.cell H.next 0 = some (.int .i64 t128_11) ∧
 cond (decide (t128_11 > 2)) (
 ∃ (t132_11 : Int),
 H225.cell H223.next 5 = some (.int .i64 t132_11) ∧
 ∃ (t134_11 : Int),
 H225.cell H.next 5 = some (.int .i64 t134_11) ∧
 cond (t132_11 == t134_11) (
 ∃ (t139_11 : Int),
 H225.cell H223.next 6 = some (.int .i64 t139_11) ∧
 ∃ (t141_11 : Int),
 H225.cell H.next 6 = some (.int .i64 t141_11) ∧
 cond (!(t139_11 == t141_11)) (
 Q (.bool false) H225) (
 ∃ (t149_15 : Int),
 H225.cell H.next 0 = some (.int .i64 t149_15) ∧
 cond (t149_15 == 1) (
 ∃ (t153_15 : List UInt8),
 H225.cell H223.next 3 = some (.string ⟨⟨t153_15⟩⟩) ∧
 ∃ (t155_15 : List UInt8),
 H225.cell H.next 3 = some (.string ⟨⟨t155_15⟩⟩) ∧
 cond (!((t153_15 : List UInt8) == t155_15)) (
 Q (.bool false) H225) (
 ∃ (t161_30 : Int),
 H225.cell H.next 0 = some (.int .i64 t161_30) ∧
 cond (t161_30 == 2) (
 ∃ (t165_30 : Int),
 H225.cell H223.next 4 = some (.int .i64 t165_30) ∧
 ∃ (t167_30 : Int),
 H225.cell H.next 4 = some (.int .i64 t167_30) ∧
 cond (t165_30 != t167_30) (
 Q (.bool false) H225) (
 J_61 false H225)) (
 J_61 false H225))) (
 ∃ (t161_31 : Int),
 H225.cell H.next 0 = some (.int .i64 t161_31) ∧
 cond (t161_31 == 2) (
 ∃ (t165_31 : Int),
 H225.cell H223.next 4 = some (.int .i64 t165_31) ∧
 ∃ (t167_31 : Int),
 H225.cell H.next 4 = some (.int .i64 t167_31) ∧
 cond (t165_31 != t167_31) (
 Q (.bool false) H225) (
 J_61 false H225)) (
 J_61 false H225)))) (
 Q (.bool false) H225)) (
 Q (.bool false) H225))))) (
 J_61 false H3)) ∧
 ∀ (t4_60 : Bool) (H226 : AH),
 J_61 t4_60 H226 →
 TailMB s1 t4_60 H226 Q) (
 ∃ (J_63 : Bool → AH → Prop),
 J_63 false H3 ∧
 ∀ (t4_62 : Bool) (H233 : AH),
 J_63 t4_62 H233 →
 TailMB s1 t4_62 H233 Q)) (
 ∃ (J_65 : Bool → AH → Prop),
 J_65 false H3 ∧
 ∀ (t4_64 : Bool) (H240 : AH),
 J_65 t4_64 H240 →
 TailMB s1 t4_64 H240 Q)) (
 ∃ (J_67 : Bool → AH → Prop),
 J_67 false H3 ∧
 ∀ (t4_66 : Bool) (H247 : AH),
 J_67 t4_66 H247 →
 TailMB s1 t4_66 H247 Q)) (
 ∃ (J_69 : Bool → AH → Prop),
 J_69 false H3 ∧
 ∀ (t4_68 : Bool) (H254 : AH),
 J_69 t4_68 H254 →
 TailMB s1 t4_68 H254 Q)) (
 ∃ (J_71 : Bool → AH → Prop),
 J_71 false H3 ∧
 ∀ (t4_70 : Bool) (H261 : AH),
 J_71 t4_70 H261 →
 TailMB s1 t4_70 H261 Q)) (
 ∃ (J_73 : Bool → AH → Prop),
 J_73 false H3 ∧
 ∀ (t4_72 : Bool) (H268 : AH),
 J_73 t4_72 H268 →
 TailMB s1 t4_72 H268 Q)) (
 ∃ (J_75 : Bool → AH → Prop),
 J_75 false H3 ∧
 ∀ (t4_74 : Bool) (H275 : AH),
 J_75 t4_74 H275 →
 TailMB s1 t4_74 H275 Q)) (
 ∃ (J_77 : Bool → AH → Prop),
 J_77 false H3 ∧
 ∀ (t4_76 : Bool) (H282 : AH),
 J_77 t4_76 H282 →
 TailMB s1 t4_76 H282 Q)) (
 ∃ (J_79 : Bool → AH → Prop),
 J_79 false H3 ∧
 ∀ (t4_78 : Bool) (H289 : AH),
 J_79 t4_78 H289 →
 TailMB s1 t4_78 H289 Q)))))
set_option maxRecDepth 100000 in
theorem fw_cohortlaw17_MasterBytes {c0_Kind : Int} {c0_Session : Int} {c0_Seq : Int} {c0_S : List UInt8} {c0_ID : Int} {c0_Worker : Int} {c0_Life : Int} {c0_Report_Job : Int} {c0_Report_Epoch : Int} {c0_Report_Step : Int} {c0_Report_Phase : Int} {c0_Report_Worker : Int} {c0_Report_Err : Int} {c0_Report_Sent : Int} {c0_Report_Active : Int} {c0_Report_Many : Int} {c0_Report_Agg_Has_0 : Bool} {c0_Report_Agg_Has_1 : Bool} {c0_Report_Agg_Has_2 : Bool} {c0_Report_Agg_Has_3 : Bool} {c0_Report_Agg_Has_4 : Bool} {c0_Report_Agg_V_0 : Int} {c0_Report_Agg_V_1 : Int} {c0_Report_Agg_V_2 : Int} {c0_Report_Agg_V_3 : Int} {c0_Report_Agg_V_4 : Int} {c0_Report_Valuesa : Option Addr} {c0_Report_Valuesl : Nat} {c0_Report_Valuesc : Nat} {s1 : List UInt8} {H : AH} {Q : Value → AH → Prop} (h : VC_cohortlaw17_MasterBytes c0_Kind c0_Session c0_Seq c0_S c0_ID c0_Worker c0_Life c0_Report_Job c0_Report_Epoch c0_Report_Step c0_Report_Phase c0_Report_Worker c0_Report_Err c0_Report_Sent c0_Report_Active c0_Report_Many c0_Report_Agg_Has_0 c0_Report_Agg_Has_1 c0_Report_Agg_Has_2 c0_Report_Agg_Has_3 c0_Report_Agg_Has_4 c0_Report_Agg_V_0 c0_Report_Agg_V_1 c0_Report_Agg_V_2 c0_Report_Agg_V_3 c0_Report_Agg_V_4 c0_Report_Valuesa c0_Report_Valuesl c0_Report_Valuesc s1 H Q) : FW Ee F_cohortlaw17_MasterBytes [.agg ⟨[.int .i64 c0_Kind, .int .i64 c0_Session, .int .i64 c0_Seq, .string ⟨⟨c0_S⟩⟩, .int .i64 c0_ID, .int .i64 c0_Worker, .int .i64 c0_Life, .int .i64 c0_Report_Job, .int .i64 c0_Report_Epoch, .int .i64 c0_Report_Step, .int .i64 c0_Report_Phase, .int .i64 c0_Report_Worker, .int .i64 c0_Report_Err, .int .i64 c0_Report_Sent, .int .i64 c0_Report_Active, .int .i64 c0_Report_Many, .bool c0_Report_Agg_Has_0, .bool c0_Report_Agg_Has_1, .bool c0_Report_Agg_Has_2, .bool c0_Report_Agg_Has_3, .bool c0_Report_Agg_Has_4, .int .i64 c0_Report_Agg_V_0, .int .i64 c0_Report_Agg_V_1, .int .i64 c0_Report_Agg_V_2, .int .i64 c0_Report_Agg_V_3, .int .i64 c0_Report_Agg_V_4, .slice c0_Report_Valuesa c0_Report_Valuesl c0_Report_Valuesc]⟩, .string ⟨⟨s1⟩⟩] H Q := by
  have e : VC_cohortlaw17_MasterBytes c0_Kind c0_Session c0_Seq c0_S c0_ID c0_Worker c0_Life c0_Report_Job c0_Report_Epoch c0_Report_Step c0_Report_Phase c0_Report_Worker c0_Report_Err c0_Report_Sent c0_Report_Active c0_Report_Many c0_Report_Agg_Has_0 c0_Report_Agg_Has_1 c0_Report_Agg_Has_2 c0_Report_Agg_Has_3 c0_Report_Agg_Has_4 c0_Report_Agg_V_0 c0_Report_Agg_V_1 c0_Report_Agg_V_2 c0_Report_Agg_V_3 c0_Report_Agg_V_4 c0_Report_Valuesa c0_Report_Valuesl c0_Report_Valuesc s1 H Q = wpF Ee ⟨[], [94, 177]⟩ F_cohortlaw17_MasterBytes [.agg ⟨[.int .i64 c0_Kind, .int .i64 c0_Session, .int .i64 c0_Seq, .string ⟨⟨c0_S⟩⟩, .int .i64 c0_ID, .int .i64 c0_Worker, .int .i64 c0_Life, .int .i64 c0_Report_Job, .int .i64 c0_Report_Epoch, .int .i64 c0_Report_Step, .int .i64 c0_Report_Phase, .int .i64 c0_Report_Worker, .int .i64 c0_Report_Err, .int .i64 c0_Report_Sent, .int .i64 c0_Report_Active, .int .i64 c0_Report_Many, .bool c0_Report_Agg_Has_0, .bool c0_Report_Agg_Has_1, .bool c0_Report_Agg_Has_2, .bool c0_Report_Agg_Has_3, .bool c0_Report_Agg_Has_4, .int .i64 c0_Report_Agg_V_0, .int .i64 c0_Report_Agg_V_1, .int .i64 c0_Report_Agg_V_2, .int .i64 c0_Report_Agg_V_3, .int .i64 c0_Report_Agg_V_4, .slice c0_Report_Valuesa c0_Report_Valuesl c0_Report_Valuesc]⟩, .string ⟨⟨s1⟩⟩] H Q := by kernel_rfl
  letI : Sy := sy0
  exact wpF_sound (Eq.mp e h)
end Go.Proofs.Cx
