/- What calls come to, as formulas: printed by a program. -/
import Derived.Test.YtkkcknfeljgdcaaGreatVc0
namespace Go.Proofs.Cx
open Go Go.Ev
set_option linter.unusedVariables false
set_option maxRecDepth 100000
set_option maxHeartbeats 8000000
/-- cohort/master.PutTask -/
def VC_master_PutTask (w0b : Nat) (t1_Job : Int) (t1_Epoch : Int) (t1_Step : Int) (t1_Phase : Int) (t1_Partsa : Option Addr) (t1_Partsl : Nat) (t1_Partsc : Nat) (t1_Assigneda : Option Addr) (t1_Assignedl : Nat) (t1_Assignedc : Nat) (t1_Spec_Program : List UInt8) (t1_Spec_Graph_Verticesa : Option Addr) (t1_Spec_Graph_Verticesl : Nat) (t1_Spec_Graph_Verticesc : Nat) (t1_Spec_Paramsa : Option Addr) (t1_Spec_Paramsl : Nat) (t1_Spec_Paramsc : Nat) (t1_Spec_Steps : Int) (t1_Spec_Sent : Int) (t1_Spec_Parts : Int) (t1_Before_Has_0 : Bool) (t1_Before_Has_1 : Bool) (t1_Before_Has_2 : Bool) (t1_Before_Has_3 : Bool) (t1_Before_Has_4 : Bool) (t1_Before_V_0 : Int) (t1_Before_V_1 : Int) (t1_Before_V_2 : Int) (t1_Before_V_3 : Int) (t1_Before_V_4 : Int) (t1_Many : Int) (t1_From : Int) (t1_FromEpoch : Int) (t1_Keep : Bool) (H : AH) (Q : Value → AH → Prop) : Prop :=
 ∀ (H1 : AH),
 H1 = H.new (.cells [.int .i64 t1_Job, .int .i64 t1_Epoch, .int .i64 t1_Step, .int .i64 t1_Phase, .slice t1_Partsa t1_Partsl t1_Partsc, .slice t1_Assigneda t1_Assignedl t1_Assignedc, .string ⟨⟨t1_Spec_Program⟩⟩, .slice t1_Spec_Graph_Verticesa t1_Spec_Graph_Verticesl t1_Spec_Graph_Verticesc, .slice t1_Spec_Paramsa t1_Spec_Paramsl t1_Spec_Paramsc, .int .i64 t1_Spec_Steps, .int .i64 t1_Spec_Sent, .int .i64 t1_Spec_Parts, .bool t1_Before_Has_0, .bool t1_Before_Has_1, .bool t1_Before_Has_2, .bool t1_Before_Has_3, .bool t1_Before_Has_4, .int .i64 t1_Before_V_0, .int .i64 t1_Before_V_1, .int .i64 t1_Before_V_2, .int .i64 t1_Before_V_3, .int .i64 t1_Before_V_4, .int .i64 t1_Many, .int .i64 t1_From, .int .i64 t1_FromEpoch, .bool t1_Keep] 0) →
 ∃ (t11 : Int),
 H1.cell H.next 0 = some (.int .i64 t11) ∧
 ∃ (t13 : Int),
 H1.cell H.next 1 = some (.int .i64 t13) ∧
 ∃ (t15 : Int),
 H1.cell H.next 2 = some (.int .i64 t15) ∧
 ∃ (t17 : Int),
 H1.cell H.next 3 = some (.int .i64 t17) ∧
 ∃ (t19 : Int),
 H1.cell H.next 22 = some (.int .i64 t19) ∧
 ∃ (t21 : Int),
 H1.cell H.next 23 = some (.int .i64 t21) ∧
 ∃ (t23 : Int),
 H1.cell H.next 24 = some (.int .i64 t23) ∧
 ∀ (H2 : AH),
 H2 = H1.new (.cells [.int .i64 t11, .int .i64 t13, .int .i64 t15, .int .i64 t17, .int .i64 t19, .int .i64 t21, .int .i64 t23] 0) →
 ∃ (Inv : Nat → Int → AH → Prop),
 (
 ∃ (n_1 : Nat),
 Inv n_1 0 H2) ∧
 ∀ (n : Nat),
 ∀ (t26 : Int) (H3 : AH),
 Inv n t26 H3 →
 cond (decide (t26 < (((7 : Nat) : Int)))) (
 (0 : Int) ≤ t26 ∧
 (t26 : Int) < ((7 : Nat) : Int) ∧
 ∃ (t29 : Int),
 H3.cell H1.next (0 + (t26 : Int).toNat * 1) = some (.int .i64 t29) ∧
 FW Ee F_wire_Writer_Count [.pointer (some ⟨w0b, 0, none⟩), .int .i64 t29] H3 fun v H4 =>
 v = .tuple ⟨[]⟩ ∧
 ∀ (t33 : Int),
 t33 = IntKind.i64.wrap (t26 + 1) →
 ∃ (m : Nat),
 m < n ∧
 Inv m t33 H4) (
 ∃ (t35a : Option Addr) (t35l : Nat) (t35c : Nat),
 H3.cell H.next 4 = some (.slice t35a t35l t35c) ∧
 ∃ (t37a : Option Addr) (t37l : Nat) (t37c : Nat),
 H3.cell H.next 5 = some (.slice t37a t37l t37c) ∧
 ∀ (H5 : AH),
 H5 = H3.new (.cells [.slice t35a t35l t35c, .slice t37a t37l t37c] 0) →
 ∃ (Inv_1 : Nat → Int → AH → Prop),
 (
 ∃ (n_3 : Nat),
 Inv_1 n_3 0 H5) ∧
 ∀ (n_2 : Nat),
 ∀ (t40 : Int) (H6 : AH),
 Inv_1 n_2 t40 H6 →
 cond (decide (t40 < (((2 : Nat) : Int)))) (
 (0 : Int) ≤ t40 ∧
 (t40 : Int) < ((2 : Nat) : Int) ∧
 ∃ (t43a : Option Addr) (t43l : Nat) (t43c : Nat),
 H6.cell H3.next (0 + (t40 : Int).toNat * 1) = some (.slice t43a t43l t43c) ∧
 FW Ee F_wire_Writer_Count [.pointer (some ⟨w0b, 0, none⟩), .int .i64 (((t43l : Nat) : Int))] H6 fun v_1 H7 =>
 v_1 = .tuple ⟨[]⟩ ∧
 ∃ (Inv_2 : Nat → Int → AH → Prop),
 (
 ∃ (n_5 : Nat),
 Inv_2 n_5 0 H7) ∧
 ∀ (n_4 : Nat),
 ∀ (t50 : Int) (H8 : AH),
 Inv_2 n_4 t50 H8 →
 cond (decide (t50 < (((t43l : Nat) : Int)))) (
 grd t43a.isSome (
 (0 : Int) ≤ t50 ∧
 (t50 : Int) < ((t43l : Nat) : Int) ∧
 ∃ (t53 : Int),
 H8.cell ((adr t43a).block) ((adr t43a).off + (t50 : Int).toNat * 1) = some (.int .i64 t53) ∧
 FW Ee F_wire_Writer_Count [.pointer (some ⟨w0b, 0, none⟩), .int .i64 t53] H8 fun v_2 H9 =>
 v_2 = .tuple ⟨[]⟩ ∧
 ∀ (t57 : Int),
 t57 = IntKind.i64.wrap (t50 + 1) →
 ∃ (m_2 : Nat),
 m_2 < n_4 ∧
 Inv_2 m_2 t57 H9)) (
 ∀ (t58 : Int),
 t58 = IntKind.i64.wrap (t40 + 1) →
 ∃ (m_1 : Nat),
 m_1 < n_2 ∧
 Inv_1 m_1 t58 H8)) (
 ∃ (t61 : Bool),
 H6.cell H.next 25 = some (.bool t61) ∧
 FW Ee F_wire_Writer_Bool [.pointer (some ⟨w0b, 0, none⟩), .bool t61] H6 fun v_3 H10 =>
 v_3 = .tuple ⟨[]⟩ ∧
 ∃ (t65_Has_0 : Bool) (t65_Has_1 : Bool) (t65_Has_2 : Bool) (t65_Has_3 : Bool) (t65_Has_4 : Bool) (t65_V_0 : Int) (t65_V_1 : Int) (t65_V_2 : Int) (t65_V_3 : Int) (t65_V_4 : Int),
 H10.cell H.next (12 + 0) = some (.bool t65_Has_0) ∧
 H10.cell H.next (12 + 1) = some (.bool t65_Has_1) ∧
 H10.cell H.next (12 + 2) = some (.bool t65_Has_2) ∧
 H10.cell H.next (12 + 3) = some (.bool t65_Has_3) ∧
 H10.cell H.next (12 + 4) = some (.bool t65_Has_4) ∧
 H10.cell H.next (12 + 5) = some (.int .i64 t65_V_0) ∧
 H10.cell H.next (12 + 6) = some (.int .i64 t65_V_1) ∧
 H10.cell H.next (12 + 7) = some (.int .i64 t65_V_2) ∧
 H10.cell H.next (12 + 8) = some (.int .i64 t65_V_3) ∧
 H10.cell H.next (12 + 9) = some (.int .i64 t65_V_4) ∧
 FW Ee F_agg_Put [.pointer (some ⟨w0b, 0, none⟩), .agg ⟨[.bool t65_Has_0, .bool t65_Has_1, .bool t65_Has_2, .bool t65_Has_3, .bool t65_Has_4, .int .i64 t65_V_0, .int .i64 t65_V_1, .int .i64 t65_V_2, .int .i64 t65_V_3, .int .i64 t65_V_4]⟩] H10 fun v_4 H11 =>
 v_4 = .tuple ⟨[]⟩ ∧
 ∃ (t69_Program : List UInt8) (t69_Graph_Verticesa : Option Addr) (t69_Graph_Verticesl : Nat) (t69_Graph_Verticesc : Nat) (t69_Paramsa : Option Addr) (t69_Paramsl : Nat) (t69_Paramsc : Nat) (t69_Steps : Int) (t69_Sent : Int) (t69_Parts : Int),
 H11.cell H.next (6 + 0) = some (.string ⟨⟨t69_Program⟩⟩) ∧
 H11.cell H.next (6 + 1) = some (.slice t69_Graph_Verticesa t69_Graph_Verticesl t69_Graph_Verticesc) ∧
 H11.cell H.next (6 + 2) = some (.slice t69_Paramsa t69_Paramsl t69_Paramsc) ∧
 H11.cell H.next (6 + 3) = some (.int .i64 t69_Steps) ∧
 H11.cell H.next (6 + 4) = some (.int .i64 t69_Sent) ∧
 H11.cell H.next (6 + 5) = some (.int .i64 t69_Parts) ∧
 FW Ee F_run_PutJob [.pointer (some ⟨w0b, 0, none⟩), .agg ⟨[.string ⟨⟨t69_Program⟩⟩, .slice t69_Graph_Verticesa t69_Graph_Verticesl t69_Graph_Verticesc, .slice t69_Paramsa t69_Paramsl t69_Paramsc, .int .i64 t69_Steps, .int .i64 t69_Sent, .int .i64 t69_Parts]⟩] H11 fun v_5 H12 =>
 v_5 = .tuple ⟨[]⟩ ∧
 Q (.tuple ⟨[]⟩) H12))
set_option maxRecDepth 100000 in
theorem fw_master_PutTask {w0b : Nat} {t1_Job : Int} {t1_Epoch : Int} {t1_Step : Int} {t1_Phase : Int} {t1_Partsa : Option Addr} {t1_Partsl : Nat} {t1_Partsc : Nat} {t1_Assigneda : Option Addr} {t1_Assignedl : Nat} {t1_Assignedc : Nat} {t1_Spec_Program : List UInt8} {t1_Spec_Graph_Verticesa : Option Addr} {t1_Spec_Graph_Verticesl : Nat} {t1_Spec_Graph_Verticesc : Nat} {t1_Spec_Paramsa : Option Addr} {t1_Spec_Paramsl : Nat} {t1_Spec_Paramsc : Nat} {t1_Spec_Steps : Int} {t1_Spec_Sent : Int} {t1_Spec_Parts : Int} {t1_Before_Has_0 : Bool} {t1_Before_Has_1 : Bool} {t1_Before_Has_2 : Bool} {t1_Before_Has_3 : Bool} {t1_Before_Has_4 : Bool} {t1_Before_V_0 : Int} {t1_Before_V_1 : Int} {t1_Before_V_2 : Int} {t1_Before_V_3 : Int} {t1_Before_V_4 : Int} {t1_Many : Int} {t1_From : Int} {t1_FromEpoch : Int} {t1_Keep : Bool} {H : AH} {Q : Value → AH → Prop} (h : VC_master_PutTask w0b t1_Job t1_Epoch t1_Step t1_Phase t1_Partsa t1_Partsl t1_Partsc t1_Assigneda t1_Assignedl t1_Assignedc t1_Spec_Program t1_Spec_Graph_Verticesa t1_Spec_Graph_Verticesl t1_Spec_Graph_Verticesc t1_Spec_Paramsa t1_Spec_Paramsl t1_Spec_Paramsc t1_Spec_Steps t1_Spec_Sent t1_Spec_Parts t1_Before_Has_0 t1_Before_Has_1 t1_Before_Has_2 t1_Before_Has_3 t1_Before_Has_4 t1_Before_V_0 t1_Before_V_1 t1_Before_V_2 t1_Before_V_3 t1_Before_V_4 t1_Many t1_From t1_FromEpoch t1_Keep H Q) : FW Ee F_master_PutTask [.pointer (some ⟨w0b, 0, none⟩), .agg ⟨[.int .i64 t1_Job, .int .i64 t1_Epoch, .int .i64 t1_Step, .int .i64 t1_Phase, .slice t1_Partsa t1_Partsl t1_Partsc, .slice t1_Assigneda t1_Assignedl t1_Assignedc, .string ⟨⟨t1_Spec_Program⟩⟩, .slice t1_Spec_Graph_Verticesa t1_Spec_Graph_Verticesl t1_Spec_Graph_Verticesc, .slice t1_Spec_Paramsa t1_Spec_Paramsl t1_Spec_Paramsc, .int .i64 t1_Spec_Steps, .int .i64 t1_Spec_Sent, .int .i64 t1_Spec_Parts, .bool t1_Before_Has_0, .bool t1_Before_Has_1, .bool t1_Before_Has_2, .bool t1_Before_Has_3, .bool t1_Before_Has_4, .int .i64 t1_Before_V_0, .int .i64 t1_Before_V_1, .int .i64 t1_Before_V_2, .int .i64 t1_Before_V_3, .int .i64 t1_Before_V_4, .int .i64 t1_Many, .int .i64 t1_From, .int .i64 t1_FromEpoch, .bool t1_Keep]⟩] H Q := by
  have e : VC_master_PutTask w0b t1_Job t1_Epoch t1_Step t1_Phase t1_Partsa t1_Partsl t1_Partsc t1_Assigneda t1_Assignedl t1_Assignedc t1_Spec_Program t1_Spec_Graph_Verticesa t1_Spec_Graph_Verticesl t1_Spec_Graph_Verticesc t1_Spec_Paramsa t1_Spec_Paramsl t1_Spec_Paramsc t1_Spec_Steps t1_Spec_Sent t1_Spec_Parts t1_Before_Has_0 t1_Before_Has_1 t1_Before_Has_2 t1_Before_Has_3 t1_Before_Has_4 t1_Before_V_0 t1_Before_V_1 t1_Before_V_2 t1_Before_V_3 t1_Before_V_4 t1_Many t1_From t1_FromEpoch t1_Keep H Q = wpF Ee ⟨[], []⟩ F_master_PutTask [.pointer (some ⟨w0b, 0, none⟩), .agg ⟨[.int .i64 t1_Job, .int .i64 t1_Epoch, .int .i64 t1_Step, .int .i64 t1_Phase, .slice t1_Partsa t1_Partsl t1_Partsc, .slice t1_Assigneda t1_Assignedl t1_Assignedc, .string ⟨⟨t1_Spec_Program⟩⟩, .slice t1_Spec_Graph_Verticesa t1_Spec_Graph_Verticesl t1_Spec_Graph_Verticesc, .slice t1_Spec_Paramsa t1_Spec_Paramsl t1_Spec_Paramsc, .int .i64 t1_Spec_Steps, .int .i64 t1_Spec_Sent, .int .i64 t1_Spec_Parts, .bool t1_Before_Has_0, .bool t1_Before_Has_1, .bool t1_Before_Has_2, .bool t1_Before_Has_3, .bool t1_Before_Has_4, .int .i64 t1_Before_V_0, .int .i64 t1_Before_V_1, .int .i64 t1_Before_V_2, .int .i64 t1_Before_V_3, .int .i64 t1_Before_V_4, .int .i64 t1_Many, .int .i64 t1_From, .int .i64 t1_FromEpoch, .bool t1_Keep]⟩] H Q := by kernel_rfl
  letI : Sy := sy0
  exact wpF_sound (Eq.mp e h)
/-- cohort/master.TakeTask -/
def VC_master_TakeTask (r0b : Nat) (H : AH) (Q : Value → AH → Prop) : Prop :=
 ∀ (H1 : AH),
 H1 = H.new (.cells [.int .i64 0, .int .i64 0, .int .i64 0, .int .i64 0, .slice none 0 0, .slice none 0 0, .string ⟨⟨[]⟩⟩, .slice none 0 0, .slice none 0 0, .int .i64 0, .int .i64 0, .int .i64 0, .bool false, .bool false, .bool false, .bool false, .bool false, .int .i64 0, .int .i64 0, .int .i64 0, .int .i64 0, .int .i64 0, .int .i64 0, .int .i64 0, .int .i64 0, .bool false] 0) →
 ∀ (H2 : AH),
 H2 = H1.new (.cells [.int .i64 0, .int .i64 0, .int .i64 0, .int .i64 0, .slice none 0 0, .slice none 0 0, .string ⟨⟨[]⟩⟩, .slice none 0 0, .slice none 0 0, .int .i64 0, .int .i64 0, .int .i64 0, .bool false, .bool false, .bool false, .bool false, .bool false, .int .i64 0, .int .i64 0, .int .i64 0, .int .i64 0, .int .i64 0, .int .i64 0, .int .i64 0, .int .i64 0, .bool false] 0) →
 ∀ (H3 : AH),
 H3 = H2.new (.cells [.pointer (some ⟨H1.next, 0, none⟩), .pointer (some ⟨H1.next, 1, none⟩), .pointer (some ⟨H1.next, 2, none⟩), .pointer (some ⟨H1.next, 3, none⟩), .pointer (some ⟨H1.next, 22, none⟩), .pointer (some ⟨H1.next, 23, none⟩), .pointer (some ⟨H1.next, 24, none⟩)] 0) →
 ∃ (Inv : Nat → Int → AH → Prop),
 (
 ∃ (n_1 : Nat),
 Inv n_1 0 H3) ∧
 ∀ (n : Nat),
 ∀ (t18 : Int) (H4 : AH),
 Inv n t18 H4 →
 cond (decide (t18 < (((7 : Nat) : Int)))) (
 (0 : Int) ≤ t18 ∧
 (t18 : Int) < ((7 : Nat) : Int) ∧
 ∃ (t21 : Option Addr),
 H4.cell H2.next (0 + (t18 : Int).toNat * 1) = some (.pointer t21) ∧
 FW Ee F_wire_Reader_Count [.pointer (some ⟨r0b, 0, none⟩), .int .i64 2147483647] H4 fun v H5 =>
 ∃ (r24 : Int),
 v = .int .i64 r24 ∧
 grd t21.isSome (
 grd t21.isSome (
 ∃ (H6 : AH),
 storeCellsv H5 ((adr t21).block) ((adr t21).off) [.int .i64 r24] = some H6 ∧
 ∀ (t26 : Int),
 t26 = IntKind.i64.wrap (t18 + 1) →
 ∃ (m : Nat),
 m < n ∧
 Inv m t26 H6))) (
 ∀ (H7 : AH),
 H7 = H4.new (.cells [.pointer (some ⟨H1.next, 4, none⟩), .pointer (some ⟨H1.next, 5, none⟩)] 0) →
 ∃ (Inv_1 : Nat → Int → AH → Prop),
 (
 ∃ (n_3 : Nat),
 Inv_1 n_3 0 H7) ∧
 ∀ (n_2 : Nat),
 ∀ (t31 : Int) (H8 : AH),
 Inv_1 n_2 t31 H8 →
 cond (decide (t31 < (((2 : Nat) : Int)))) (
 (0 : Int) ≤ t31 ∧
 (t31 : Int) < ((2 : Nat) : Int) ∧
 ∃ (t34 : Option Addr),
 H8.cell H4.next (0 + (t31 : Int).toNat * 1) = some (.pointer t34) ∧
 FW Ee F_wire_Reader_Count [.pointer (some ⟨r0b, 0, none⟩), .int .i64 16] H8 fun v_1 H9 =>
 ∃ (r36 : Int),
 v_1 = .int .i64 r36 ∧
 ∃ (Inv_2 : Nat → Int → AH → Prop),
 (
 ∃ (n_5 : Nat),
 Inv_2 n_5 r36 H9) ∧
 ∀ (n_4 : Nat),
 ∀ (n8 : Int) (H10 : AH),
 Inv_2 n_4 n8 H10 →
 cond (decide (n8 > 0)) (
 FW Ee F_wire_Reader_Err [.pointer (some ⟨r0b, 0, none⟩)] H10 fun v_2 H11 =>
 ∃ (r41 : Int),
 v_2 = .int .i64 r41 ∧
 cond (r41 == 0) (
 grd t34.isSome (
 grd t34.isSome (
 ∃ (t49a : Option Addr) (t49l : Nat) (t49c : Nat),
 H11.cell ((adr t34).block) ((adr t34).off) = some (.slice t49a t49l t49c) ∧
 FW Ee F_wire_Reader_Count [.pointer (some ⟨r0b, 0, none⟩), .int .i64 2147483647] H11 fun v_3 H12 =>
 ∃ (r51 : Int),
 v_3 = .int .i64 r51 ∧
 ∀ (H13 : AH),
 H13 = H12.new (.cells [.int .i64 r51] 0) →
 ∃ (t53a : Option Addr) (t53l : Nat) (t53c : Nat) (H14 : AH),
 apnd H13 1 8 t49a t49l t49c (.slice (some ⟨H12.next, 0, none⟩) 1 2) = some (.slice t53a t53l t53c, H14) ∧
 grd t34.isSome (
 grd t34.isSome (
 ∃ (H15 : AH),
 storeCellsv H14 ((adr t34).block) ((adr t34).off) [.slice t53a t53l t53c] = some H15 ∧
 grd t34.isSome (
 H13.cell ((adr t34).block) ((adr t34).off) = some (.slice t49a t49l t49c) ∧
 ∀ (t45 : Int),
 t45 = IntKind.i64.wrap (n8 - 1) →
 ∃ (m_2 : Nat),
 m_2 < n_4 ∧
 Inv_2 m_2 t45 H15)))))) (
 ∀ (t55 : Int),
 t55 = IntKind.i64.wrap (t31 + 1) →
 ∃ (m_1 : Nat),
 m_1 < n_2 ∧
 Inv_1 m_1 t55 H11)) (
 ∀ (t55_1 : Int),
 t55_1 = IntKind.i64.wrap (t31 + 1) →
 ∃ (m_1 : Nat),
 m_1 < n_2 ∧
 Inv_1 m_1 t55_1 H10)) (
 FW Ee F_wire_Reader_Bool [.pointer (some ⟨r0b, 0, none⟩)] H8 fun v_4 H16 =>
 ∃ (r57 : Bool),
 v_4 = .bool r57 ∧
 FW Ee F_agg_Take [.pointer (some ⟨r0b, 0, none⟩)] H16 fun v_5 H17 =>
 ∃ (r59_Has_0 : Bool) (r59_Has_1 : Bool) (r59_Has_2 : Bool) (r59_Has_3 : Bool) (r59_Has_4 : Bool) (r59_V_0 : Int) (r59_V_1 : Int) (r59_V_2 : Int) (r59_V_3 : Int) (r59_V_4 : Int),
 v_5 = .agg ⟨[.bool r59_Has_0, .bool r59_Has_1, .bool r59_Has_2, .bool r59_Has_3, .bool r59_Has_4, .int .i64 r59_V_0, .int .i64 r59_V_1, .int .i64 r59_V_2, .int .i64 r59_V_3, .int .i64 r59_V_4]⟩ ∧
 ∃ (H18 : AH),
 storeCellsv H17 H1.next 25 [.bool r57] = some H18 ∧
 ∃ (H19 : AH),
 storeCellsv H18 H1.next 12 [.bool r59_Has_0, .bool r59_Has_1, .bool r59_Has_2, .bool r59_Has_3, .bool r59_Has_4, .int .i64 r59_V_0, .int .i64 r59_V_1, .int .i64 r59_V_2, .int .i64 r59_V_3, .int .i64 r59_V_4] = some H19 ∧
 FW Ee F_run_TakeJob [.pointer (some ⟨r0b, 0, none⟩)] H19 fun v_6 H20 =>
 ∃ (r63_Program : List UInt8) (r63_Graph_Verticesa : Option Addr) (r63_Graph_Verticesl : Nat) (r63_Graph_Verticesc : Nat) (r63_Paramsa : Option Addr) (r63_Paramsl : Nat) (r63_Paramsc : Nat) (r63_Steps : Int) (r63_Sent : Int) (r63_Parts : Int),
 v_6 = .agg ⟨[.string ⟨⟨r63_Program⟩⟩, .slice r63_Graph_Verticesa r63_Graph_Verticesl r63_Graph_Verticesc, .slice r63_Paramsa r63_Paramsl r63_Paramsc, .int .i64 r63_Steps, .int .i64 r63_Sent, .int .i64 r63_Parts]⟩ ∧
 ∃ (H21 : AH),
 storeCellsv H20 H1.next 6 [.string ⟨⟨r63_Program⟩⟩, .slice r63_Graph_Verticesa r63_Graph_Verticesl r63_Graph_Verticesc, .slice r63_Paramsa r63_Paramsl r63_Paramsc, .int .i64 r63_Steps, .int .i64 r63_Sent, .int .i64 r63_Parts] = some H21 ∧
 ∃ (t65_Job : Int) (t65_Epoch : Int) (t65_Step : Int) (t65_Phase : Int) (t65_Partsa : Option Addr) (t65_Partsl : Nat) (t65_Partsc : Nat) (t65_Assigneda : Option Addr) (t65_Assignedl : Nat) (t65_Assignedc : Nat) (t65_Spec_Program : List UInt8) (t65_Spec_Graph_Verticesa : Option Addr) (t65_Spec_Graph_Verticesl : Nat) (t65_Spec_Graph_Verticesc : Nat) (t65_Spec_Paramsa : Option Addr) (t65_Spec_Paramsl : Nat) (t65_Spec_Paramsc : Nat) (t65_Spec_Steps : Int) (t65_Spec_Sent : Int) (t65_Spec_Parts : Int) (t65_Before_Has_0 : Bool) (t65_Before_Has_1 : Bool) (t65_Before_Has_2 : Bool) (t65_Before_Has_3 : Bool) (t65_Before_Has_4 : Bool) (t65_Before_V_0 : Int) (t65_Before_V_1 : Int) (t65_Before_V_2 : Int) (t65_Before_V_3 : Int) (t65_Before_V_4 : Int) (t65_Many : Int) (t65_From : Int) (t65_FromEpoch : Int) (t65_Keep : Bool),
 H21.cell H1.next (0 + 0) = some (.int .i64 t65_Job) ∧
 H21.cell H1.next (0 + 1) = some (.int .i64 t65_Epoch) ∧
 H21.cell H1.next (0 + 2) = some (.int .i64 t65_Step) ∧
 H21.cell H1.next (0 + 3) = some (.int .i64 t65_Phase) ∧
 H21.cell H1.next (0 + 4) = some (.slice t65_Partsa t65_Partsl t65_Partsc) ∧
 H21.cell H1.next (0 + 5) = some (.slice t65_Assigneda t65_Assignedl t65_Assignedc) ∧
 H21.cell H1.next (0 + 6) = some (.string ⟨⟨t65_Spec_Program⟩⟩) ∧
 H21.cell H1.next (0 + 7) = some (.slice t65_Spec_Graph_Verticesa t65_Spec_Graph_Verticesl t65_Spec_Graph_Verticesc) ∧
 H21.cell H1.next (0 + 8) = some (.slice t65_Spec_Paramsa t65_Spec_Paramsl t65_Spec_Paramsc) ∧
 H21.cell H1.next (0 + 9) = some (.int .i64 t65_Spec_Steps) ∧
 H21.cell H1.next (0 + 10) = some (.int .i64 t65_Spec_Sent) ∧
 H21.cell H1.next (0 + 11) = some (.int .i64 t65_Spec_Parts) ∧
 H21.cell H1.next (0 + 12) = some (.bool t65_Before_Has_0) ∧
 H21.cell H1.next (0 + 13) = some (.bool t65_Before_Has_1) ∧
 H21.cell H1.next (0 + 14) = some (.bool t65_Before_Has_2) ∧
 H21.cell H1.next (0 + 15) = some (.bool t65_Before_Has_3) ∧
 H21.cell H1.next (0 + 16) = some (.bool t65_Before_Has_4) ∧
 H21.cell H1.next (0 + 17) = some (.int .i64 t65_Before_V_0) ∧
 H21.cell H1.next (0 + 18) = some (.int .i64 t65_Before_V_1) ∧
 H21.cell H1.next (0 + 19) = some (.int .i64 t65_Before_V_2) ∧
 H21.cell H1.next (0 + 20) = some (.int .i64 t65_Before_V_3) ∧
 H21.cell H1.next (0 + 21) = some (.int .i64 t65_Before_V_4) ∧
 H21.cell H1.next (0 + 22) = some (.int .i64 t65_Many) ∧
 H21.cell H1.next (0 + 23) = some (.int .i64 t65_From) ∧
 H21.cell H1.next (0 + 24) = some (.int .i64 t65_FromEpoch) ∧
 H21.cell H1.next (0 + 25) = some (.bool t65_Keep) ∧
 ∃ (H22 : AH),
 storeCellsv H21 H.next 0 [.int .i64 t65_Job, .int .i64 t65_Epoch, .int .i64 t65_Step, .int .i64 t65_Phase, .slice t65_Partsa t65_Partsl t65_Partsc, .slice t65_Assigneda t65_Assignedl t65_Assignedc, .string ⟨⟨t65_Spec_Program⟩⟩, .slice t65_Spec_Graph_Verticesa t65_Spec_Graph_Verticesl t65_Spec_Graph_Verticesc, .slice t65_Spec_Paramsa t65_Spec_Paramsl t65_Spec_Paramsc, .int .i64 t65_Spec_Steps, .int .i64 t65_Spec_Sent, .int .i64 t65_Spec_Parts, .bool t65_Before_Has_0, .bool t65_Before_Has_1, .bool t65_Before_Has_2, .bool t65_Before_Has_3, .bool t65_Before_Has_4, .int .i64 t65_Before_V_0, .int .i64 t65_Before_V_1, .int .i64 t65_Before_V_2, .int .i64 t65_Before_V_3, .int .i64 t65_Before_V_4, .int .i64 t65_Many, .int .i64 t65_From, .int .i64 t65_FromEpoch, .bool t65_Keep] = some H22 ∧
 ∃ (r2_Job : Int) (r2_Epoch : Int) (r2_Step : Int) (r2_Phase : Int) (r2_Partsa : Option Addr) (r2_Partsl : Nat) (r2_Partsc : Nat) (r2_Assigneda : Option Addr) (r2_Assignedl : Nat) (r2_Assignedc : Nat) (r2_Spec_Program : List UInt8) (r2_Spec_Graph_Verticesa : Option Addr) (r2_Spec_Graph_Verticesl : Nat) (r2_Spec_Graph_Verticesc : Nat) (r2_Spec_Paramsa : Option Addr) (r2_Spec_Paramsl : Nat) (r2_Spec_Paramsc : Nat) (r2_Spec_Steps : Int) (r2_Spec_Sent : Int) (r2_Spec_Parts : Int) (r2_Before_Has_0 : Bool) (r2_Before_Has_1 : Bool) (r2_Before_Has_2 : Bool) (r2_Before_Has_3 : Bool) (r2_Before_Has_4 : Bool) (r2_Before_V_0 : Int) (r2_Before_V_1 : Int) (r2_Before_V_2 : Int) (r2_Before_V_3 : Int) (r2_Before_V_4 : Int) (r2_Many : Int) (r2_From : Int) (r2_FromEpoch : Int) (r2_Keep : Bool),
 H22.cell H.next (0 + 0) = some (.int .i64 r2_Job) ∧
 H22.cell H.next (0 + 1) = some (.int .i64 r2_Epoch) ∧
 H22.cell H.next (0 + 2) = some (.int .i64 r2_Step) ∧
 H22.cell H.next (0 + 3) = some (.int .i64 r2_Phase) ∧
 H22.cell H.next (0 + 4) = some (.slice r2_Partsa r2_Partsl r2_Partsc) ∧
 H22.cell H.next (0 + 5) = some (.slice r2_Assigneda r2_Assignedl r2_Assignedc) ∧
 H22.cell H.next (0 + 6) = some (.string ⟨⟨r2_Spec_Program⟩⟩) ∧
 H22.cell H.next (0 + 7) = some (.slice r2_Spec_Graph_Verticesa r2_Spec_Graph_Verticesl r2_Spec_Graph_Verticesc) ∧
 H22.cell H.next (0 + 8) = some (.slice r2_Spec_Paramsa r2_Spec_Paramsl r2_Spec_Paramsc) ∧
 H22.cell H.next (0 + 9) = some (.int .i64 r2_Spec_Steps) ∧
 H22.cell H.next (0 + 10) = some (.int .i64 r2_Spec_Sent) ∧
 H22.cell H.next (0 + 11) = some (.int .i64 r2_Spec_Parts) ∧
 H22.cell H.next (0 + 12) = some (.bool r2_Before_Has_0) ∧
 H22.cell H.next (0 + 13) = some (.bool r2_Before_Has_1) ∧
 H22.cell H.next (0 + 14) = some (.bool r2_Before_Has_2) ∧
 H22.cell H.next (0 + 15) = some (.bool r2_Before_Has_3) ∧
 H22.cell H.next (0 + 16) = some (.bool r2_Before_Has_4) ∧
 H22.cell H.next (0 + 17) = some (.int .i64 r2_Before_V_0) ∧
 H22.cell H.next (0 + 18) = some (.int .i64 r2_Before_V_1) ∧
 H22.cell H.next (0 + 19) = some (.int .i64 r2_Before_V_2) ∧
 H22.cell H.next (0 + 20) = some (.int .i64 r2_Before_V_3) ∧
 H22.cell H.next (0 + 21) = some (.int .i64 r2_Before_V_4) ∧
 H22.cell H.next (0 + 22) = some (.int .i64 r2_Many) ∧
 H22.cell H.next (0 + 23) = some (.int .i64 r2_From) ∧
 H22.cell H.next (0 + 24) = some (.int .i64 r2_FromEpoch) ∧
 H22.cell H.next (0 + 25) = some (.bool r2_Keep) ∧
 Q (.agg ⟨[.int .i64 r2_Job, .int .i64 r2_Epoch, .int .i64 r2_Step, .int .i64 r2_Phase, .slice r2_Partsa r2_Partsl r2_Partsc, .slice r2_Assigneda r2_Assignedl r2_Assignedc, .string ⟨⟨r2_Spec_Program⟩⟩, .slice r2_Spec_Graph_Verticesa r2_Spec_Graph_Verticesl r2_Spec_Graph_Verticesc, .slice r2_Spec_Paramsa r2_Spec_Paramsl r2_Spec_Paramsc, .int .i64 r2_Spec_Steps, .int .i64 r2_Spec_Sent, .int .i64 r2_Spec_Parts, .bool r2_Before_Has_0, .bool r2_Before_Has_1, .bool r2_Before_Has_2, .bool r2_Before_Has_3, .bool r2_Before_Has_4, .int .i64 r2_Before_V_0, .int .i64 r2_Before_V_1, .int .i64 r2_Before_V_2, .int .i64 r2_Before_V_3, .int .i64 r2_Before_V_4, .int .i64 r2_Many, .int .i64 r2_From, .int .i64 r2_FromEpoch, .bool r2_Keep]⟩) H22))
set_option maxRecDepth 100000 in
theorem fw_master_TakeTask {r0b : Nat} {H : AH} {Q : Value → AH → Prop} (h : VC_master_TakeTask r0b H Q) : FW Ee F_master_TakeTask [.pointer (some ⟨r0b, 0, none⟩)] H Q := by
  have e : VC_master_TakeTask r0b H Q = wpF Ee ⟨[], []⟩ F_master_TakeTask [.pointer (some ⟨r0b, 0, none⟩)] H Q := by kernel_rfl
  letI : Sy := sy0
  exact wpF_sound (Eq.mp e h)
end Go.Proofs.Cx
