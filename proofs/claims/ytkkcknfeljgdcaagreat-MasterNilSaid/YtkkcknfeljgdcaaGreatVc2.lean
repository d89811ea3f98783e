/- What calls come to, as formulas: printed by a program. What calls come to, as formulas: printed by a program. What calls come to, as formulas: printed by a program. What calls come to, as formulas: printed by a program. What calls come to, as formulas: printed by a program. -/
import Derived.Test.YtkkcknfeljgdcaaGreatVc0
namespace Go.Proofs.Cx
open Go Go.Ev
set_option linter.unusedVariables false
set_option maxRecDepth 100000
set_option maxHeartbeats 8000000
end Go.Proofs.Cx

namespace Go.Proofs.Cx
open Go Go.Ev
set_option linter.unusedVariables false
set_option maxRecDepth 100000
set_option maxHeartbeats 8000000
/-- cohort/sess.New -/
def VC_sess_New  (H : AH) (Q : Value → AH → Prop) : Prop :=
 ∀ (H1 : AH),
 H1 = H.new (.map [] 0) →
 ∀ (H2 : AH),
 H2 = H1.new (.cells [.map (some H.next)] 0) →
 Q (.pointer (some ⟨H1.next, 0, none⟩)) H2
set_option maxRecDepth 100000 in
theorem fw_sess_New  {H : AH} {Q : Value → AH → Prop} (h : VC_sess_New  H Q) : FW Ee F_sess_New [] H Q := by
  have e : VC_sess_New  H Q = wpF Ee ⟨[], []⟩ F_sess_New [] H Q := by kernel_rfl
  letI : Sy := sy0
  exact wpF_sound (Eq.mp e h)
/-- cohort/master.New -/
def VC_master_New  (H : AH) (Q : Value → AH → Prop) : Prop :=
 FW Ee F_sess_New [] H fun v H1 =>
 ∃ (r1 : Option Addr),
 v = .pointer r1 ∧
 ∀ (H2 : AH),
 H2 = H1.new (.map [] 0) →
 ∀ (H3 : AH),
 H3 = H2.new (.map [] 0) →
 ∀ (H4 : AH),
 H4 = H3.new (.cells [.pointer r1, .map (some H1.next), .map (some H2.next), .int .i64 0, .int .i64 0] 0) →
 Q (.pointer (some ⟨H3.next, 0, none⟩)) H4
set_option maxRecDepth 100000 in
theorem fw_master_New  {H : AH} {Q : Value → AH → Prop} (h : VC_master_New  H Q) : FW Ee F_master_New [] H Q := by
  have e : VC_master_New  H Q = wpF Ee ⟨[], []⟩ F_master_New [] H Q := by kernel_rfl
  letI : Sy := sy0
  exact wpF_sound (Eq.mp e h)
/-- maps.Keys[map[int]*cohort/master.job,int,*cohort/master.job] -/
def VC_maps_Keys_map_int_P_master_job_int_P_master_job (m0 : Option Nat) (H : AH) (Q : Value → AH → Prop) : Prop :=
 ∀ (H1 : AH),
 H1 = H.new (.cells [.map m0] 0) →
 Q (.func (.func F_maps_Keys_map_int_P_master_job_int_P_master_job_1) ⟨[]⟩ ⟨[.pointer (some ⟨H.next, 0, none⟩)]⟩) H1
set_option maxRecDepth 100000 in
theorem fw_maps_Keys_map_int_P_master_job_int_P_master_job {m0 : Option Nat} {H : AH} {Q : Value → AH → Prop} (h : VC_maps_Keys_map_int_P_master_job_int_P_master_job m0 H Q) : FW Ee F_maps_Keys_map_int_P_master_job_int_P_master_job [.map m0] H Q := by
  have e : VC_maps_Keys_map_int_P_master_job_int_P_master_job m0 H Q = wpF Ee ⟨[], []⟩ F_maps_Keys_map_int_P_master_job_int_P_master_job [.map m0] H Q := by kernel_rfl
  letI : Sy := sy0
  exact wpF_sound (Eq.mp e h)
/-- (*cohort/master.Master).ids -/
def VC_master_Master_ids (m0b : Nat) (H : AH) (Q : Value → AH → Prop) : Prop :=
 ∃ (t6 : Option Nat),
 H.cell m0b 1 = some (.map t6) ∧
 FW Ee F_maps_Keys_map_int_P_master_job_int_P_master_job [.map t6] H fun v H1 =>
 ∃ (r7 : Value),
 v = r7 ∧
 FW Ee F_slices_Sorted_int [r7] H1 fun v_1 H2 =>
 ∃ (r8a : Option Addr) (r8l : Nat) (r8c : Nat),
 v_1 = .slice r8a r8l r8c ∧
 Q (.slice r8a r8l r8c) H2
set_option maxRecDepth 100000 in
theorem fw_master_Master_ids {m0b : Nat} {H : AH} {Q : Value → AH → Prop} (h : VC_master_Master_ids m0b H Q) : FW Ee F_master_Master_ids [.pointer (some ⟨m0b, 0, none⟩)] H Q := by
  have e : VC_master_Master_ids m0b H Q = wpF Ee ⟨[], []⟩ F_master_Master_ids [.pointer (some ⟨m0b, 0, none⟩)] H Q := by kernel_rfl
  letI : Sy := sy0
  exact wpF_sound (Eq.mp e h)
/-- (*cohort/master.Master).current -/
def VC_master_Master_current (m0b : Nat) (H : AH) (Q : Value → AH → Prop) : Prop :=
 FW Ee F_master_Master_ids [.pointer (some ⟨m0b, 0, none⟩)] H fun v H1 =>
 ∃ (r6a : Option Addr) (r6l : Nat) (r6c : Nat),
 v = .slice r6a r6l r6c ∧
 ∃ (Inv : Nat → Option Addr → Int → AH → Prop),
 (
 ∃ (n_1 : Nat),
 Inv n_1 none 0 H1) ∧
 ∀ (n : Nat),
 ∀ (t2 : Option Addr) (t8 : Int) (H2 : AH),
 Inv n t2 t8 H2 →
 cond (decide (t8 < (((r6l : Nat) : Int)))) (
 grd r6a.isSome (
 (0 : Int) ≤ t8 ∧
 (t8 : Int) < ((r6l : Nat) : Int) ∧
 ∃ (t11 : Int),
 H2.cell ((adr r6a).block) ((adr r6a).off + (t8 : Int).toNat * 1) = some (.int .i64 t11) ∧
 ∃ (t15 : Option Nat),
 H2.cell m0b 1 = some (.map t15) ∧
 ∃ (t17 : Option Addr),
 lookupv Ee H2 T_M_int_P_master_job (.map t15) (.int .i64 t11) false = some (.pointer t17) ∧
 grd t17.isSome (
 grd t17.isSome (
 ∃ (t20 : Int),
 H2.cell ((adr t17).block) ((adr t17).off + 7) = some (.int .i64 t20) ∧
 cond (t20 == 2) (
 ∃ (t25 : Option Nat),
 H2.cell m0b 1 = some (.map t25) ∧
 ∃ (t27 : Option Addr),
 lookupv Ee H2 T_M_int_P_master_job (.map t25) (.int .i64 t11) false = some (.pointer t27) ∧
 Q (.pointer t27) H2) (
 ∀ (t28 : Int),
 t28 = IntKind.i64.wrap (t8 + 1) →
 ∃ (m : Nat),
 m < n ∧
 Inv m t2 t28 H2))))) (
 Q (.pointer none) H2)
set_option maxRecDepth 100000 in
theorem fw_master_Master_current {m0b : Nat} {H : AH} {Q : Value → AH → Prop} (h : VC_master_Master_current m0b H Q) : FW Ee F_master_Master_current [.pointer (some ⟨m0b, 0, none⟩)] H Q := by
  have e : VC_master_Master_current m0b H Q = wpF Ee ⟨[], []⟩ F_master_Master_current [.pointer (some ⟨m0b, 0, none⟩)] H Q := by kernel_rfl
  letI : Sy := sy0
  exact wpF_sound (Eq.mp e h)
/-- (*cohort/master.Master).start -/
def VC_master_Master_start (m0b : Nat) (H : AH) (Q : Value → AH → Prop) : Prop :=
 ∃ (t8 : Option Nat),
 H.cell m0b 2 = some (.map t8) ∧
 ((
 t8 = none ∧
 cond ((0 : Int) == 0) (
 Q (.tuple ⟨[]⟩) H) (
 FW Ee F_master_Master_current [.pointer (some ⟨m0b, 0, none⟩)] H fun v H1 =>
 ∃ (r12 : Option Addr),
 v = .pointer r12 ∧
 cond (!r12.isNone) (
 grd r12.isSome (
 grd r12.isSome (
 ∃ (t18a : Option Addr) (t18l : Nat) (t18c : Nat),
 H1.cell ((adr r12).block) ((adr r12).off + 15) = some (.slice t18a t18l t18c) ∧
 cond ((((t18l : Nat) : Int)) == 0) (
 FW Ee F_master_Master_begin [.pointer (some ⟨m0b, 0, none⟩), .pointer r12] H1 fun v_1 H2 =>
 v_1 = .tuple ⟨[]⟩ ∧
 Q (.tuple ⟨[]⟩) H2) (
 Q (.tuple ⟨[]⟩) H1)))) (
 FW Ee F_master_Master_ids [.pointer (some ⟨m0b, 0, none⟩)] H1 fun v_2 H3 =>
 ∃ (r25a : Option Addr) (r25l : Nat) (r25c : Nat),
 v_2 = .slice r25a r25l r25c ∧
 ∃ (Inv : Nat → Int → AH → Prop),
 (
 ∃ (n_1 : Nat),
 Inv n_1 0 H3) ∧
 ∀ (n : Nat),
 ∀ (t27 : Int) (H4 : AH),
 Inv n t27 H4 →
 cond (decide (t27 < (((r25l : Nat) : Int)))) (
 grd r25a.isSome (
 (0 : Int) ≤ t27 ∧
 (t27 : Int) < ((r25l : Nat) : Int) ∧
 ∃ (t30 : Int),
 H4.cell ((adr r25a).block) ((adr r25a).off + (t27 : Int).toNat * 1) = some (.int .i64 t30) ∧
 ∃ (t34 : Option Nat),
 H4.cell m0b 1 = some (.map t34) ∧
 ∃ (t36 : Option Addr),
 lookupv Ee H4 T_M_int_P_master_job (.map t34) (.int .i64 t30) false = some (.pointer t36) ∧
 grd t36.isSome (
 grd t36.isSome (
 ∃ (t39 : Int),
 H4.cell ((adr t36).block) ((adr t36).off + 7) = some (.int .i64 t39) ∧
 cond (t39 == 1) (
 ∃ (t45 : Option Nat),
 H4.cell m0b 1 = some (.map t45) ∧
 ∃ (t47 : Option Addr),
 lookupv Ee H4 T_M_int_P_master_job (.map t45) (.int .i64 t30) false = some (.pointer t47) ∧
 FW Ee F_master_Master_begin [.pointer (some ⟨m0b, 0, none⟩), .pointer t47] H4 fun v_3 H5 =>
 v_3 = .tuple ⟨[]⟩ ∧
 Q (.tuple ⟨[]⟩) H5) (
 ∀ (t49 : Int),
 t49 = IntKind.i64.wrap (t27 + 1) →
 ∃ (m : Nat),
 m < n ∧
 Inv m t49 H4))))) (
 Q (.tuple ⟨[]⟩) H4)))) ∨ (
 ∃ (mb : Nat) (es : List MapEntry) (cl : Nat),
 t8 = some mb ∧
 H.get mb = some (.map es cl) ∧
 cond ((((es.length : Nat) : Int)) == 0) (
 Q (.tuple ⟨[]⟩) H) (
 FW Ee F_master_Master_current [.pointer (some ⟨m0b, 0, none⟩)] H fun v_4 H6 =>
 ∃ (r12_1 : Option Addr),
 v_4 = .pointer r12_1 ∧
 cond (!r12_1.isNone) (
 grd r12_1.isSome (
 grd r12_1.isSome (
 ∃ (t18a_1 : Option Addr) (t18l_1 : Nat) (t18c_1 : Nat),
 H6.cell ((adr r12_1).block) ((adr r12_1).off + 15) = some (.slice t18a_1 t18l_1 t18c_1) ∧
 cond ((((t18l_1 : Nat) : Int)) == 0) (
 FW Ee F_master_Master_begin [.pointer (some ⟨m0b, 0, none⟩), .pointer r12_1] H6 fun v_5 H7 =>
 v_5 = .tuple ⟨[]⟩ ∧
 Q (.tuple ⟨[]⟩) H7) (
 Q (.tuple ⟨[]⟩) H6)))) (
 FW Ee F_master_Master_ids [.pointer (some ⟨m0b, 0, none⟩)] H6 fun v_6 H8 =>
 ∃ (r25a_1 : Option Addr) (r25l_1 : Nat) (r25c_1 : Nat),
 v_6 = .slice r25a_1 r25l_1 r25c_1 ∧
 ∃ (Inv_1 : Nat → Int → AH → Prop),
 (
 ∃ (n_3 : Nat),
 Inv_1 n_3 0 H8) ∧
 ∀ (n_2 : Nat),
 ∀ (t27_1 : Int) (H9 : AH),
 Inv_1 n_2 t27_1 H9 →
 cond (decide (t27_1 < (((r25l_1 : Nat) : Int)))) (
 grd r25a_1.isSome (
 (0 : Int) ≤ t27_1 ∧
 (t27_1 : Int) < ((r25l_1 : Nat) : Int) ∧
 ∃ (t30_1 : Int),
 H9.cell ((adr r25a_1).block) ((adr r25a_1).off + (t27_1 : Int).toNat * 1) = some (.int .i64 t30_1) ∧
 ∃ (t34_1 : Option Nat),
 H9.cell m0b 1 = some (.map t34_1) ∧
 ∃ (t36_1 : Option Addr),
 lookupv Ee H9 T_M_int_P_master_job (.map t34_1) (.int .i64 t30_1) false = some (.pointer t36_1) ∧
 grd t36_1.isSome (
 grd t36_1.isSome (
 ∃ (t39_1 : Int),
 H9.cell ((adr t36_1).block) ((adr t36_1).off + 7) = some (.int .i64 t39_1) ∧
 cond (t39_1 == 1) (
 ∃ (t45_1 : Option Nat),
 H9.cell m0b 1 = some (.map t45_1) ∧
 ∃ (t47_1 : Option Addr),
 lookupv Ee H9 T_M_int_P_master_job (.map t45_1) (.int .i64 t30_1) false = some (.pointer t47_1) ∧
 FW Ee F_master_Master_begin [.pointer (some ⟨m0b, 0, none⟩), .pointer t47_1] H9 fun v_7 H10 =>
 v_7 = .tuple ⟨[]⟩ ∧
 Q (.tuple ⟨[]⟩) H10) (
 ∀ (t49_1 : Int),
 t49_1 = IntKind.i64.wrap (t27_1 + 1) →
 ∃ (m_1 : Nat),
 m_1 < n_2 ∧
 Inv_1 m_1 t49_1 H9))))) (
 Q (.tuple ⟨[]⟩) H9)))))
set_option maxRecDepth 100000 in
theorem fw_master_Master_start {m0b : Nat} {H : AH} {Q : Value → AH → Prop} (h : VC_master_Master_start m0b H Q) : FW Ee F_master_Master_start [.pointer (some ⟨m0b, 0, none⟩)] H Q := by
  have e : VC_master_Master_start m0b H Q = wpF Ee ⟨[], []⟩ F_master_Master_start [.pointer (some ⟨m0b, 0, none⟩)] H Q := by kernel_rfl
  letI : Sy := sy0
  exact wpF_sound (Eq.mp e h)
/-- (*cohort/master.Master).join -/
def VC_master_Master_join (m0b : Nat) (worker1 : Int) (life2 : Int) (H : AH) (Q : Value → AH → Prop) : Prop :=
 ∃ (t12 : Option Nat),
 H.cell m0b 2 = some (.map t12) ∧
 ∃ (t14 : Int) (t14ok : Bool),
 lookupv Ee H T_M_int_int (.map t12) (.int .i64 worker1) true = some (.tuple ⟨[.int .i64 t14, .bool t14ok]⟩) ∧
 cond (t14ok) (
 cond (decide (life2 ≤ t14)) (
 Q (.tuple ⟨[]⟩) H) (
 cond (decide (worker1 < 0)) (
 Q (.tuple ⟨[]⟩) H) (
 cond (decide (worker1 ≥ 64)) (
 Q (.tuple ⟨[]⟩) H) (
 cond (t14ok) (
 FW Ee F_master_Master_lose [.pointer (some ⟨m0b, 0, none⟩), .int .i64 worker1] H fun v H1 =>
 v = .tuple ⟨[]⟩ ∧
 ∃ (t38 : Option Nat),
 H1.cell m0b 2 = some (.map t38) ∧
 ∃ (H2 : AH),
 updatev Ee H1 T_M_int_int (.map t38) (.int .i64 worker1) (.int .i64 life2) = some H2 ∧
 FW Ee F_master_Master_start [.pointer (some ⟨m0b, 0, none⟩)] H2 fun v_1 H3 =>
 v_1 = .tuple ⟨[]⟩ ∧
 Q (.tuple ⟨[]⟩) H3) (
 ∃ (t38_1 : Option Nat),
 H.cell m0b 2 = some (.map t38_1) ∧
 ∃ (H4 : AH),
 updatev Ee H T_M_int_int (.map t38_1) (.int .i64 worker1) (.int .i64 life2) = some H4 ∧
 FW Ee F_master_Master_start [.pointer (some ⟨m0b, 0, none⟩)] H4 fun v_2 H5 =>
 v_2 = .tuple ⟨[]⟩ ∧
 Q (.tuple ⟨[]⟩) H5))))) (
 cond (decide (worker1 < 0)) (
 Q (.tuple ⟨[]⟩) H) (
 cond (decide (worker1 ≥ 64)) (
 Q (.tuple ⟨[]⟩) H) (
 cond (t14ok) (
 FW Ee F_master_Master_lose [.pointer (some ⟨m0b, 0, none⟩), .int .i64 worker1] H fun v_3 H6 =>
 v_3 = .tuple ⟨[]⟩ ∧
 ∃ (t38_2 : Option Nat),
 H6.cell m0b 2 = some (.map t38_2) ∧
 ∃ (H7 : AH),
 updatev Ee H6 T_M_int_int (.map t38_2) (.int .i64 worker1) (.int .i64 life2) = some H7 ∧
 FW Ee F_master_Master_start [.pointer (some ⟨m0b, 0, none⟩)] H7 fun v_4 H8 =>
 v_4 = .tuple ⟨[]⟩ ∧
 Q (.tuple ⟨[]⟩) H8) (
 ∃ (t38_3 : Option Nat),
 H.cell m0b 2 = some (.map t38_3) ∧
 ∃ (H9 : AH),
 updatev Ee H T_M_int_int (.map t38_3) (.int .i64 worker1) (.int .i64 life2) = some H9 ∧
 FW Ee F_master_Master_start [.pointer (some ⟨m0b, 0, none⟩)] H9 fun v_5 H10 =>
 v_5 = .tuple ⟨[]⟩ ∧
 Q (.tuple ⟨[]⟩) H10))))
set_option maxRecDepth 100000 in
theorem fw_master_Master_join {m0b : Nat} {worker1 : Int} {life2 : Int} {H : AH} {Q : Value → AH → Prop} (h : VC_master_Master_join m0b worker1 life2 H Q) : FW Ee F_master_Master_join [.pointer (some ⟨m0b, 0, none⟩), .int .i64 worker1, .int .i64 life2] H Q := by
  have e : VC_master_Master_join m0b worker1 life2 H Q = wpF Ee ⟨[], []⟩ F_master_Master_join [.pointer (some ⟨m0b, 0, none⟩), .int .i64 worker1, .int .i64 life2] H Q := by kernel_rfl
  letI : Sy := sy0
  exact wpF_sound (Eq.mp e h)
/-- (*cohort/master.Master).Apply -/
def VC_master_Master_Apply (m0b : Nat) (c1_Kind : Int) (c1_Session : Int) (c1_Seq : Int) (c1_S : List UInt8) (c1_ID : Int) (c1_Worker : Int) (c1_Life : Int) (c1_Report_Job : Int) (c1_Report_Epoch : Int) (c1_Report_Step : Int) (c1_Report_Phase : Int) (c1_Report_Worker : Int) (c1_Report_Err : Int) (c1_Report_Sent : Int) (c1_Report_Active : Int) (c1_Report_Many : Int) (c1_Report_Agg_Has_0 : Bool) (c1_Report_Agg_Has_1 : Bool) (c1_Report_Agg_Has_2 : Bool) (c1_Report_Agg_Has_3 : Bool) (c1_Report_Agg_Has_4 : Bool) (c1_Report_Agg_V_0 : Int) (c1_Report_Agg_V_1 : Int) (c1_Report_Agg_V_2 : Int) (c1_Report_Agg_V_3 : Int) (c1_Report_Agg_V_4 : Int) (c1_Report_Valuesa : Option Addr) (c1_Report_Valuesl : Nat) (c1_Report_Valuesc : Nat) (H : AH) (Q : Value → AH → Prop) : Prop :=
 ∀ (H1 : AH),
 H1 = H.new (.cells [.pointer (some ⟨m0b, 0, none⟩)] 0) →
 ∀ (H2 : AH),
 H2 = H1.new (.cells [.int .i64 c1_Kind, .int .i64 c1_Session, .int .i64 c1_Seq, .string ⟨⟨c1_S⟩⟩, .int .i64 c1_ID, .int .i64 c1_Worker, .int .i64 c1_Life, .int .i64 c1_Report_Job, .int .i64 c1_Report_Epoch, .int .i64 c1_Report_Step, .int .i64 c1_Report_Phase, .int .i64 c1_Report_Worker, .int .i64 c1_Report_Err, .int .i64 c1_Report_Sent, .int .i64 c1_Report_Active, .int .i64 c1_Report_Many, .bool c1_Report_Agg_Has_0, .bool c1_Report_Agg_Has_1, .bool c1_Report_Agg_Has_2, .bool c1_Report_Agg_Has_3, .bool c1_Report_Agg_Has_4, .int .i64 c1_Report_Agg_V_0, .int .i64 c1_Report_Agg_V_1, .int .i64 c1_Report_Agg_V_2, .int .i64 c1_Report_Agg_V_3, .int .i64 c1_Report_Agg_V_4, .slice c1_Report_Valuesa c1_Report_Valuesl c1_Report_Valuesc] 0) →
 ∀ (H3 : AH),
 H3 = H2.new (.cells [.int .i64 0, .int .i64 0] 0) →
 ∃ (t11 : Option Addr),
 H3.cell H.next 0 = some (.pointer t11) ∧
 cond (t11.isNone) (
 ∃ (H4 : AH),
 storeCellsv H3 H2.next 0 [.int .i64 0, .int .i64 0] = some H4 ∧
 ∃ (r4_Err : Int) (r4_ID : Int),
 H4.cell H2.next (0 + 0) = some (.int .i64 r4_Err) ∧
 H4.cell H2.next (0 + 1) = some (.int .i64 r4_ID) ∧
 Q (.tuple ⟨[.agg ⟨[.int .i64 r4_Err, .int .i64 r4_ID]⟩, .int .i64 1]⟩) H4) (
 ∃ (t15 : Int),
 H3.cell H1.next 0 = some (.int .i64 t15) ∧
 cond (t15 == 1) (
 ∃ (t21 : Option Addr),
 H3.cell H.next 0 = some (.pointer t21) ∧
 grd t21.isSome (
 grd t21.isSome (
 ∃ (t24 : Option Addr),
 H3.cell ((adr t21).block) ((adr t21).off) = some (.pointer t24) ∧
 ∃ (t26 : Int),
 H3.cell H1.next 1 = some (.int .i64 t26) ∧
 ∃ (t28 : Int),
 H3.cell H1.next 2 = some (.int .i64 t28) ∧
 FW Ee F_sess_Table_Do [.pointer t24, .int .i64 t26, .int .i64 t28, .func (.func F_master_Master_Apply_1) ⟨[]⟩ ⟨[.pointer (some ⟨H1.next, 0, none⟩), .pointer (some ⟨H.next, 0, none⟩)]⟩] H3 fun v H5 =>
 ∃ (r30_0 : List UInt8) (r30_1 : Bool) (r30_2 : Int),
 v = .tuple ⟨[.string ⟨⟨r30_0⟩⟩, .bool r30_1, .int .i64 r30_2]⟩ ∧
 cond (r30_2 != 0) (
 ∃ (H6 : AH),
 storeCellsv H5 H2.next 0 [.int .i64 0, .int .i64 0] = some H6 ∧
 ∃ (r4_Err_1 : Int) (r4_ID_1 : Int),
 H6.cell H2.next (0 + 0) = some (.int .i64 r4_Err_1) ∧
 H6.cell H2.next (0 + 1) = some (.int .i64 r4_ID_1) ∧
 Q (.tuple ⟨[.agg ⟨[.int .i64 r4_Err_1, .int .i64 r4_ID_1]⟩, .int .i64 r30_2]⟩) H6) (
 FW Ee F_master_replyOf [.string ⟨⟨r30_0⟩⟩] H5 fun v_1 H7 =>
 ∃ (r39_Err : Int) (r39_ID : Int),
 v_1 = .agg ⟨[.int .i64 r39_Err, .int .i64 r39_ID]⟩ ∧
 ∃ (H8 : AH),
 storeCellsv H7 H2.next 0 [.int .i64 r39_Err, .int .i64 r39_ID] = some H8 ∧
 ∃ (r4_Err_2 : Int) (r4_ID_2 : Int),
 H8.cell H2.next (0 + 0) = some (.int .i64 r4_Err_2) ∧
 H8.cell H2.next (0 + 1) = some (.int .i64 r4_ID_2) ∧
 Q (.tuple ⟨[.agg ⟨[.int .i64 r4_Err_2, .int .i64 r4_ID_2]⟩, .int .i64 0]⟩) H8)))) (
 cond (t15 == 2) (
 ∃ (t21_1 : Option Addr),
 H3.cell H.next 0 = some (.pointer t21_1) ∧
 grd t21_1.isSome (
 grd t21_1.isSome (
 ∃ (t24_1 : Option Addr),
 H3.cell ((adr t21_1).block) ((adr t21_1).off) = some (.pointer t24_1) ∧
 ∃ (t26_1 : Int),
 H3.cell H1.next 1 = some (.int .i64 t26_1) ∧
 ∃ (t28_1 : Int),
 H3.cell H1.next 2 = some (.int .i64 t28_1) ∧
 FW Ee F_sess_Table_Do [.pointer t24_1, .int .i64 t26_1, .int .i64 t28_1, .func (.func F_master_Master_Apply_1) ⟨[]⟩ ⟨[.pointer (some ⟨H1.next, 0, none⟩), .pointer (some ⟨H.next, 0, none⟩)]⟩] H3 fun v_2 H9 =>
 ∃ (r30_0_1 : List UInt8) (r30_1_1 : Bool) (r30_2_1 : Int),
 v_2 = .tuple ⟨[.string ⟨⟨r30_0_1⟩⟩, .bool r30_1_1, .int .i64 r30_2_1]⟩ ∧
 cond (r30_2_1 != 0) (
 ∃ (H10 : AH),
 storeCellsv H9 H2.next 0 [.int .i64 0, .int .i64 0] = some H10 ∧
 ∃ (r4_Err_3 : Int) (r4_ID_3 : Int),
 H10.cell H2.next (0 + 0) = some (.int .i64 r4_Err_3) ∧
 H10.cell H2.next (0 + 1) = some (.int .i64 r4_ID_3) ∧
 Q (.tuple ⟨[.agg ⟨[.int .i64 r4_Err_3, .int .i64 r4_ID_3]⟩, .int .i64 r30_2_1]⟩) H10) (
 FW Ee F_master_replyOf [.string ⟨⟨r30_0_1⟩⟩] H9 fun v_3 H11 =>
 ∃ (r39_Err_1 : Int) (r39_ID_1 : Int),
 v_3 = .agg ⟨[.int .i64 r39_Err_1, .int .i64 r39_ID_1]⟩ ∧
 ∃ (H12 : AH),
 storeCellsv H11 H2.next 0 [.int .i64 r39_Err_1, .int .i64 r39_ID_1] = some H12 ∧
 ∃ (r4_Err_4 : Int) (r4_ID_4 : Int),
 H12.cell H2.next (0 + 0) = some (.int .i64 r4_Err_4) ∧
 H12.cell H2.next (0 + 1) = some (.int .i64 r4_ID_4) ∧
 Q (.tuple ⟨[.agg ⟨[.int .i64 r4_Err_4, .int .i64 r4_ID_4]⟩, .int .i64 0]⟩) H12)))) (
 cond (t15 == 3) (
 ∃ (t42 : Option Addr),
 H3.cell H.next 0 = some (.pointer t42) ∧
 ∃ (t44 : Int),
 H3.cell H1.next 5 = some (.int .i64 t44) ∧
 ∃ (t46 : Int),
 H3.cell H1.next 6 = some (.int .i64 t46) ∧
 FW Ee F_master_Master_join [.pointer t42, .int .i64 t44, .int .i64 t46] H3 fun v_4 H13 =>
 v_4 = .tuple ⟨[]⟩ ∧
 ∃ (H14 : AH),
 storeCellsv H13 H2.next 0 [.int .i64 0, .int .i64 0] = some H14 ∧
 ∃ (r4_Err_5 : Int) (r4_ID_5 : Int),
 H14.cell H2.next (0 + 0) = some (.int .i64 r4_Err_5) ∧
 H14.cell H2.next (0 + 1) = some (.int .i64 r4_ID_5) ∧
 Q (.tuple ⟨[.agg ⟨[.int .i64 r4_Err_5, .int .i64 r4_ID_5]⟩, .int .i64 0]⟩) H14) (
 cond (t15 == 4) (
 ∃ (t51 : Option Addr),
 H3.cell H.next 0 = some (.pointer t51) ∧
 grd t51.isSome (
 grd t51.isSome (
 ∃ (t54 : Option Nat),
 H3.cell ((adr t51).block) ((adr t51).off + 2) = some (.map t54) ∧
 ∃ (t56 : Int),
 H3.cell H1.next 5 = some (.int .i64 t56) ∧
 ∃ (t57 : Int) (t57ok : Bool),
 lookupv Ee H3 T_M_int_int (.map t54) (.int .i64 t56) true = some (.tuple ⟨[.int .i64 t57, .bool t57ok]⟩) ∧
 cond (t57ok) (
 ∃ (t64 : Int),
 H3.cell H1.next 6 = some (.int .i64 t64) ∧
 cond (t57 == t64) (
 ∃ (t67 : Option Addr),
 H3.cell H.next 0 = some (.pointer t67) ∧
 ∃ (t69 : Int),
 H3.cell H1.next 5 = some (.int .i64 t69) ∧
 FW Ee F_master_Master_lose [.pointer t67, .int .i64 t69] H3 fun v_5 H15 =>
 v_5 = .tuple ⟨[]⟩ ∧
 ∃ (H16 : AH),
 storeCellsv H15 H2.next 0 [.int .i64 0, .int .i64 0] = some H16 ∧
 ∃ (r4_Err_6 : Int) (r4_ID_6 : Int),
 H16.cell H2.next (0 + 0) = some (.int .i64 r4_Err_6) ∧
 H16.cell H2.next (0 + 1) = some (.int .i64 r4_ID_6) ∧
 Q (.tuple ⟨[.agg ⟨[.int .i64 r4_Err_6, .int .i64 r4_ID_6]⟩, .int .i64 0]⟩) H16) (
 ∃ (H17 : AH),
 storeCellsv H3 H2.next 0 [.int .i64 0, .int .i64 0] = some H17 ∧
 ∃ (r4_Err_7 : Int) (r4_ID_7 : Int),
 H17.cell H2.next (0 + 0) = some (.int .i64 r4_Err_7) ∧
 H17.cell H2.next (0 + 1) = some (.int .i64 r4_ID_7) ∧
 Q (.tuple ⟨[.agg ⟨[.int .i64 r4_Err_7, .int .i64 r4_ID_7]⟩, .int .i64 0]⟩) H17)) (
 ∃ (H18 : AH),
 storeCellsv H3 H2.next 0 [.int .i64 0, .int .i64 0] = some H18 ∧
 ∃ (r4_Err_8 : Int) (r4_ID_8 : Int),
 H18.cell H2.next (0 + 0) = some (.int .i64 r4_Err_8) ∧
 H18.cell H2.next (0 + 1) = some (.int .i64 r4_ID_8) ∧
 Q (.tuple ⟨[.agg ⟨[.int .i64 r4_Err_8, .int .i64 r4_ID_8]⟩, .int .i64 0]⟩) H18)))) (
 cond (t15 == 5) (
 ∃ (t73 : Option Addr),
 H3.cell H.next 0 = some (.pointer t73) ∧
 ∃ (t75_Job : Int) (t75_Epoch : Int) (t75_Step : Int) (t75_Phase : Int) (t75_Worker : Int) (t75_Err : Int) (t75_Sent : Int) (t75_Active : Int) (t75_Many : Int) (t75_Agg_Has_0 : Bool) (t75_Agg_Has_1 : Bool) (t75_Agg_Has_2 : Bool) (t75_Agg_Has_3 : Bool) (t75_Agg_Has_4 : Bool) (t75_Agg_V_0 : Int) (t75_Agg_V_1 : Int) (t75_Agg_V_2 : Int) (t75_Agg_V_3 : Int) (t75_Agg_V_4 : Int) (t75_Valuesa : Option Addr) (t75_Valuesl : Nat) (t75_Valuesc : Nat),
 H3.cell H1.next (7 + 0) = some (.int .i64 t75_Job) ∧
 H3.cell H1.next (7 + 1) = some (.int .i64 t75_Epoch) ∧
 H3.cell H1.next (7 + 2) = some (.int .i64 t75_Step) ∧
 H3.cell H1.next (7 + 3) = some (.int .i64 t75_Phase) ∧
 H3.cell H1.next (7 + 4) = some (.int .i64 t75_Worker) ∧
 H3.cell H1.next (7 + 5) = some (.int .i64 t75_Err) ∧
 H3.cell H1.next (7 + 6) = some (.int .i64 t75_Sent) ∧
 H3.cell H1.next (7 + 7) = some (.int .i64 t75_Active) ∧
 H3.cell H1.next (7 + 8) = some (.int .i64 t75_Many) ∧
 H3.cell H1.next (7 + 9) = some (.bool t75_Agg_Has_0) ∧
 H3.cell H1.next (7 + 10) = some (.bool t75_Agg_Has_1) ∧
 H3.cell H1.next (7 + 11) = some (.bool t75_Agg_Has_2) ∧
 H3.cell H1.next (7 + 12) = some (.bool t75_Agg_Has_3) ∧
 H3.cell H1.next (7 + 13) = some (.bool t75_Agg_Has_4) ∧
 H3.cell H1.next (7 + 14) = some (.int .i64 t75_Agg_V_0) ∧
 H3.cell H1.next (7 + 15) = some (.int .i64 t75_Agg_V_1) ∧
 H3.cell H1.next (7 + 16) = some (.int .i64 t75_Agg_V_2) ∧
 H3.cell H1.next (7 + 17) = some (.int .i64 t75_Agg_V_3) ∧
 H3.cell H1.next (7 + 18) = some (.int .i64 t75_Agg_V_4) ∧
 H3.cell H1.next (7 + 19) = some (.slice t75_Valuesa t75_Valuesl t75_Valuesc) ∧
 FW Ee F_master_Master_report [.pointer t73, .agg ⟨[.int .i64 t75_Job, .int .i64 t75_Epoch, .int .i64 t75_Step, .int .i64 t75_Phase, .int .i64 t75_Worker, .int .i64 t75_Err, .int .i64 t75_Sent, .int .i64 t75_Active, .int .i64 t75_Many, .bool t75_Agg_Has_0, .bool t75_Agg_Has_1, .bool t75_Agg_Has_2, .bool t75_Agg_Has_3, .bool t75_Agg_Has_4, .int .i64 t75_Agg_V_0, .int .i64 t75_Agg_V_1, .int .i64 t75_Agg_V_2, .int .i64 t75_Agg_V_3, .int .i64 t75_Agg_V_4, .slice t75_Valuesa t75_Valuesl t75_Valuesc]⟩] H3 fun v_6 H19 =>
 v_6 = .tuple ⟨[]⟩ ∧
 ∃ (H20 : AH),
 storeCellsv H19 H2.next 0 [.int .i64 0, .int .i64 0] = some H20 ∧
 ∃ (r4_Err_9 : Int) (r4_ID_9 : Int),
 H20.cell H2.next (0 + 0) = some (.int .i64 r4_Err_9) ∧
 H20.cell H2.next (0 + 1) = some (.int .i64 r4_ID_9) ∧
 Q (.tuple ⟨[.agg ⟨[.int .i64 r4_Err_9, .int .i64 r4_ID_9]⟩, .int .i64 0]⟩) H20) (
 ∃ (H21 : AH),
 storeCellsv H3 H2.next 0 [.int .i64 0, .int .i64 0] = some H21 ∧
 ∃ (r4_Err_10 : Int) (r4_ID_10 : Int),
 H21.cell H2.next (0 + 0) = some (.int .i64 r4_Err_10) ∧
 H21.cell H2.next (0 + 1) = some (.int .i64 r4_ID_10) ∧
 Q (.tuple ⟨[.agg ⟨[.int .i64 r4_Err_10, .int .i64 r4_ID_10]⟩, .int .i64 172]⟩) H21))))))
set_option maxRecDepth 100000 in
theorem fw_master_Master_Apply {m0b : Nat} {c1_Kind : Int} {c1_Session : Int} {c1_Seq : Int} {c1_S : List UInt8} {c1_ID : Int} {c1_Worker : Int} {c1_Life : Int} {c1_Report_Job : Int} {c1_Report_Epoch : Int} {c1_Report_Step : Int} {c1_Report_Phase : Int} {c1_Report_Worker : Int} {c1_Report_Err : Int} {c1_Report_Sent : Int} {c1_Report_Active : Int} {c1_Report_Many : Int} {c1_Report_Agg_Has_0 : Bool} {c1_Report_Agg_Has_1 : Bool} {c1_Report_Agg_Has_2 : Bool} {c1_Report_Agg_Has_3 : Bool} {c1_Report_Agg_Has_4 : Bool} {c1_Report_Agg_V_0 : Int} {c1_Report_Agg_V_1 : Int} {c1_Report_Agg_V_2 : Int} {c1_Report_Agg_V_3 : Int} {c1_Report_Agg_V_4 : Int} {c1_Report_Valuesa : Option Addr} {c1_Report_Valuesl : Nat} {c1_Report_Valuesc : Nat} {H : AH} {Q : Value → AH → Prop} (h : VC_master_Master_Apply m0b c1_Kind c1_Session c1_Seq c1_S c1_ID c1_Worker c1_Life c1_Report_Job c1_Report_Epoch c1_Report_Step c1_Report_Phase c1_Report_Worker c1_Report_Err c1_Report_Sent c1_Report_Active c1_Report_Many c1_Report_Agg_Has_0 c1_Report_Agg_Has_1 c1_Report_Agg_Has_2 c1_Report_Agg_Has_3 c1_Report_Agg_Has_4 c1_Report_Agg_V_0 c1_Report_Agg_V_1 c1_Report_Agg_V_2 c1_Report_Agg_V_3 c1_Report_Agg_V_4 c1_Report_Valuesa c1_Report_Valuesl c1_Report_Valuesc H Q) : FW Ee F_master_Master_Apply [.pointer (some ⟨m0b, 0, none⟩), .agg ⟨[.int .i64 c1_Kind, .int .i64 c1_Session, .int .i64 c1_Seq, .string ⟨⟨c1_S⟩⟩, .int .i64 c1_ID, .int .i64 c1_Worker, .int .i64 c1_Life, .int .i64 c1_Report_Job, .int .i64 c1_Report_Epoch, .int .i64 c1_Report_Step, .int .i64 c1_Report_Phase, .int .i64 c1_Report_Worker, .int .i64 c1_Report_Err, .int .i64 c1_Report_Sent, .int .i64 c1_Report_Active, .int .i64 c1_Report_Many, .bool c1_Report_Agg_Has_0, .bool c1_Report_Agg_Has_1, .bool c1_Report_Agg_Has_2, .bool c1_Report_Agg_Has_3, .bool c1_Report_Agg_Has_4, .int .i64 c1_Report_Agg_V_0, .int .i64 c1_Report_Agg_V_1, .int .i64 c1_Report_Agg_V_2, .int .i64 c1_Report_Agg_V_3, .int .i64 c1_Report_Agg_V_4, .slice c1_Report_Valuesa c1_Report_Valuesl c1_Report_Valuesc]⟩] H Q := by
  have e : VC_master_Master_Apply m0b c1_Kind c1_Session c1_Seq c1_S c1_ID c1_Worker c1_Life c1_Report_Job c1_Report_Epoch c1_Report_Step c1_Report_Phase c1_Report_Worker c1_Report_Err c1_Report_Sent c1_Report_Active c1_Report_Many c1_Report_Agg_Has_0 c1_Report_Agg_Has_1 c1_Report_Agg_Has_2 c1_Report_Agg_Has_3 c1_Report_Agg_Has_4 c1_Report_Agg_V_0 c1_Report_Agg_V_1 c1_Report_Agg_V_2 c1_Report_Agg_V_3 c1_Report_Agg_V_4 c1_Report_Valuesa c1_Report_Valuesl c1_Report_Valuesc H Q = wpF Ee ⟨[], []⟩ F_master_Master_Apply [.pointer (some ⟨m0b, 0, none⟩), .agg ⟨[.int .i64 c1_Kind, .int .i64 c1_Session, .int .i64 c1_Seq, .string ⟨⟨c1_S⟩⟩, .int .i64 c1_ID, .int .i64 c1_Worker, .int .i64 c1_Life, .int .i64 c1_Report_Job, .int .i64 c1_Report_Epoch, .int .i64 c1_Report_Step, .int .i64 c1_Report_Phase, .int .i64 c1_Report_Worker, .int .i64 c1_Report_Err, .int .i64 c1_Report_Sent, .int .i64 c1_Report_Active, .int .i64 c1_Report_Many, .bool c1_Report_Agg_Has_0, .bool c1_Report_Agg_Has_1, .bool c1_Report_Agg_Has_2, .bool c1_Report_Agg_Has_3, .bool c1_Report_Agg_Has_4, .int .i64 c1_Report_Agg_V_0, .int .i64 c1_Report_Agg_V_1, .int .i64 c1_Report_Agg_V_2, .int .i64 c1_Report_Agg_V_3, .int .i64 c1_Report_Agg_V_4, .slice c1_Report_Valuesa c1_Report_Valuesl c1_Report_Valuesc]⟩] H Q := by kernel_rfl
  letI : Sy := sy0
  exact wpF_sound (Eq.mp e h)
end Go.Proofs.Cx

namespace Go.Proofs.Cx
open Go Go.Ev
set_option linter.unusedVariables false
set_option maxRecDepth 100000
set_option maxHeartbeats 8000000
end Go.Proofs.Cx

namespace Go.Proofs.Cx
open Go Go.Ev
set_option linter.unusedVariables false
set_option maxRecDepth 100000
set_option maxHeartbeats 8000000
/-- (*cohort/master.Master).Apply -/
def VC_nil_master_Master_Apply (c1_Kind : Int) (c1_Session : Int) (c1_Seq : Int) (c1_S : List UInt8) (c1_ID : Int) (c1_Worker : Int) (c1_Life : Int) (c1_Report_Job : Int) (c1_Report_Epoch : Int) (c1_Report_Step : Int) (c1_Report_Phase : Int) (c1_Report_Worker : Int) (c1_Report_Err : Int) (c1_Report_Sent : Int) (c1_Report_Active : Int) (c1_Report_Many : Int) (c1_Report_Agg_Has_0 : Bool) (c1_Report_Agg_Has_1 : Bool) (c1_Report_Agg_Has_2 : Bool) (c1_Report_Agg_Has_3 : Bool) (c1_Report_Agg_Has_4 : Bool) (c1_Report_Agg_V_0 : Int) (c1_Report_Agg_V_1 : Int) (c1_Report_Agg_V_2 : Int) (c1_Report_Agg_V_3 : Int) (c1_Report_Agg_V_4 : Int) (c1_Report_Valuesa : Option Addr) (c1_Report_Valuesl : Nat) (c1_Report_Valuesc : Nat) (H : AH) (Q : Value → AH → Prop) : Prop :=
 ∀ (H1 : AH),
 H1 = H.new (.cells [.pointer none] 0) →
 ∀ (H2 : AH),
 H2 = H1.new (.cells [.int .i64 c1_Kind, .int .i64 c1_Session, .int .i64 c1_Seq, .string ⟨⟨c1_S⟩⟩, .int .i64 c1_ID, .int .i64 c1_Worker, .int .i64 c1_Life, .int .i64 c1_Report_Job, .int .i64 c1_Report_Epoch, .int .i64 c1_Report_Step, .int .i64 c1_Report_Phase, .int .i64 c1_Report_Worker, .int .i64 c1_Report_Err, .int .i64 c1_Report_Sent, .int .i64 c1_Report_Active, .int .i64 c1_Report_Many, .bool c1_Report_Agg_Has_0, .bool c1_Report_Agg_Has_1, .bool c1_Report_Agg_Has_2, .bool c1_Report_Agg_Has_3, .bool c1_Report_Agg_Has_4, .int .i64 c1_Report_Agg_V_0, .int .i64 c1_Report_Agg_V_1, .int .i64 c1_Report_Agg_V_2, .int .i64 c1_Report_Agg_V_3, .int .i64 c1_Report_Agg_V_4, .slice c1_Report_Valuesa c1_Report_Valuesl c1_Report_Valuesc] 0) →
 ∀ (H3 : AH),
 H3 = H2.new (.cells [.int .i64 0, .int .i64 0] 0) →
 ∃ (t11 : Option Addr),
 H3.cell H.next 0 = some (.pointer t11) ∧
 cond (t11.isNone) (
 ∃ (H4 : AH),
 storeCellsv H3 H2.next 0 [.int .i64 0, .int .i64 0] = some H4 ∧
 ∃ (r4_Err : Int) (r4_ID : Int),
 H4.cell H2.next (0 + 0) = some (.int .i64 r4_Err) ∧
 H4.cell H2.next (0 + 1) = some (.int .i64 r4_ID) ∧
 Q (.tuple ⟨[.agg ⟨[.int .i64 r4_Err, .int .i64 r4_ID]⟩, .int .i64 1]⟩) H4) (
 ∃ (t15 : Int),
 H3.cell H1.next 0 = some (.int .i64 t15) ∧
 cond (t15 == 1) (
 ∃ (t21 : Option Addr),
 H3.cell H.next 0 = some (.pointer t21) ∧
 grd t21.isSome (
 grd t21.isSome (
 ∃ (t24 : Option Addr),
 H3.cell ((adr t21).block) ((adr t21).off) = some (.pointer t24) ∧
 ∃ (t26 : Int),
 H3.cell H1.next 1 = some (.int .i64 t26) ∧
 ∃ (t28 : Int),
 H3.cell H1.next 2 = some (.int .i64 t28) ∧
 FW Ee F_sess_Table_Do [.pointer t24, .int .i64 t26, .int .i64 t28, .func (.func F_master_Master_Apply_1) ⟨[]⟩ ⟨[.pointer (some ⟨H1.next, 0, none⟩), .pointer (some ⟨H.next, 0, none⟩)]⟩] H3 fun v H5 =>
 ∃ (r30_0 : List UInt8) (r30_1 : Bool) (r30_2 : Int),
 v = .tuple ⟨[.string ⟨⟨r30_0⟩⟩, .bool r30_1, .int .i64 r30_2]⟩ ∧
 cond (r30_2 != 0) (
 ∃ (H6 : AH),
 storeCellsv H5 H2.next 0 [.int .i64 0, .int .i64 0] = some H6 ∧
 ∃ (r4_Err_1 : Int) (r4_ID_1 : Int),
 H6.cell H2.next (0 + 0) = some (.int .i64 r4_Err_1) ∧
 H6.cell H2.next (0 + 1) = some (.int .i64 r4_ID_1) ∧
 Q (.tuple ⟨[.agg ⟨[.int .i64 r4_Err_1, .int .i64 r4_ID_1]⟩, .int .i64 r30_2]⟩) H6) (
 FW Ee F_master_replyOf [.string ⟨⟨r30_0⟩⟩] H5 fun v_1 H7 =>
 ∃ (r39_Err : Int) (r39_ID : Int),
 v_1 = .agg ⟨[.int .i64 r39_Err, .int .i64 r39_ID]⟩ ∧
 ∃ (H8 : AH),
 storeCellsv H7 H2.next 0 [.int .i64 r39_Err, .int .i64 r39_ID] = some H8 ∧
 ∃ (r4_Err_2 : Int) (r4_ID_2 : Int),
 H8.cell H2.next (0 + 0) = some (.int .i64 r4_Err_2) ∧
 H8.cell H2.next (0 + 1) = some (.int .i64 r4_ID_2) ∧
 Q (.tuple ⟨[.agg ⟨[.int .i64 r4_Err_2, .int .i64 r4_ID_2]⟩, .int .i64 0]⟩) H8)))) (
 cond (t15 == 2) (
 ∃ (t21_1 : Option Addr),
 H3.cell H.next 0 = some (.pointer t21_1) ∧
 grd t21_1.isSome (
 grd t21_1.isSome (
 ∃ (t24_1 : Option Addr),
 H3.cell ((adr t21_1).block) ((adr t21_1).off) = some (.pointer t24_1) ∧
 ∃ (t26_1 : Int),
 H3.cell H1.next 1 = some (.int .i64 t26_1) ∧
 ∃ (t28_1 : Int),
 H3.cell H1.next 2 = some (.int .i64 t28_1) ∧
 FW Ee F_sess_Table_Do [.pointer t24_1, .int .i64 t26_1, .int .i64 t28_1, .func (.func F_master_Master_Apply_1) ⟨[]⟩ ⟨[.pointer (some ⟨H1.next, 0, none⟩), .pointer (some ⟨H.next, 0, none⟩)]⟩] H3 fun v_2 H9 =>
 ∃ (r30_0_1 : List UInt8) (r30_1_1 : Bool) (r30_2_1 : Int),
 v_2 = .tuple ⟨[.string ⟨⟨r30_0_1⟩⟩, .bool r30_1_1, .int .i64 r30_2_1]⟩ ∧
 cond (r30_2_1 != 0) (
 ∃ (H10 : AH),
 storeCellsv H9 H2.next 0 [.int .i64 0, .int .i64 0] = some H10 ∧
 ∃ (r4_Err_3 : Int) (r4_ID_3 : Int),
 H10.cell H2.next (0 + 0) = some (.int .i64 r4_Err_3) ∧
 H10.cell H2.next (0 + 1) = some (.int .i64 r4_ID_3) ∧
 Q (.tuple ⟨[.agg ⟨[.int .i64 r4_Err_3, .int .i64 r4_ID_3]⟩, .int .i64 r30_2_1]⟩) H10) (
 FW Ee F_master_replyOf [.string ⟨⟨r30_0_1⟩⟩] H9 fun v_3 H11 =>
 ∃ (r39_Err_1 : Int) (r39_ID_1 : Int),
 v_3 = .agg ⟨[.int .i64 r39_Err_1, .int .i64 r39_ID_1]⟩ ∧
 ∃ (H12 : AH),
 storeCellsv H11 H2.next 0 [.int .i64 r39_Err_1, .int .i64 r39_ID_1] = some H12 ∧
 ∃ (r4_Err_4 : Int) (r4_ID_4 : Int),
 H12.cell H2.next (0 + 0) = some (.int .i64 r4_Err_4) ∧
 H12.cell H2.next (0 + 1) = some (.int .i64 r4_ID_4) ∧
 Q (.tuple ⟨[.agg ⟨[.int .i64 r4_Err_4, .int .i64 r4_ID_4]⟩, .int .i64 0]⟩) H12)))) (
 cond (t15 == 3) (
 ∃ (t42 : Option Addr),
 H3.cell H.next 0 = some (.pointer t42) ∧
 ∃ (t44 : Int),
 H3.cell H1.next 5 = some (.int .i64 t44) ∧
 ∃ (t46 : Int),
 H3.cell H1.next 6 = some (.int .i64 t46) ∧
 FW Ee F_master_Master_join [.pointer t42, .int .i64 t44, .int .i64 t46] H3 fun v_4 H13 =>
 v_4 = .tuple ⟨[]⟩ ∧
 ∃ (H14 : AH),
 storeCellsv H13 H2.next 0 [.int .i64 0, .int .i64 0] = some H14 ∧
 ∃ (r4_Err_5 : Int) (r4_ID_5 : Int),
 H14.cell H2.next (0 + 0) = some (.int .i64 r4_Err_5) ∧
 H14.cell H2.next (0 + 1) = some (.int .i64 r4_ID_5) ∧
 Q (.tuple ⟨[.agg ⟨[.int .i64 r4_Err_5, .int .i64 r4_ID_5]⟩, .int .i64 0]⟩) H14) (
 cond (t15 == 4) (
 ∃ (t51 : Option Addr),
 H3.cell H.next 0 = some (.pointer t51) ∧
 grd t51.isSome (
 grd t51.isSome (
 ∃ (t54 : Option Nat),
 H3.cell ((adr t51).block) ((adr t51).off + 2) = some (.map t54) ∧
 ∃ (t56 : Int),
 H3.cell H1.next 5 = some (.int .i64 t56) ∧
 ∃ (t57 : Int) (t57ok : Bool),
 lookupv Ee H3 T_M_int_int (.map t54) (.int .i64 t56) true = some (.tuple ⟨[.int .i64 t57, .bool t57ok]⟩) ∧
 cond (t57ok) (
 ∃ (t64 : Int),
 H3.cell H1.next 6 = some (.int .i64 t64) ∧
 cond (t57 == t64) (
 ∃ (t67 : Option Addr),
 H3.cell H.next 0 = some (.pointer t67) ∧
 ∃ (t69 : Int),
 H3.cell H1.next 5 = some (.int .i64 t69) ∧
 FW Ee F_master_Master_lose [.pointer t67, .int .i64 t69] H3 fun v_5 H15 =>
 v_5 = .tuple ⟨[]⟩ ∧
 ∃ (H16 : AH),
 storeCellsv H15 H2.next 0 [.int .i64 0, .int .i64 0] = some H16 ∧
 ∃ (r4_Err_6 : Int) (r4_ID_6 : Int),
 H16.cell H2.next (0 + 0) = some (.int .i64 r4_Err_6) ∧
 H16.cell H2.next (0 + 1) = some (.int .i64 r4_ID_6) ∧
 Q (.tuple ⟨[.agg ⟨[.int .i64 r4_Err_6, .int .i64 r4_ID_6]⟩, .int .i64 0]⟩) H16) (
 ∃ (H17 : AH),
 storeCellsv H3 H2.next 0 [.int .i64 0, .int .i64 0] = some H17 ∧
 ∃ (r4_Err_7 : Int) (r4_ID_7 : Int),
 H17.cell H2.next (0 + 0) = some (.int .i64 r4_Err_7) ∧
 H17.cell H2.next (0 + 1) = some (.int .i64 r4_ID_7) ∧
 Q (.tuple ⟨[.agg ⟨[.int .i64 r4_Err_7, .int .i64 r4_ID_7]⟩, .int .i64 0]⟩) H17)) (
 ∃ (H18 : AH),
 storeCellsv H3 H2.next 0 [.int .i64 0, .int .i64 0] = some H18 ∧
 ∃ (r4_Err_8 : Int) (r4_ID_8 : Int),
 H18.cell H2.next (0 + 0) = some (.int .i64 r4_Err_8) ∧
 H18.cell H2.next (0 + 1) = some (.int .i64 r4_ID_8) ∧
 Q (.tuple ⟨[.agg ⟨[.int .i64 r4_Err_8, .int .i64 r4_ID_8]⟩, .int .i64 0]⟩) H18)))) (
 cond (t15 == 5) (
 ∃ (t73 : Option Addr),
 H3.cell H.next 0 = some (.pointer t73) ∧
 ∃ (t75_Job : Int) (t75_Epoch : Int) (t75_Step : Int) (t75_Phase : Int) (t75_Worker : Int) (t75_Err : Int) (t75_Sent : Int) (t75_Active : Int) (t75_Many : Int) (t75_Agg_Has_0 : Bool) (t75_Agg_Has_1 : Bool) (t75_Agg_Has_2 : Bool) (t75_Agg_Has_3 : Bool) (t75_Agg_Has_4 : Bool) (t75_Agg_V_0 : Int) (t75_Agg_V_1 : Int) (t75_Agg_V_2 : Int) (t75_Agg_V_3 : Int) (t75_Agg_V_4 : Int) (t75_Valuesa : Option Addr) (t75_Valuesl : Nat) (t75_Valuesc : Nat),
 H3.cell H1.next (7 + 0) = some (.int .i64 t75_Job) ∧
 H3.cell H1.next (7 + 1) = some (.int .i64 t75_Epoch) ∧
 H3.cell H1.next (7 + 2) = some (.int .i64 t75_Step) ∧
 H3.cell H1.next (7 + 3) = some (.int .i64 t75_Phase) ∧
 H3.cell H1.next (7 + 4) = some (.int .i64 t75_Worker) ∧
 H3.cell H1.next (7 + 5) = some (.int .i64 t75_Err) ∧
 H3.cell H1.next (7 + 6) = some (.int .i64 t75_Sent) ∧
 H3.cell H1.next (7 + 7) = some (.int .i64 t75_Active) ∧
 H3.cell H1.next (7 + 8) = some (.int .i64 t75_Many) ∧
 H3.cell H1.next (7 + 9) = some (.bool t75_Agg_Has_0) ∧
 H3.cell H1.next (7 + 10) = some (.bool t75_Agg_Has_1) ∧
 H3.cell H1.next (7 + 11) = some (.bool t75_Agg_Has_2) ∧
 H3.cell H1.next (7 + 12) = some (.bool t75_Agg_Has_3) ∧
 H3.cell H1.next (7 + 13) = some (.bool t75_Agg_Has_4) ∧
 H3.cell H1.next (7 + 14) = some (.int .i64 t75_Agg_V_0) ∧
 H3.cell H1.next (7 + 15) = some (.int .i64 t75_Agg_V_1) ∧
 H3.cell H1.next (7 + 16) = some (.int .i64 t75_Agg_V_2) ∧
 H3.cell H1.next (7 + 17) = some (.int .i64 t75_Agg_V_3) ∧
 H3.cell H1.next (7 + 18) = some (.int .i64 t75_Agg_V_4) ∧
 H3.cell H1.next (7 + 19) = some (.slice t75_Valuesa t75_Valuesl t75_Valuesc) ∧
 FW Ee F_master_Master_report [.pointer t73, .agg ⟨[.int .i64 t75_Job, .int .i64 t75_Epoch, .int .i64 t75_Step, .int .i64 t75_Phase, .int .i64 t75_Worker, .int .i64 t75_Err, .int .i64 t75_Sent, .int .i64 t75_Active, .int .i64 t75_Many, .bool t75_Agg_Has_0, .bool t75_Agg_Has_1, .bool t75_Agg_Has_2, .bool t75_Agg_Has_3, .bool t75_Agg_Has_4, .int .i64 t75_Agg_V_0, .int .i64 t75_Agg_V_1, .int .i64 t75_Agg_V_2, .int .i64 t75_Agg_V_3, .int .i64 t75_Agg_V_4, .slice t75_Valuesa t75_Valuesl t75_Valuesc]⟩] H3 fun v_6 H19 =>
 v_6 = .tuple ⟨[]⟩ ∧
 ∃ (H20 : AH),
 storeCellsv H19 H2.next 0 [.int .i64 0, .int .i64 0] = some H20 ∧
 ∃ (r4_Err_9 : Int) (r4_ID_9 : Int),
 H20.cell H2.next (0 + 0) = some (.int .i64 r4_Err_9) ∧
 H20.cell H2.next (0 + 1) = some (.int .i64 r4_ID_9) ∧
 Q (.tuple ⟨[.agg ⟨[.int .i64 r4_Err_9, .int .i64 r4_ID_9]⟩, .int .i64 0]⟩) H20) (
 ∃ (H21 : AH),
 storeCellsv H3 H2.next 0 [.int .i64 0, .int .i64 0] = some H21 ∧
 ∃ (r4_Err_10 : Int) (r4_ID_10 : Int),
 H21.cell H2.next (0 + 0) = some (.int .i64 r4_Err_10) ∧
 H21.cell H2.next (0 + 1) = some (.int .i64 r4_ID_10) ∧
 Q (.tuple ⟨[.agg ⟨[.int .i64 r4_Err_10, .int .i64 r4_ID_10]⟩, .int .i64 172]⟩) H21))))))
set_option maxRecDepth 100000 in
theorem fw_nil_master_Master_Apply {c1_Kind : Int} {c1_Session : Int} {c1_Seq : Int} {c1_S : List UInt8} {c1_ID : Int} {c1_Worker : Int} {c1_Life : Int} {c1_Report_Job : Int} {c1_Report_Epoch : Int} {c1_Report_Step : Int} {c1_Report_Phase : Int} {c1_Report_Worker : Int} {c1_Report_Err : Int} {c1_Report_Sent : Int} {c1_Report_Active : Int} {c1_Report_Many : Int} {c1_Report_Agg_Has_0 : Bool} {c1_Report_Agg_Has_1 : Bool} {c1_Report_Agg_Has_2 : Bool} {c1_Report_Agg_Has_3 : Bool} {c1_Report_Agg_Has_4 : Bool} {c1_Report_Agg_V_0 : Int} {c1_Report_Agg_V_1 : Int} {c1_Report_Agg_V_2 : Int} {c1_Report_Agg_V_3 : Int} {c1_Report_Agg_V_4 : Int} {c1_Report_Valuesa : Option Addr} {c1_Report_Valuesl : Nat} {c1_Report_Valuesc : Nat} {H : AH} {Q : Value → AH → Prop} (h : VC_nil_master_Master_Apply c1_Kind c1_Session c1_Seq c1_S c1_ID c1_Worker c1_Life c1_Report_Job c1_Report_Epoch c1_Report_Step c1_Report_Phase c1_Report_Worker c1_Report_Err c1_Report_Sent c1_Report_Active c1_Report_Many c1_Report_Agg_Has_0 c1_Report_Agg_Has_1 c1_Report_Agg_Has_2 c1_Report_Agg_Has_3 c1_Report_Agg_Has_4 c1_Report_Agg_V_0 c1_Report_Agg_V_1 c1_Report_Agg_V_2 c1_Report_Agg_V_3 c1_Report_Agg_V_4 c1_Report_Valuesa c1_Report_Valuesl c1_Report_Valuesc H Q) : FW Ee F_master_Master_Apply [.pointer none, .agg ⟨[.int .i64 c1_Kind, .int .i64 c1_Session, .int .i64 c1_Seq, .string ⟨⟨c1_S⟩⟩, .int .i64 c1_ID, .int .i64 c1_Worker, .int .i64 c1_Life, .int .i64 c1_Report_Job, .int .i64 c1_Report_Epoch, .int .i64 c1_Report_Step, .int .i64 c1_Report_Phase, .int .i64 c1_Report_Worker, .int .i64 c1_Report_Err, .int .i64 c1_Report_Sent, .int .i64 c1_Report_Active, .int .i64 c1_Report_Many, .bool c1_Report_Agg_Has_0, .bool c1_Report_Agg_Has_1, .bool c1_Report_Agg_Has_2, .bool c1_Report_Agg_Has_3, .bool c1_Report_Agg_Has_4, .int .i64 c1_Report_Agg_V_0, .int .i64 c1_Report_Agg_V_1, .int .i64 c1_Report_Agg_V_2, .int .i64 c1_Report_Agg_V_3, .int .i64 c1_Report_Agg_V_4, .slice c1_Report_Valuesa c1_Report_Valuesl c1_Report_Valuesc]⟩] H Q := by
  have e : VC_nil_master_Master_Apply c1_Kind c1_Session c1_Seq c1_S c1_ID c1_Worker c1_Life c1_Report_Job c1_Report_Epoch c1_Report_Step c1_Report_Phase c1_Report_Worker c1_Report_Err c1_Report_Sent c1_Report_Active c1_Report_Many c1_Report_Agg_Has_0 c1_Report_Agg_Has_1 c1_Report_Agg_Has_2 c1_Report_Agg_Has_3 c1_Report_Agg_Has_4 c1_Report_Agg_V_0 c1_Report_Agg_V_1 c1_Report_Agg_V_2 c1_Report_Agg_V_3 c1_Report_Agg_V_4 c1_Report_Valuesa c1_Report_Valuesl c1_Report_Valuesc H Q = wpF Ee ⟨[], []⟩ F_master_Master_Apply [.pointer none, .agg ⟨[.int .i64 c1_Kind, .int .i64 c1_Session, .int .i64 c1_Seq, .string ⟨⟨c1_S⟩⟩, .int .i64 c1_ID, .int .i64 c1_Worker, .int .i64 c1_Life, .int .i64 c1_Report_Job, .int .i64 c1_Report_Epoch, .int .i64 c1_Report_Step, .int .i64 c1_Report_Phase, .int .i64 c1_Report_Worker, .int .i64 c1_Report_Err, .int .i64 c1_Report_Sent, .int .i64 c1_Report_Active, .int .i64 c1_Report_Many, .bool c1_Report_Agg_Has_0, .bool c1_Report_Agg_Has_1, .bool c1_Report_Agg_Has_2, .bool c1_Report_Agg_Has_3, .bool c1_Report_Agg_Has_4, .int .i64 c1_Report_Agg_V_0, .int .i64 c1_Report_Agg_V_1, .int .i64 c1_Report_Agg_V_2, .int .i64 c1_Report_Agg_V_3, .int .i64 c1_Report_Agg_V_4, .slice c1_Report_Valuesa c1_Report_Valuesl c1_Report_Valuesc]⟩] H Q := by kernel_rfl
  letI : Sy := sy0
  exact wpF_sound (Eq.mp e h)
/-- (*cohort/master.Master).Look -/
def VC_nil_master_Master_Look (session1 : Int) (seq2 : Int) (H : AH) (Q : Value → AH → Prop) : Prop :=
 ∀ (H1 : AH),
 H1 = H.new (.cells [.int .i64 0, .int .i64 0] 0) →
 ∃ (H2 : AH),
 storeCellsv H1 H.next 0 [.int .i64 0, .int .i64 0] = some H2 ∧
 ∃ (r6_Err : Int) (r6_ID : Int),
 H2.cell H.next (0 + 0) = some (.int .i64 r6_Err) ∧
 H2.cell H.next (0 + 1) = some (.int .i64 r6_ID) ∧
 Q (.tuple ⟨[.agg ⟨[.int .i64 r6_Err, .int .i64 r6_ID]⟩, .bool false, .int .i64 1]⟩) H2
set_option maxRecDepth 100000 in
theorem fw_nil_master_Master_Look {session1 : Int} {seq2 : Int} {H : AH} {Q : Value → AH → Prop} (h : VC_nil_master_Master_Look session1 seq2 H Q) : FW Ee F_master_Master_Look [.pointer none, .int .i64 session1, .int .i64 seq2] H Q := by
  have e : VC_nil_master_Master_Look session1 seq2 H Q = wpF Ee ⟨[], []⟩ F_master_Master_Look [.pointer none, .int .i64 session1, .int .i64 seq2] H Q := by kernel_rfl
  letI : Sy := sy0
  exact wpF_sound (Eq.mp e h)
/-- (*cohort/master.Master).Task -/
def VC_nil_master_Master_Task (worker1 : Int) (H : AH) (Q : Value → AH → Prop) : Prop :=
 ∀ (H1 : AH),
 H1 = H.new (.cells [.int .i64 0, .int .i64 0, .int .i64 0, .int .i64 0, .slice none 0 0, .slice none 0 0, .string ⟨⟨[]⟩⟩, .slice none 0 0, .slice none 0 0, .int .i64 0, .int .i64 0, .int .i64 0, .bool false, .bool false, .bool false, .bool false, .bool false, .int .i64 0, .int .i64 0, .int .i64 0, .int .i64 0, .int .i64 0, .int .i64 0, .int .i64 0, .int .i64 0, .bool false] 0) →
 ∃ (H2 : AH),
 storeCellsv H1 H.next 0 [.int .i64 0, .int .i64 0, .int .i64 0, .int .i64 0, .slice none 0 0, .slice none 0 0, .string ⟨⟨[]⟩⟩, .slice none 0 0, .slice none 0 0, .int .i64 0, .int .i64 0, .int .i64 0, .bool false, .bool false, .bool false, .bool false, .bool false, .int .i64 0, .int .i64 0, .int .i64 0, .int .i64 0, .int .i64 0, .int .i64 0, .int .i64 0, .int .i64 0, .bool false] = some H2 ∧
 ∃ (r4_Job : Int) (r4_Epoch : Int) (r4_Step : Int) (r4_Phase : Int) (r4_Partsa : Option Addr) (r4_Partsl : Nat) (r4_Partsc : Nat) (r4_Assigneda : Option Addr) (r4_Assignedl : Nat) (r4_Assignedc : Nat) (r4_Spec_Program : List UInt8) (r4_Spec_Graph_Verticesa : Option Addr) (r4_Spec_Graph_Verticesl : Nat) (r4_Spec_Graph_Verticesc : Nat) (r4_Spec_Paramsa : Option Addr) (r4_Spec_Paramsl : Nat) (r4_Spec_Paramsc : Nat) (r4_Spec_Steps : Int) (r4_Spec_Sent : Int) (r4_Spec_Parts : Int) (r4_Before_Has_0 : Bool) (r4_Before_Has_1 : Bool) (r4_Before_Has_2 : Bool) (r4_Before_Has_3 : Bool) (r4_Before_Has_4 : Bool) (r4_Before_V_0 : Int) (r4_Before_V_1 : Int) (r4_Before_V_2 : Int) (r4_Before_V_3 : Int) (r4_Before_V_4 : Int) (r4_Many : Int) (r4_From : Int) (r4_FromEpoch : Int) (r4_Keep : Bool),
 H2.cell H.next (0 + 0) = some (.int .i64 r4_Job) ∧
 H2.cell H.next (0 + 1) = some (.int .i64 r4_Epoch) ∧
 H2.cell H.next (0 + 2) = some (.int .i64 r4_Step) ∧
 H2.cell H.next (0 + 3) = some (.int .i64 r4_Phase) ∧
 H2.cell H.next (0 + 4) = some (.slice r4_Partsa r4_Partsl r4_Partsc) ∧
 H2.cell H.next (0 + 5) = some (.slice r4_Assigneda r4_Assignedl r4_Assignedc) ∧
 H2.cell H.next (0 + 6) = some (.string ⟨⟨r4_Spec_Program⟩⟩) ∧
 H2.cell H.next (0 + 7) = some (.slice r4_Spec_Graph_Verticesa r4_Spec_Graph_Verticesl r4_Spec_Graph_Verticesc) ∧
 H2.cell H.next (0 + 8) = some (.slice r4_Spec_Paramsa r4_Spec_Paramsl r4_Spec_Paramsc) ∧
 H2.cell H.next (0 + 9) = some (.int .i64 r4_Spec_Steps) ∧
 H2.cell H.next (0 + 10) = some (.int .i64 r4_Spec_Sent) ∧
 H2.cell H.next (0 + 11) = some (.int .i64 r4_Spec_Parts) ∧
 H2.cell H.next (0 + 12) = some (.bool r4_Before_Has_0) ∧
 H2.cell H.next (0 + 13) = some (.bool r4_Before_Has_1) ∧
 H2.cell H.next (0 + 14) = some (.bool r4_Before_Has_2) ∧
 H2.cell H.next (0 + 15) = some (.bool r4_Before_Has_3) ∧
 H2.cell H.next (0 + 16) = some (.bool r4_Before_Has_4) ∧
 H2.cell H.next (0 + 17) = some (.int .i64 r4_Before_V_0) ∧
 H2.cell H.next (0 + 18) = some (.int .i64 r4_Before_V_1) ∧
 H2.cell H.next (0 + 19) = some (.int .i64 r4_Before_V_2) ∧
 H2.cell H.next (0 + 20) = some (.int .i64 r4_Before_V_3) ∧
 H2.cell H.next (0 + 21) = some (.int .i64 r4_Before_V_4) ∧
 H2.cell H.next (0 + 22) = some (.int .i64 r4_Many) ∧
 H2.cell H.next (0 + 23) = some (.int .i64 r4_From) ∧
 H2.cell H.next (0 + 24) = some (.int .i64 r4_FromEpoch) ∧
 H2.cell H.next (0 + 25) = some (.bool r4_Keep) ∧
 Q (.tuple ⟨[.agg ⟨[.int .i64 r4_Job, .int .i64 r4_Epoch, .int .i64 r4_Step, .int .i64 r4_Phase, .slice r4_Partsa r4_Partsl r4_Partsc, .slice r4_Assigneda r4_Assignedl r4_Assignedc, .string ⟨⟨r4_Spec_Program⟩⟩, .slice r4_Spec_Graph_Verticesa r4_Spec_Graph_Verticesl r4_Spec_Graph_Verticesc, .slice r4_Spec_Paramsa r4_Spec_Paramsl r4_Spec_Paramsc, .int .i64 r4_Spec_Steps, .int .i64 r4_Spec_Sent, .int .i64 r4_Spec_Parts, .bool r4_Before_Has_0, .bool r4_Before_Has_1, .bool r4_Before_Has_2, .bool r4_Before_Has_3, .bool r4_Before_Has_4, .int .i64 r4_Before_V_0, .int .i64 r4_Before_V_1, .int .i64 r4_Before_V_2, .int .i64 r4_Before_V_3, .int .i64 r4_Before_V_4, .int .i64 r4_Many, .int .i64 r4_From, .int .i64 r4_FromEpoch, .bool r4_Keep]⟩, .bool false]⟩) H2
set_option maxRecDepth 100000 in
theorem fw_nil_master_Master_Task {worker1 : Int} {H : AH} {Q : Value → AH → Prop} (h : VC_nil_master_Master_Task worker1 H Q) : FW Ee F_master_Master_Task [.pointer none, .int .i64 worker1] H Q := by
  have e : VC_nil_master_Master_Task worker1 H Q = wpF Ee ⟨[], []⟩ F_master_Master_Task [.pointer none, .int .i64 worker1] H Q := by kernel_rfl
  letI : Sy := sy0
  exact wpF_sound (Eq.mp e h)
/-- (*cohort/master.Master).Status -/
def VC_nil_master_Master_Status (id1 : Int) (H : AH) (Q : Value → AH → Prop) : Prop :=
 ∀ (H1 : AH),
 H1 = H.new (.cells [.int .i64 0, .int .i64 0, .int .i64 0, .int .i64 0, .int .i64 0, .int .i64 0, .int .i64 0, .slice none 0 0] 0) →
 ∃ (H2 : AH),
 storeCellsv H1 H.next 0 [.int .i64 0, .int .i64 0, .int .i64 0, .int .i64 0, .int .i64 0, .int .i64 0, .int .i64 0, .slice none 0 0] = some H2 ∧
 ∃ (r4_ID : Int) (r4_State : Int) (r4_Step : Int) (r4_Epoch : Int) (r4_Outcome_Kind : Int) (r4_Outcome_Err : Int) (r4_Outcome_Steps : Int) (r4_Outcome_Valuesa : Option Addr) (r4_Outcome_Valuesl : Nat) (r4_Outcome_Valuesc : Nat),
 H2.cell H.next (0 + 0) = some (.int .i64 r4_ID) ∧
 H2.cell H.next (0 + 1) = some (.int .i64 r4_State) ∧
 H2.cell H.next (0 + 2) = some (.int .i64 r4_Step) ∧
 H2.cell H.next (0 + 3) = some (.int .i64 r4_Epoch) ∧
 H2.cell H.next (0 + 4) = some (.int .i64 r4_Outcome_Kind) ∧
 H2.cell H.next (0 + 5) = some (.int .i64 r4_Outcome_Err) ∧
 H2.cell H.next (0 + 6) = some (.int .i64 r4_Outcome_Steps) ∧
 H2.cell H.next (0 + 7) = some (.slice r4_Outcome_Valuesa r4_Outcome_Valuesl r4_Outcome_Valuesc) ∧
 Q (.tuple ⟨[.agg ⟨[.int .i64 r4_ID, .int .i64 r4_State, .int .i64 r4_Step, .int .i64 r4_Epoch, .int .i64 r4_Outcome_Kind, .int .i64 r4_Outcome_Err, .int .i64 r4_Outcome_Steps, .slice r4_Outcome_Valuesa r4_Outcome_Valuesl r4_Outcome_Valuesc]⟩, .int .i64 1]⟩) H2
set_option maxRecDepth 100000 in
theorem fw_nil_master_Master_Status {id1 : Int} {H : AH} {Q : Value → AH → Prop} (h : VC_nil_master_Master_Status id1 H Q) : FW Ee F_master_Master_Status [.pointer none, .int .i64 id1] H Q := by
  have e : VC_nil_master_Master_Status id1 H Q = wpF Ee ⟨[], []⟩ F_master_Master_Status [.pointer none, .int .i64 id1] H Q := by kernel_rfl
  letI : Sy := sy0
  exact wpF_sound (Eq.mp e h)
/-- (*cohort/master.Master).Spec -/
def VC_nil_master_Master_Spec (id1 : Int) (H : AH) (Q : Value → AH → Prop) : Prop :=
 ∀ (H1 : AH),
 H1 = H.new (.cells [.string ⟨⟨[]⟩⟩, .slice none 0 0, .slice none 0 0, .int .i64 0, .int .i64 0, .int .i64 0] 0) →
 ∃ (H2 : AH),
 storeCellsv H1 H.next 0 [.string ⟨⟨[]⟩⟩, .slice none 0 0, .slice none 0 0, .int .i64 0, .int .i64 0, .int .i64 0] = some H2 ∧
 ∃ (r4_Program : List UInt8) (r4_Graph_Verticesa : Option Addr) (r4_Graph_Verticesl : Nat) (r4_Graph_Verticesc : Nat) (r4_Paramsa : Option Addr) (r4_Paramsl : Nat) (r4_Paramsc : Nat) (r4_Steps : Int) (r4_Sent : Int) (r4_Parts : Int),
 H2.cell H.next (0 + 0) = some (.string ⟨⟨r4_Program⟩⟩) ∧
 H2.cell H.next (0 + 1) = some (.slice r4_Graph_Verticesa r4_Graph_Verticesl r4_Graph_Verticesc) ∧
 H2.cell H.next (0 + 2) = some (.slice r4_Paramsa r4_Paramsl r4_Paramsc) ∧
 H2.cell H.next (0 + 3) = some (.int .i64 r4_Steps) ∧
 H2.cell H.next (0 + 4) = some (.int .i64 r4_Sent) ∧
 H2.cell H.next (0 + 5) = some (.int .i64 r4_Parts) ∧
 Q (.tuple ⟨[.agg ⟨[.string ⟨⟨r4_Program⟩⟩, .slice r4_Graph_Verticesa r4_Graph_Verticesl r4_Graph_Verticesc, .slice r4_Paramsa r4_Paramsl r4_Paramsc, .int .i64 r4_Steps, .int .i64 r4_Sent, .int .i64 r4_Parts]⟩, .bool false]⟩) H2
set_option maxRecDepth 100000 in
theorem fw_nil_master_Master_Spec {id1 : Int} {H : AH} {Q : Value → AH → Prop} (h : VC_nil_master_Master_Spec id1 H Q) : FW Ee F_master_Master_Spec [.pointer none, .int .i64 id1] H Q := by
  have e : VC_nil_master_Master_Spec id1 H Q = wpF Ee ⟨[], []⟩ F_master_Master_Spec [.pointer none, .int .i64 id1] H Q := by kernel_rfl
  letI : Sy := sy0
  exact wpF_sound (Eq.mp e h)
/-- (*cohort/master.Master).Life -/
def VC_nil_master_Master_Life (worker1 : Int) (H : AH) (Q : Value → AH → Prop) : Prop :=
 Q (.tuple ⟨[.int .i64 0, .bool false]⟩) H
set_option maxRecDepth 100000 in
theorem fw_nil_master_Master_Life {worker1 : Int} {H : AH} {Q : Value → AH → Prop} (h : VC_nil_master_Master_Life worker1 H Q) : FW Ee F_master_Master_Life [.pointer none, .int .i64 worker1] H Q := by
  have e : VC_nil_master_Master_Life worker1 H Q = wpF Ee ⟨[], []⟩ F_master_Master_Life [.pointer none, .int .i64 worker1] H Q := by kernel_rfl
  letI : Sy := sy0
  exact wpF_sound (Eq.mp e h)
/-- (*cohort/master.Master).Wants -/
def VC_nil_master_Master_Wants (r1_Job : Int) (r1_Epoch : Int) (r1_Step : Int) (r1_Phase : Int) (r1_Worker : Int) (r1_Err : Int) (r1_Sent : Int) (r1_Active : Int) (r1_Many : Int) (r1_Agg_Has_0 : Bool) (r1_Agg_Has_1 : Bool) (r1_Agg_Has_2 : Bool) (r1_Agg_Has_3 : Bool) (r1_Agg_Has_4 : Bool) (r1_Agg_V_0 : Int) (r1_Agg_V_1 : Int) (r1_Agg_V_2 : Int) (r1_Agg_V_3 : Int) (r1_Agg_V_4 : Int) (r1_Valuesa : Option Addr) (r1_Valuesl : Nat) (r1_Valuesc : Nat) (H : AH) (Q : Value → AH → Prop) : Prop :=
 ∀ (H1 : AH),
 H1 = H.new (.cells [.int .i64 r1_Job, .int .i64 r1_Epoch, .int .i64 r1_Step, .int .i64 r1_Phase, .int .i64 r1_Worker, .int .i64 r1_Err, .int .i64 r1_Sent, .int .i64 r1_Active, .int .i64 r1_Many, .bool r1_Agg_Has_0, .bool r1_Agg_Has_1, .bool r1_Agg_Has_2, .bool r1_Agg_Has_3, .bool r1_Agg_Has_4, .int .i64 r1_Agg_V_0, .int .i64 r1_Agg_V_1, .int .i64 r1_Agg_V_2, .int .i64 r1_Agg_V_3, .int .i64 r1_Agg_V_4, .slice r1_Valuesa r1_Valuesl r1_Valuesc] 0) →
 Q (.bool false) H1
set_option maxRecDepth 100000 in
theorem fw_nil_master_Master_Wants {r1_Job : Int} {r1_Epoch : Int} {r1_Step : Int} {r1_Phase : Int} {r1_Worker : Int} {r1_Err : Int} {r1_Sent : Int} {r1_Active : Int} {r1_Many : Int} {r1_Agg_Has_0 : Bool} {r1_Agg_Has_1 : Bool} {r1_Agg_Has_2 : Bool} {r1_Agg_Has_3 : Bool} {r1_Agg_Has_4 : Bool} {r1_Agg_V_0 : Int} {r1_Agg_V_1 : Int} {r1_Agg_V_2 : Int} {r1_Agg_V_3 : Int} {r1_Agg_V_4 : Int} {r1_Valuesa : Option Addr} {r1_Valuesl : Nat} {r1_Valuesc : Nat} {H : AH} {Q : Value → AH → Prop} (h : VC_nil_master_Master_Wants r1_Job r1_Epoch r1_Step r1_Phase r1_Worker r1_Err r1_Sent r1_Active r1_Many r1_Agg_Has_0 r1_Agg_Has_1 r1_Agg_Has_2 r1_Agg_Has_3 r1_Agg_Has_4 r1_Agg_V_0 r1_Agg_V_1 r1_Agg_V_2 r1_Agg_V_3 r1_Agg_V_4 r1_Valuesa r1_Valuesl r1_Valuesc H Q) : FW Ee F_master_Master_Wants [.pointer none, .agg ⟨[.int .i64 r1_Job, .int .i64 r1_Epoch, .int .i64 r1_Step, .int .i64 r1_Phase, .int .i64 r1_Worker, .int .i64 r1_Err, .int .i64 r1_Sent, .int .i64 r1_Active, .int .i64 r1_Many, .bool r1_Agg_Has_0, .bool r1_Agg_Has_1, .bool r1_Agg_Has_2, .bool r1_Agg_Has_3, .bool r1_Agg_Has_4, .int .i64 r1_Agg_V_0, .int .i64 r1_Agg_V_1, .int .i64 r1_Agg_V_2, .int .i64 r1_Agg_V_3, .int .i64 r1_Agg_V_4, .slice r1_Valuesa r1_Valuesl r1_Valuesc]⟩] H Q := by
  have e : VC_nil_master_Master_Wants r1_Job r1_Epoch r1_Step r1_Phase r1_Worker r1_Err r1_Sent r1_Active r1_Many r1_Agg_Has_0 r1_Agg_Has_1 r1_Agg_Has_2 r1_Agg_Has_3 r1_Agg_Has_4 r1_Agg_V_0 r1_Agg_V_1 r1_Agg_V_2 r1_Agg_V_3 r1_Agg_V_4 r1_Valuesa r1_Valuesl r1_Valuesc H Q = wpF Ee ⟨[], []⟩ F_master_Master_Wants [.pointer none, .agg ⟨[.int .i64 r1_Job, .int .i64 r1_Epoch, .int .i64 r1_Step, .int .i64 r1_Phase, .int .i64 r1_Worker, .int .i64 r1_Err, .int .i64 r1_Sent, .int .i64 r1_Active, .int .i64 r1_Many, .bool r1_Agg_Has_0, .bool r1_Agg_Has_1, .bool r1_Agg_Has_2, .bool r1_Agg_Has_3, .bool r1_Agg_Has_4, .int .i64 r1_Agg_V_0, .int .i64 r1_Agg_V_1, .int .i64 r1_Agg_V_2, .int .i64 r1_Agg_V_3, .int .i64 r1_Agg_V_4, .slice r1_Valuesa r1_Valuesl r1_Valuesc]⟩] H Q := by kernel_rfl
  letI : Sy := sy0
  exact wpF_sound (Eq.mp e h)
/-- (*cohort/master.Master).Jobs -/
def VC_nil_master_Master_Jobs  (H : AH) (Q : Value → AH → Prop) : Prop :=
 Q (.slice none 0 0) H
set_option maxRecDepth 100000 in
theorem fw_nil_master_Master_Jobs  {H : AH} {Q : Value → AH → Prop} (h : VC_nil_master_Master_Jobs  H Q) : FW Ee F_master_Master_Jobs [.pointer none] H Q := by
  have e : VC_nil_master_Master_Jobs  H Q = wpF Ee ⟨[], []⟩ F_master_Master_Jobs [.pointer none] H Q := by kernel_rfl
  letI : Sy := sy0
  exact wpF_sound (Eq.mp e h)
/-- (*cohort/master.Master).Workers -/
def VC_nil_master_Master_Workers  (H : AH) (Q : Value → AH → Prop) : Prop :=
 Q (.slice none 0 0) H
set_option maxRecDepth 100000 in
theorem fw_nil_master_Master_Workers  {H : AH} {Q : Value → AH → Prop} (h : VC_nil_master_Master_Workers  H Q) : FW Ee F_master_Master_Workers [.pointer none] H Q := by
  have e : VC_nil_master_Master_Workers  H Q = wpF Ee ⟨[], []⟩ F_master_Master_Workers [.pointer none] H Q := by kernel_rfl
  letI : Sy := sy0
  exact wpF_sound (Eq.mp e h)
/-- (*cohort/master.Master).Epoch -/
def VC_nil_master_Master_Epoch  (H : AH) (Q : Value → AH → Prop) : Prop :=
 Q (.int .i64 0) H
set_option maxRecDepth 100000 in
theorem fw_nil_master_Master_Epoch  {H : AH} {Q : Value → AH → Prop} (h : VC_nil_master_Master_Epoch  H Q) : FW Ee F_master_Master_Epoch [.pointer none] H Q := by
  have e : VC_nil_master_Master_Epoch  H Q = wpF Ee ⟨[], []⟩ F_master_Master_Epoch [.pointer none] H Q := by kernel_rfl
  letI : Sy := sy0
  exact wpF_sound (Eq.mp e h)
/-- (*cohort/master.Master).Encode -/
def VC_nil_master_Master_Encode  (H : AH) (Q : Value → AH → Prop) : Prop :=
 Q (.string ⟨⟨[]⟩⟩) H
set_option maxRecDepth 100000 in
theorem fw_nil_master_Master_Encode  {H : AH} {Q : Value → AH → Prop} (h : VC_nil_master_Master_Encode  H Q) : FW Ee F_master_Master_Encode [.pointer none] H Q := by
  have e : VC_nil_master_Master_Encode  H Q = wpF Ee ⟨[], []⟩ F_master_Master_Encode [.pointer none] H Q := by kernel_rfl
  letI : Sy := sy0
  exact wpF_sound (Eq.mp e h)
/-- (*cohort/sess.Table).Look$1 -/
def VC_sess_Table_Look_1 (e0 : Int) (H : AH) (Q : Value → AH → Prop) : Prop :=
 Q (.tuple ⟨[.string ⟨⟨[]⟩⟩, .bool false, .int .i64 e0]⟩) H
set_option maxRecDepth 100000 in
theorem fw_sess_Table_Look_1 {e0 : Int} {H : AH} {Q : Value → AH → Prop} (h : VC_sess_Table_Look_1 e0 H Q) : FW Ee F_sess_Table_Look_1 [.int .i64 e0] H Q := by
  have e : VC_sess_Table_Look_1 e0 H Q = wpF Ee ⟨[], []⟩ F_sess_Table_Look_1 [.int .i64 e0] H Q := by kernel_rfl
  letI : Sy := sy0
  exact wpF_sound (Eq.mp e h)
/-- (*cohort/sess.Table).Look$2 -/
def VC_sess_Table_Look_2 (t0b : Nat) (t1b : Nat) (H : AH) (Q : Value → AH → Prop) : Prop :=
 ∃ (t4 : Int),
 H.cell t0b 0 = some (.int .i64 t4) ∧
 cond (t4 == 0) (
 ∃ (t7 : Option Addr),
 H.cell t1b 0 = some (.pointer t7) ∧
 grd t7.isSome (
 grd t7.isSome (
 ∃ (t10 : Option Nat),
 H.cell ((adr t7).block) ((adr t7).off) = some (.map t10) ∧
 ((
 t10 = none ∧
 Q (.bool (decide ((0 : Int) ≥ 64))) H) ∨ (
 ∃ (mb : Nat) (es : List MapEntry) (cl : Nat),
 t10 = some mb ∧
 H.get mb = some (.map es cl) ∧
 Q (.bool (decide ((((es.length : Nat) : Int)) ≥ 64))) H))))) (
 Q (.bool false) H)
set_option maxRecDepth 100000 in
theorem fw_sess_Table_Look_2 {t0b : Nat} {t1b : Nat} {H : AH} {Q : Value → AH → Prop} (h : VC_sess_Table_Look_2 t0b t1b H Q) : FW Ee F_sess_Table_Look_2 [.pointer (some ⟨t0b, 0, none⟩), .pointer (some ⟨t1b, 0, none⟩)] H Q := by
  have e : VC_sess_Table_Look_2 t0b t1b H Q = wpF Ee ⟨[], []⟩ F_sess_Table_Look_2 [.pointer (some ⟨t0b, 0, none⟩), .pointer (some ⟨t1b, 0, none⟩)] H Q := by kernel_rfl
  letI : Sy := sy0
  exact wpF_sound (Eq.mp e h)
/-- (*cohort/sess.Table).Look -/
def VC_sess_Table_Look (t0b : Nat) (session1 : Int) (seq2 : Int) (H : AH) (Q : Value → AH → Prop) : Prop :=
 ∀ (H1 : AH),
 H1 = H.new (.cells [.pointer (some ⟨t0b, 0, none⟩)] 0) →
 ∃ (t12 : Option Addr),
 H1.cell H.next 0 = some (.pointer t12) ∧
 cond (t12.isNone) (
 Q (.tuple ⟨[.string ⟨⟨[]⟩⟩, .bool false, .int .i64 1]⟩) H1) (
 cond (decide (seq2 < 1)) (
 Q (.tuple ⟨[.string ⟨⟨[]⟩⟩, .bool false, .int .i64 1]⟩) H1) (
 ∃ (t18 : Option Addr),
 H1.cell H.next 0 = some (.pointer t18) ∧
 grd t18.isSome (
 grd t18.isSome (
 ∃ (t21 : Option Nat),
 H1.cell ((adr t18).block) ((adr t18).off) = some (.map t21) ∧
 ∃ (t23_seq : Int) (t23_answer : List UInt8),
 lookupv Ee H1 T_M_int64_sess_last (.map t21) (.int .i64 session1) false = some (.agg ⟨[.int .i64 t23_seq, .string ⟨⟨t23_answer⟩⟩]⟩) ∧
 ∀ (H2 : AH),
 H2 = H1.new (.cells [.int .i64 0, .string ⟨⟨[]⟩⟩] 0) →
 ∃ (H3 : AH),
 storeCellsv H2 H1.next 0 [.int .i64 t23_seq, .string ⟨⟨t23_answer⟩⟩] = some H3 ∧
 ∃ (t28 : Int),
 H3.cell H1.next 0 = some (.int .i64 t28) ∧
 cond (seq2 == t28) (
 ∃ (t31 : List UInt8),
 H3.cell H1.next 1 = some (.string ⟨⟨t31⟩⟩) ∧
 Q (.tuple ⟨[.string ⟨⟨t31⟩⟩, .bool true, .int .i64 0]⟩) H3) (
 ∃ (t35 : Int),
 H3.cell H1.next 0 = some (.int .i64 t35) ∧
 cond (decide (seq2 < t35)) (
 FW Ee F_sess_Table_Look_1 [.int .i64 150] H3 fun v H4 =>
 ∃ (r38_0 : List UInt8) (r38_1 : Bool) (r38_2 : Int),
 v = .tuple ⟨[.string ⟨⟨r38_0⟩⟩, .bool r38_1, .int .i64 r38_2]⟩ ∧
 Q (.tuple ⟨[.string ⟨⟨r38_0⟩⟩, .bool r38_1, .int .i64 r38_2]⟩) H4) (
 ∃ (t45 : Int),
 H3.cell H1.next 0 = some (.int .i64 t45) ∧
 ∀ (t46 : Int),
 t46 = IntKind.i64.wrap (t45 + 1) →
 cond (decide (seq2 > t46)) (
 FW Ee F_sess_Table_Look_1 [.int .i64 151] H3 fun v_1 H5 =>
 ∃ (r49_0 : List UInt8) (r49_1 : Bool) (r49_2 : Int),
 v_1 = .tuple ⟨[.string ⟨⟨r49_0⟩⟩, .bool r49_1, .int .i64 r49_2]⟩ ∧
 Q (.tuple ⟨[.string ⟨⟨r49_0⟩⟩, .bool r49_1, .int .i64 r49_2]⟩) H5) (
 FW Ee F_sess_Table_Look_2 [.pointer (some ⟨H1.next, 0, none⟩), .pointer (some ⟨H.next, 0, none⟩)] H3 fun v_2 H6 =>
 ∃ (r55 : Bool),
 v_2 = .bool r55 ∧
 cond (r55) (
 FW Ee F_sess_Table_Look_1 [.int .i64 3] H6 fun v_3 H7 =>
 ∃ (r57_0 : List UInt8) (r57_1 : Bool) (r57_2 : Int),
 v_3 = .tuple ⟨[.string ⟨⟨r57_0⟩⟩, .bool r57_1, .int .i64 r57_2]⟩ ∧
 Q (.tuple ⟨[.string ⟨⟨r57_0⟩⟩, .bool r57_1, .int .i64 r57_2]⟩) H7) (
 FW Ee F_sess_Table_Look_1 [.int .i64 0] H6 fun v_4 H8 =>
 ∃ (r62_0 : List UInt8) (r62_1 : Bool) (r62_2 : Int),
 v_4 = .tuple ⟨[.string ⟨⟨r62_0⟩⟩, .bool r62_1, .int .i64 r62_2]⟩ ∧
 Q (.tuple ⟨[.string ⟨⟨r62_0⟩⟩, .bool r62_1, .int .i64 r62_2]⟩) H8))))))))
set_option maxRecDepth 100000 in
theorem fw_sess_Table_Look {t0b : Nat} {session1 : Int} {seq2 : Int} {H : AH} {Q : Value → AH → Prop} (h : VC_sess_Table_Look t0b session1 seq2 H Q) : FW Ee F_sess_Table_Look [.pointer (some ⟨t0b, 0, none⟩), .int .i64 session1, .int .i64 seq2] H Q := by
  have e : VC_sess_Table_Look t0b session1 seq2 H Q = wpF Ee ⟨[], []⟩ F_sess_Table_Look [.pointer (some ⟨t0b, 0, none⟩), .int .i64 session1, .int .i64 seq2] H Q := by kernel_rfl
  letI : Sy := sy0
  exact wpF_sound (Eq.mp e h)
/-- (*cohort/sess.Table).Do -/
def VC_sess_Table_Do (t0b : Nat) (session1 : Int) (seq2 : Int) (do3c : Nat) (do3c_1 : Nat) (H : AH) (Q : Value → AH → Prop) : Prop :=
 FW Ee F_sess_Table_Look [.pointer (some ⟨t0b, 0, none⟩), .int .i64 session1, .int .i64 seq2] H fun v H1 =>
 ∃ (r18_0 : List UInt8) (r18_1 : Bool) (r18_2 : Int),
 v = .tuple ⟨[.string ⟨⟨r18_0⟩⟩, .bool r18_1, .int .i64 r18_2]⟩ ∧
 cond (r18_2 != 0) (
 Q (.tuple ⟨[.string ⟨⟨r18_0⟩⟩, .bool false, .int .i64 r18_2]⟩) H1) (
 cond (r18_1) (
 Q (.tuple ⟨[.string ⟨⟨r18_0⟩⟩, .bool false, .int .i64 r18_2]⟩) H1) (
 FW Ee F_master_Master_Apply_1 [.pointer (some ⟨do3c, 0, none⟩), .pointer (some ⟨do3c_1, 0, none⟩)] H1 fun v_1 H2 =>
 ∃ (r32 : List UInt8),
 v_1 = .string ⟨⟨r32⟩⟩ ∧
 ∃ (t36 : Option Nat),
 H2.cell t0b 0 = some (.map t36) ∧
 ∃ (H3 : AH),
 updatev Ee H2 T_M_int64_sess_last (.map t36) (.int .i64 session1) (.agg ⟨[.int .i64 seq2, .string ⟨⟨r32⟩⟩]⟩) = some H3 ∧
 Q (.tuple ⟨[.string ⟨⟨r32⟩⟩, .bool true, .int .i64 0]⟩) H3))
set_option maxRecDepth 100000 in
theorem fw_sess_Table_Do {t0b : Nat} {session1 : Int} {seq2 : Int} {do3c : Nat} {do3c_1 : Nat} {H : AH} {Q : Value → AH → Prop} (h : VC_sess_Table_Do t0b session1 seq2 do3c do3c_1 H Q) : FW Ee F_sess_Table_Do [.pointer (some ⟨t0b, 0, none⟩), .int .i64 session1, .int .i64 seq2, .func (.func F_master_Master_Apply_1) ⟨[]⟩ ⟨[.pointer (some ⟨do3c, 0, none⟩), .pointer (some ⟨do3c_1, 0, none⟩)]⟩] H Q := by
  have e : VC_sess_Table_Do t0b session1 seq2 do3c do3c_1 H Q = wpF Ee ⟨[], []⟩ F_sess_Table_Do [.pointer (some ⟨t0b, 0, none⟩), .int .i64 session1, .int .i64 seq2, .func (.func F_master_Master_Apply_1) ⟨[]⟩ ⟨[.pointer (some ⟨do3c, 0, none⟩), .pointer (some ⟨do3c_1, 0, none⟩)]⟩] H Q := by kernel_rfl
  letI : Sy := sy0
  exact wpF_sound (Eq.mp e h)
/-- cohort/master.replyText -/
def VC_master_replyText (r0_Err : Int) (r0_ID : Int) (H : AH) (Q : Value → AH → Prop) : Prop :=
 ∀ (H1 : AH),
 H1 = H.new (.cells [.int .i64 r0_Err, .int .i64 r0_ID] 0) →
 FW Ee F_wire_NewWriter [] H1 fun v H2 =>
 ∃ (r4 : Option Addr),
 v = .pointer r4 ∧
 ∃ (t7 : Int),
 H2.cell H.next 0 = some (.int .i64 t7) ∧
 FW Ee F_wire_Writer_Count [.pointer r4, .int .i64 t7] H2 fun v_1 H3 =>
 v_1 = .tuple ⟨[]⟩ ∧
 ∃ (t11 : Int),
 H3.cell H.next 1 = some (.int .i64 t11) ∧
 FW Ee F_wire_Writer_Count [.pointer r4, .int .i64 t11] H3 fun v_2 H4 =>
 v_2 = .tuple ⟨[]⟩ ∧
 FW Ee F_wire_Writer_All [.pointer r4] H4 fun v_3 H5 =>
 ∃ (r14 : List UInt8),
 v_3 = .string ⟨⟨r14⟩⟩ ∧
 Q (.string ⟨⟨r14⟩⟩) H5
set_option maxRecDepth 100000 in
theorem fw_master_replyText {r0_Err : Int} {r0_ID : Int} {H : AH} {Q : Value → AH → Prop} (h : VC_master_replyText r0_Err r0_ID H Q) : FW Ee F_master_replyText [.agg ⟨[.int .i64 r0_Err, .int .i64 r0_ID]⟩] H Q := by
  have e : VC_master_replyText r0_Err r0_ID H Q = wpF Ee ⟨[], []⟩ F_master_replyText [.agg ⟨[.int .i64 r0_Err, .int .i64 r0_ID]⟩] H Q := by kernel_rfl
  letI : Sy := sy0
  exact wpF_sound (Eq.mp e h)
/-- cohort/master.replyOf -/
def VC_master_replyOf (s0 : List UInt8) (H : AH) (Q : Value → AH → Prop) : Prop :=
 ∀ (H1 : AH),
 H1 = H.new (.cells [.int .i64 0, .int .i64 0] 0) →
 FW Ee F_wire_NewReader [.string ⟨⟨s0⟩⟩] H1 fun v H2 =>
 ∃ (r5 : Option Addr),
 v = .pointer r5 ∧
 FW Ee F_wire_Reader_Count [.pointer r5, .int .i64 2147483647] H2 fun v_1 H3 =>
 ∃ (r7 : Int),
 v_1 = .int .i64 r7 ∧
 FW Ee F_wire_Reader_Count [.pointer r5, .int .i64 2147483647] H3 fun v_2 H4 =>
 ∃ (r9 : Int),
 v_2 = .int .i64 r9 ∧
 ∃ (H5 : AH),
 storeCellsv H4 H.next 0 [.int .i64 r7, .int .i64 r9] = some H5 ∧
 ∃ (r2_Err : Int) (r2_ID : Int),
 H5.cell H.next (0 + 0) = some (.int .i64 r2_Err) ∧
 H5.cell H.next (0 + 1) = some (.int .i64 r2_ID) ∧
 Q (.agg ⟨[.int .i64 r2_Err, .int .i64 r2_ID]⟩) H5
set_option maxRecDepth 100000 in
theorem fw_master_replyOf {s0 : List UInt8} {H : AH} {Q : Value → AH → Prop} (h : VC_master_replyOf s0 H Q) : FW Ee F_master_replyOf [.string ⟨⟨s0⟩⟩] H Q := by
  have e : VC_master_replyOf s0 H Q = wpF Ee ⟨[], []⟩ F_master_replyOf [.string ⟨⟨s0⟩⟩] H Q := by kernel_rfl
  letI : Sy := sy0
  exact wpF_sound (Eq.mp e h)
/-- (*cohort/master.Master).submit -/
def VC_master_Master_submit (m0b : Nat) (s1 : List UInt8) (H : AH) (Q : Value → AH → Prop) : Prop :=
 ∀ (H1 : AH),
 H1 = H.new (.cells [.int .i64 0, .int .i64 0] 0) →
 FW Ee F_run_DecodeJob [.string ⟨⟨s1⟩⟩] H1 fun v H2 =>
 ∃ (r9_0_Program : List UInt8) (r9_0_Graph_Verticesa : Option Addr) (r9_0_Graph_Verticesl : Nat) (r9_0_Graph_Verticesc : Nat) (r9_0_Paramsa : Option Addr) (r9_0_Paramsl : Nat) (r9_0_Paramsc : Nat) (r9_0_Steps : Int) (r9_0_Sent : Int) (r9_0_Parts : Int) (r9_1 : Int),
 v = .tuple ⟨[.agg ⟨[.string ⟨⟨r9_0_Program⟩⟩, .slice r9_0_Graph_Verticesa r9_0_Graph_Verticesl r9_0_Graph_Verticesc, .slice r9_0_Paramsa r9_0_Paramsl r9_0_Paramsc, .int .i64 r9_0_Steps, .int .i64 r9_0_Sent, .int .i64 r9_0_Parts]⟩, .int .i64 r9_1]⟩ ∧
 ∀ (H3 : AH),
 H3 = H2.new (.cells [.string ⟨⟨[]⟩⟩, .slice none 0 0, .slice none 0 0, .int .i64 0, .int .i64 0, .int .i64 0] 0) →
 ∃ (H4 : AH),
 storeCellsv H3 H2.next 0 [.string ⟨⟨r9_0_Program⟩⟩, .slice r9_0_Graph_Verticesa r9_0_Graph_Verticesl r9_0_Graph_Verticesc, .slice r9_0_Paramsa r9_0_Paramsl r9_0_Paramsc, .int .i64 r9_0_Steps, .int .i64 r9_0_Sent, .int .i64 r9_0_Parts] = some H4 ∧
 cond (r9_1 != 0) (
 ∃ (H5 : AH),
 storeCellsv H4 H.next 0 [.int .i64 r9_1, .int .i64 0] = some H5 ∧
 ∃ (r4_Err : Int) (r4_ID : Int),
 H5.cell H.next (0 + 0) = some (.int .i64 r4_Err) ∧
 H5.cell H.next (0 + 1) = some (.int .i64 r4_ID) ∧
 Q (.agg ⟨[.int .i64 r4_Err, .int .i64 r4_ID]⟩) H5) (
 FW Ee F_master_Master_Open [.pointer (some ⟨m0b, 0, none⟩)] H4 fun v_1 H6 =>
 ∃ (r17 : Int),
 v_1 = .int .i64 r17 ∧
 cond (decide (r17 ≥ 8)) (
 ∃ (H7 : AH),
 storeCellsv H6 H.next 0 [.int .i64 171, .int .i64 0] = some H7 ∧
 ∃ (r4_Err_1 : Int) (r4_ID_1 : Int),
 H7.cell H.next (0 + 0) = some (.int .i64 r4_Err_1) ∧
 H7.cell H.next (0 + 1) = some (.int .i64 r4_ID_1) ∧
 Q (.agg ⟨[.int .i64 r4_Err_1, .int .i64 r4_ID_1]⟩) H7) (
 ∃ (t23 : Int),
 H6.cell m0b 3 = some (.int .i64 t23) ∧
 cond (decide (t23 ≥ 64)) (
 ∃ (H8 : AH),
 storeCellsv H6 H.next 0 [.int .i64 171, .int .i64 0] = some H8 ∧
 ∃ (r4_Err_2 : Int) (r4_ID_2 : Int),
 H8.cell H.next (0 + 0) = some (.int .i64 r4_Err_2) ∧
 H8.cell H.next (0 + 1) = some (.int .i64 r4_ID_2) ∧
 Q (.agg ⟨[.int .i64 r4_Err_2, .int .i64 r4_ID_2]⟩) H8) (
 ∃ (t30 : Int),
 H6.cell m0b 3 = some (.int .i64 t30) ∧
 ∀ (t31 : Int),
 t31 = IntKind.i64.wrap (t30 + 1) →
 ∃ (H9 : AH),
 storeCellsv H6 m0b 3 [.int .i64 t31] = some H9 ∧
 ∃ (t37 : Option Nat),
 H9.cell m0b 1 = some (.map t37) ∧
 ∃ (t41 : Int),
 H9.cell m0b 3 = some (.int .i64 t41) ∧
 ∃ (t45 : Int),
 H9.cell m0b 3 = some (.int .i64 t45) ∧
 ∃ (t46_Program : List UInt8) (t46_Graph_Verticesa : Option Addr) (t46_Graph_Verticesl : Nat) (t46_Graph_Verticesc : Nat) (t46_Paramsa : Option Addr) (t46_Paramsl : Nat) (t46_Paramsc : Nat) (t46_Steps : Int) (t46_Sent : Int) (t46_Parts : Int),
 H9.cell H2.next (0 + 0) = some (.string ⟨⟨t46_Program⟩⟩) ∧
 H9.cell H2.next (0 + 1) = some (.slice t46_Graph_Verticesa t46_Graph_Verticesl t46_Graph_Verticesc) ∧
 H9.cell H2.next (0 + 2) = some (.slice t46_Paramsa t46_Paramsl t46_Paramsc) ∧
 H9.cell H2.next (0 + 3) = some (.int .i64 t46_Steps) ∧
 H9.cell H2.next (0 + 4) = some (.int .i64 t46_Sent) ∧
 H9.cell H2.next (0 + 5) = some (.int .i64 t46_Parts) ∧
 ∀ (H10 : AH),
 H10 = H9.new (.cells [.int .i64 t45, .string ⟨⟨t46_Program⟩⟩, .slice t46_Graph_Verticesa t46_Graph_Verticesl t46_Graph_Verticesc, .slice t46_Paramsa t46_Paramsl t46_Paramsc, .int .i64 t46_Steps, .int .i64 t46_Sent, .int .i64 t46_Parts, .int .i64 1, .int .i64 0, .int .i64 0, .int .i64 0, .slice none 0 0, .int .i64 0, .int .i64 0, .int .i64 0, .slice none 0 0, .map none, .bool false, .bool false, .bool false, .bool false, .bool false, .int .i64 0, .int .i64 0, .int .i64 0, .int .i64 0, .int .i64 0, .int .i64 0, .bool false, .bool false, .bool false, .bool false, .bool false, .int .i64 0, .int .i64 0, .int .i64 0, .int .i64 0, .int .i64 0, .int .i64 0, .int .i64 0, .bool false, .bool false, .bool false, .bool false, .bool false, .int .i64 0, .int .i64 0, .int .i64 0, .int .i64 0, .int .i64 0] 0) →
 ∃ (H11 : AH),
 updatev Ee H10 T_M_int_P_master_job (.map t37) (.int .i64 t41) (.pointer (some ⟨H9.next, 0, none⟩)) = some H11 ∧
 H10.cell H2.next (0 + 0) = some (.string ⟨⟨t46_Program⟩⟩) ∧
 H10.cell H2.next (0 + 1) = some (.slice t46_Graph_Verticesa t46_Graph_Verticesl t46_Graph_Verticesc) ∧
 H10.cell H2.next (0 + 2) = some (.slice t46_Paramsa t46_Paramsl t46_Paramsc) ∧
 H10.cell H2.next (0 + 3) = some (.int .i64 t46_Steps) ∧
 H10.cell H2.next (0 + 4) = some (.int .i64 t46_Sent) ∧
 H10.cell H2.next (0 + 5) = some (.int .i64 t46_Parts) ∧
 H10.cell m0b 3 = some (.int .i64 t45) ∧
 H10.cell m0b 3 = some (.int .i64 t41) ∧
 H10.cell m0b 1 = some (.map t37) ∧
 FW Ee F_master_Master_start [.pointer (some ⟨m0b, 0, none⟩)] H11 fun v_2 H12 =>
 v_2 = .tuple ⟨[]⟩ ∧
 ∃ (t54 : Int),
 H12.cell m0b 3 = some (.int .i64 t54) ∧
 ∃ (H13 : AH),
 storeCellsv H12 H.next 0 [.int .i64 0, .int .i64 t54] = some H13 ∧
 ∃ (r4_Err_3 : Int) (r4_ID_3 : Int),
 H13.cell H.next (0 + 0) = some (.int .i64 r4_Err_3) ∧
 H13.cell H.next (0 + 1) = some (.int .i64 r4_ID_3) ∧
 Q (.agg ⟨[.int .i64 r4_Err_3, .int .i64 r4_ID_3]⟩) H13)))
set_option maxRecDepth 100000 in
theorem fw_master_Master_submit {m0b : Nat} {s1 : List UInt8} {H : AH} {Q : Value → AH → Prop} (h : VC_master_Master_submit m0b s1 H Q) : FW Ee F_master_Master_submit [.pointer (some ⟨m0b, 0, none⟩), .string ⟨⟨s1⟩⟩] H Q := by
  have e : VC_master_Master_submit m0b s1 H Q = wpF Ee ⟨[], []⟩ F_master_Master_submit [.pointer (some ⟨m0b, 0, none⟩), .string ⟨⟨s1⟩⟩] H Q := by kernel_rfl
  letI : Sy := sy0
  exact wpF_sound (Eq.mp e h)
/-- (*cohort/master.Master).cancel -/
def VC_master_Master_cancel (m0b : Nat) (id1 : Int) (H : AH) (Q : Value → AH → Prop) : Prop :=
 ∀ (H1 : AH),
 H1 = H.new (.cells [.int .i64 0, .int .i64 0] 0) →
 ∃ (t11 : Option Nat),
 H1.cell m0b 1 = some (.map t11) ∧
 ∃ (t13 : Option Addr) (t13ok : Bool),
 lookupv Ee H1 T_M_int_P_master_job (.map t11) (.int .i64 id1) true = some (.tuple ⟨[.pointer t13, .bool t13ok]⟩) ∧
 cond (!t13ok) (
 ∃ (H2 : AH),
 storeCellsv H1 H.next 0 [.int .i64 170, .int .i64 0] = some H2 ∧
 ∃ (r4_Err : Int) (r4_ID : Int),
 H2.cell H.next (0 + 0) = some (.int .i64 r4_Err) ∧
 H2.cell H.next (0 + 1) = some (.int .i64 r4_ID) ∧
 Q (.agg ⟨[.int .i64 r4_Err, .int .i64 r4_ID]⟩) H2) (
 grd t13.isSome (
 grd t13.isSome (
 ∃ (t22 : Int),
 H1.cell ((adr t13).block) ((adr t13).off + 7) = some (.int .i64 t22) ∧
 cond (t22 == 1) (
 FW Ee F_master_Master_end [.pointer (some ⟨m0b, 0, none⟩), .pointer t13, .int .i64 4, .agg ⟨[.int .i64 0, .int .i64 0, .int .i64 0, .slice none 0 0]⟩] H1 fun v H3 =>
 v = .tuple ⟨[]⟩ ∧
 ∃ (H4 : AH),
 storeCellsv H3 H.next 0 [.int .i64 0, .int .i64 id1] = some H4 ∧
 ∃ (r4_Err_1 : Int) (r4_ID_1 : Int),
 H4.cell H.next (0 + 0) = some (.int .i64 r4_Err_1) ∧
 H4.cell H.next (0 + 1) = some (.int .i64 r4_ID_1) ∧
 Q (.agg ⟨[.int .i64 r4_Err_1, .int .i64 r4_ID_1]⟩) H4) (
 grd t13.isSome (
 grd t13.isSome (
 ∃ (t28 : Int),
 H1.cell ((adr t13).block) ((adr t13).off + 7) = some (.int .i64 t28) ∧
 cond (t28 == 2) (
 FW Ee F_master_Master_end [.pointer (some ⟨m0b, 0, none⟩), .pointer t13, .int .i64 4, .agg ⟨[.int .i64 0, .int .i64 0, .int .i64 0, .slice none 0 0]⟩] H1 fun v_1 H5 =>
 v_1 = .tuple ⟨[]⟩ ∧
 ∃ (H6 : AH),
 storeCellsv H5 H.next 0 [.int .i64 0, .int .i64 id1] = some H6 ∧
 ∃ (r4_Err_2 : Int) (r4_ID_2 : Int),
 H6.cell H.next (0 + 0) = some (.int .i64 r4_Err_2) ∧
 H6.cell H.next (0 + 1) = some (.int .i64 r4_ID_2) ∧
 Q (.agg ⟨[.int .i64 r4_Err_2, .int .i64 r4_ID_2]⟩) H6) (
 ∃ (H7 : AH),
 storeCellsv H1 H.next 0 [.int .i64 0, .int .i64 id1] = some H7 ∧
 ∃ (r4_Err_3 : Int) (r4_ID_3 : Int),
 H7.cell H.next (0 + 0) = some (.int .i64 r4_Err_3) ∧
 H7.cell H.next (0 + 1) = some (.int .i64 r4_ID_3) ∧
 Q (.agg ⟨[.int .i64 r4_Err_3, .int .i64 r4_ID_3]⟩) H7)))))))
set_option maxRecDepth 100000 in
theorem fw_master_Master_cancel {m0b : Nat} {id1 : Int} {H : AH} {Q : Value → AH → Prop} (h : VC_master_Master_cancel m0b id1 H Q) : FW Ee F_master_Master_cancel [.pointer (some ⟨m0b, 0, none⟩), .int .i64 id1] H Q := by
  have e : VC_master_Master_cancel m0b id1 H Q = wpF Ee ⟨[], []⟩ F_master_Master_cancel [.pointer (some ⟨m0b, 0, none⟩), .int .i64 id1] H Q := by kernel_rfl
  letI : Sy := sy0
  exact wpF_sound (Eq.mp e h)
/-- (*cohort/master.Master).Apply$1 -/
def VC_master_Master_Apply_1 (t0b : Nat) (t1b : Nat) (H : AH) (Q : Value → AH → Prop) : Prop :=
 ∃ (t4 : Int),
 H.cell t0b 0 = some (.int .i64 t4) ∧
 cond (t4 == 1) (
 ∃ (t6 : Option Addr),
 H.cell t1b 0 = some (.pointer t6) ∧
 ∃ (t8 : List UInt8),
 H.cell t0b 3 = some (.string ⟨⟨t8⟩⟩) ∧
 FW Ee F_master_Master_submit [.pointer t6, .string ⟨⟨t8⟩⟩] H fun v H1 =>
 ∃ (r9_Err : Int) (r9_ID : Int),
 v = .agg ⟨[.int .i64 r9_Err, .int .i64 r9_ID]⟩ ∧
 FW Ee F_master_replyText [.agg ⟨[.int .i64 r9_Err, .int .i64 r9_ID]⟩] H1 fun v_1 H2 =>
 ∃ (r10 : List UInt8),
 v_1 = .string ⟨⟨r10⟩⟩ ∧
 Q (.string ⟨⟨r10⟩⟩) H2) (
 ∃ (t11 : Option Addr),
 H.cell t1b 0 = some (.pointer t11) ∧
 ∃ (t13 : Int),
 H.cell t0b 4 = some (.int .i64 t13) ∧
 FW Ee F_master_Master_cancel [.pointer t11, .int .i64 t13] H fun v_2 H3 =>
 ∃ (r14_Err : Int) (r14_ID : Int),
 v_2 = .agg ⟨[.int .i64 r14_Err, .int .i64 r14_ID]⟩ ∧
 FW Ee F_master_replyText [.agg ⟨[.int .i64 r14_Err, .int .i64 r14_ID]⟩] H3 fun v_3 H4 =>
 ∃ (r15 : List UInt8),
 v_3 = .string ⟨⟨r15⟩⟩ ∧
 Q (.string ⟨⟨r15⟩⟩) H4)
set_option maxRecDepth 100000 in
theorem fw_master_Master_Apply_1 {t0b : Nat} {t1b : Nat} {H : AH} {Q : Value → AH → Prop} (h : VC_master_Master_Apply_1 t0b t1b H Q) : FW Ee F_master_Master_Apply_1 [.pointer (some ⟨t0b, 0, none⟩), .pointer (some ⟨t1b, 0, none⟩)] H Q := by
  have e : VC_master_Master_Apply_1 t0b t1b H Q = wpF Ee ⟨[], []⟩ F_master_Master_Apply_1 [.pointer (some ⟨t0b, 0, none⟩), .pointer (some ⟨t1b, 0, none⟩)] H Q := by kernel_rfl
  letI : Sy := sy0
  exact wpF_sound (Eq.mp e h)
/-- (*cohort/master.Master).Status -/
def VC_master_Master_Status (m0b : Nat) (id1 : Int) (H : AH) (Q : Value → AH → Prop) : Prop :=
 ∀ (H1 : AH),
 H1 = H.new (.cells [.int .i64 0, .int .i64 0, .int .i64 0, .int .i64 0, .int .i64 0, .int .i64 0, .int .i64 0, .slice none 0 0] 0) →
 ∃ (t16 : Option Nat),
 H1.cell m0b 1 = some (.map t16) ∧
 ∃ (t18 : Option Addr) (t18ok : Bool),
 lookupv Ee H1 T_M_int_P_master_job (.map t16) (.int .i64 id1) true = some (.tuple ⟨[.pointer t18, .bool t18ok]⟩) ∧
 cond (!t18ok) (
 ∃ (H2 : AH),
 storeCellsv H1 H.next 0 [.int .i64 0, .int .i64 0, .int .i64 0, .int .i64 0, .int .i64 0, .int .i64 0, .int .i64 0, .slice none 0 0] = some H2 ∧
 ∃ (r4_ID : Int) (r4_State : Int) (r4_Step : Int) (r4_Epoch : Int) (r4_Outcome_Kind : Int) (r4_Outcome_Err : Int) (r4_Outcome_Steps : Int) (r4_Outcome_Valuesa : Option Addr) (r4_Outcome_Valuesl : Nat) (r4_Outcome_Valuesc : Nat),
 H2.cell H.next (0 + 0) = some (.int .i64 r4_ID) ∧
 H2.cell H.next (0 + 1) = some (.int .i64 r4_State) ∧
 H2.cell H.next (0 + 2) = some (.int .i64 r4_Step) ∧
 H2.cell H.next (0 + 3) = some (.int .i64 r4_Epoch) ∧
 H2.cell H.next (0 + 4) = some (.int .i64 r4_Outcome_Kind) ∧
 H2.cell H.next (0 + 5) = some (.int .i64 r4_Outcome_Err) ∧
 H2.cell H.next (0 + 6) = some (.int .i64 r4_Outcome_Steps) ∧
 H2.cell H.next (0 + 7) = some (.slice r4_Outcome_Valuesa r4_Outcome_Valuesl r4_Outcome_Valuesc) ∧
 Q (.tuple ⟨[.agg ⟨[.int .i64 r4_ID, .int .i64 r4_State, .int .i64 r4_Step, .int .i64 r4_Epoch, .int .i64 r4_Outcome_Kind, .int .i64 r4_Outcome_Err, .int .i64 r4_Outcome_Steps, .slice r4_Outcome_Valuesa r4_Outcome_Valuesl r4_Outcome_Valuesc]⟩, .int .i64 170]⟩) H2) (
 grd t18.isSome (
 grd t18.isSome (
 ∃ (t28 : Int),
 H1.cell ((adr t18).block) ((adr t18).off + 7) = some (.int .i64 t28) ∧
 grd t18.isSome (
 grd t18.isSome (
 ∃ (t32 : Int),
 H1.cell ((adr t18).block) ((adr t18).off + 13) = some (.int .i64 t32) ∧
 grd t18.isSome (
 grd t18.isSome (
 ∃ (t36 : Int),
 H1.cell ((adr t18).block) ((adr t18).off + 12) = some (.int .i64 t36) ∧
 grd t18.isSome (
 grd t18.isSome (
 ∃ (t40_Kind : Int) (t40_Err : Int) (t40_Steps : Int) (t40_Valuesa : Option Addr) (t40_Valuesl : Nat) (t40_Valuesc : Nat),
 H1.cell ((adr t18).block) ((adr t18).off + 8 + 0) = some (.int .i64 t40_Kind) ∧
 H1.cell ((adr t18).block) ((adr t18).off + 8 + 1) = some (.int .i64 t40_Err) ∧
 H1.cell ((adr t18).block) ((adr t18).off + 8 + 2) = some (.int .i64 t40_Steps) ∧
 H1.cell ((adr t18).block) ((adr t18).off + 8 + 3) = some (.slice t40_Valuesa t40_Valuesl t40_Valuesc) ∧
 ∀ (H3 : AH),
 H3 = H1.new (.cells [.int .i64 0, .int .i64 0, .int .i64 0, .int .i64 0, .int .i64 0, .int .i64 0, .int .i64 0, .slice none 0 0] 0) →
 ∃ (H4 : AH),
 storeCellsv H3 H1.next 0 [.int .i64 id1, .int .i64 t28, .int .i64 t32, .int .i64 t36, .int .i64 t40_Kind, .int .i64 t40_Err, .int .i64 t40_Steps, .slice t40_Valuesa t40_Valuesl t40_Valuesc] = some H4 ∧
 H3.cell ((adr t18).block) ((adr t18).off + 8 + 0) = some (.int .i64 t40_Kind) ∧
 H3.cell ((adr t18).block) ((adr t18).off + 8 + 1) = some (.int .i64 t40_Err) ∧
 H3.cell ((adr t18).block) ((adr t18).off + 8 + 2) = some (.int .i64 t40_Steps) ∧
 H3.cell ((adr t18).block) ((adr t18).off + 8 + 3) = some (.slice t40_Valuesa t40_Valuesl t40_Valuesc) ∧
 H3.cell ((adr t18).block) ((adr t18).off + 12) = some (.int .i64 t36) ∧
 H3.cell ((adr t18).block) ((adr t18).off + 13) = some (.int .i64 t32) ∧
 H3.cell ((adr t18).block) ((adr t18).off + 7) = some (.int .i64 t28) ∧
 grd t18.isSome (
 grd t18.isSome (
 ∃ (t46a : Option Addr) (t46l : Nat) (t46c : Nat),
 H4.cell ((adr t18).block) ((adr t18).off + 8 + 3) = some (.slice t46a t46l t46c) ∧
 FW Ee F_slices_Clone_L_api_Value_api_Value [.slice t46a t46l t46c] H4 fun v H5 =>
 ∃ (r47a : Option Addr) (r47l : Nat) (r47c : Nat),
 v = .slice r47a r47l r47c ∧
 ∃ (H6 : AH),
 storeCellsv H5 H1.next 7 [.slice r47a r47l r47c] = some H6 ∧
 ∃ (t50_ID : Int) (t50_State : Int) (t50_Step : Int) (t50_Epoch : Int) (t50_Outcome_Kind : Int) (t50_Outcome_Err : Int) (t50_Outcome_Steps : Int) (t50_Outcome_Valuesa : Option Addr) (t50_Outcome_Valuesl : Nat) (t50_Outcome_Valuesc : Nat),
 H6.cell H1.next (0 + 0) = some (.int .i64 t50_ID) ∧
 H6.cell H1.next (0 + 1) = some (.int .i64 t50_State) ∧
 H6.cell H1.next (0 + 2) = some (.int .i64 t50_Step) ∧
 H6.cell H1.next (0 + 3) = some (.int .i64 t50_Epoch) ∧
 H6.cell H1.next (0 + 4) = some (.int .i64 t50_Outcome_Kind) ∧
 H6.cell H1.next (0 + 5) = some (.int .i64 t50_Outcome_Err) ∧
 H6.cell H1.next (0 + 6) = some (.int .i64 t50_Outcome_Steps) ∧
 H6.cell H1.next (0 + 7) = some (.slice t50_Outcome_Valuesa t50_Outcome_Valuesl t50_Outcome_Valuesc) ∧
 ∃ (H7 : AH),
 storeCellsv H6 H.next 0 [.int .i64 t50_ID, .int .i64 t50_State, .int .i64 t50_Step, .int .i64 t50_Epoch, .int .i64 t50_Outcome_Kind, .int .i64 t50_Outcome_Err, .int .i64 t50_Outcome_Steps, .slice t50_Outcome_Valuesa t50_Outcome_Valuesl t50_Outcome_Valuesc] = some H7 ∧
 ∃ (r4_ID_1 : Int) (r4_State_1 : Int) (r4_Step_1 : Int) (r4_Epoch_1 : Int) (r4_Outcome_Kind_1 : Int) (r4_Outcome_Err_1 : Int) (r4_Outcome_Steps_1 : Int) (r4_Outcome_Valuesa_1 : Option Addr) (r4_Outcome_Valuesl_1 : Nat) (r4_Outcome_Valuesc_1 : Nat),
 H7.cell H.next (0 + 0) = some (.int .i64 r4_ID_1) ∧
 H7.cell H.next (0 + 1) = some (.int .i64 r4_State_1) ∧
 H7.cell H.next (0 + 2) = some (.int .i64 r4_Step_1) ∧
 H7.cell H.next (0 + 3) = some (.int .i64 r4_Epoch_1) ∧
 H7.cell H.next (0 + 4) = some (.int .i64 r4_Outcome_Kind_1) ∧
 H7.cell H.next (0 + 5) = some (.int .i64 r4_Outcome_Err_1) ∧
 H7.cell H.next (0 + 6) = some (.int .i64 r4_Outcome_Steps_1) ∧
 H7.cell H.next (0 + 7) = some (.slice r4_Outcome_Valuesa_1 r4_Outcome_Valuesl_1 r4_Outcome_Valuesc_1) ∧
 Q (.tuple ⟨[.agg ⟨[.int .i64 r4_ID_1, .int .i64 r4_State_1, .int .i64 r4_Step_1, .int .i64 r4_Epoch_1, .int .i64 r4_Outcome_Kind_1, .int .i64 r4_Outcome_Err_1, .int .i64 r4_Outcome_Steps_1, .slice r4_Outcome_Valuesa_1 r4_Outcome_Valuesl_1 r4_Outcome_Valuesc_1]⟩, .int .i64 0]⟩) H7)))))))))))
set_option maxRecDepth 100000 in
theorem fw_master_Master_Status {m0b : Nat} {id1 : Int} {H : AH} {Q : Value → AH → Prop} (h : VC_master_Master_Status m0b id1 H Q) : FW Ee F_master_Master_Status [.pointer (some ⟨m0b, 0, none⟩), .int .i64 id1] H Q := by
  have e : VC_master_Master_Status m0b id1 H Q = wpF Ee ⟨[], []⟩ F_master_Master_Status [.pointer (some ⟨m0b, 0, none⟩), .int .i64 id1] H Q := by kernel_rfl
  letI : Sy := sy0
  exact wpF_sound (Eq.mp e h)
/-- (*cohort/master.Master).Wants -/
def VC_master_Master_Wants (m0b : Nat) (r1_Job : Int) (r1_Epoch : Int) (r1_Step : Int) (r1_Phase : Int) (r1_Worker : Int) (r1_Err : Int) (r1_Sent : Int) (r1_Active : Int) (r1_Many : Int) (r1_Agg_Has_0 : Bool) (r1_Agg_Has_1 : Bool) (r1_Agg_Has_2 : Bool) (r1_Agg_Has_3 : Bool) (r1_Agg_Has_4 : Bool) (r1_Agg_V_0 : Int) (r1_Agg_V_1 : Int) (r1_Agg_V_2 : Int) (r1_Agg_V_3 : Int) (r1_Agg_V_4 : Int) (r1_Valuesa : Option Addr) (r1_Valuesl : Nat) (r1_Valuesc : Nat) (H : AH) (Q : Value → AH → Prop) : Prop :=
 ∀ (H1 : AH),
 H1 = H.new (.cells [.int .i64 r1_Job, .int .i64 r1_Epoch, .int .i64 r1_Step, .int .i64 r1_Phase, .int .i64 r1_Worker, .int .i64 r1_Err, .int .i64 r1_Sent, .int .i64 r1_Active, .int .i64 r1_Many, .bool r1_Agg_Has_0, .bool r1_Agg_Has_1, .bool r1_Agg_Has_2, .bool r1_Agg_Has_3, .bool r1_Agg_Has_4, .int .i64 r1_Agg_V_0, .int .i64 r1_Agg_V_1, .int .i64 r1_Agg_V_2, .int .i64 r1_Agg_V_3, .int .i64 r1_Agg_V_4, .slice r1_Valuesa r1_Valuesl r1_Valuesc] 0) →
 FW Ee F_master_Master_current [.pointer (some ⟨m0b, 0, none⟩)] H1 fun v H2 =>
 ∃ (r11 : Option Addr),
 v = .pointer r11 ∧
 cond (r11.isNone) (
 Q (.bool false) H2) (
 grd r11.isSome (
 grd r11.isSome (
 ∃ (t18 : Int),
 H2.cell ((adr r11).block) ((adr r11).off) = some (.int .i64 t18) ∧
 ∃ (t20 : Int),
 H2.cell H.next 0 = some (.int .i64 t20) ∧
 cond (t18 != t20) (
 Q (.bool false) H2) (
 grd r11.isSome (
 grd r11.isSome (
 ∃ (t27 : Int),
 H2.cell ((adr r11).block) ((adr r11).off + 12) = some (.int .i64 t27) ∧
 ∃ (t29 : Int),
 H2.cell H.next 1 = some (.int .i64 t29) ∧
 cond (t27 != t29) (
 Q (.bool false) H2) (
 grd r11.isSome (
 grd r11.isSome (
 ∃ (t36 : Int),
 H2.cell ((adr r11).block) ((adr r11).off + 13) = some (.int .i64 t36) ∧
 ∃ (t38 : Int),
 H2.cell H.next 2 = some (.int .i64 t38) ∧
 cond (t36 != t38) (
 Q (.bool false) H2) (
 grd r11.isSome (
 grd r11.isSome (
 ∃ (t45 : Int),
 H2.cell ((adr r11).block) ((adr r11).off + 14) = some (.int .i64 t45) ∧
 ∃ (t47 : Int),
 H2.cell H.next 3 = some (.int .i64 t47) ∧
 cond (t45 != t47) (
 Q (.bool false) H2) (
 grd r11.isSome (
 grd r11.isSome (
 ∃ (t54a : Option Addr) (t54l : Nat) (t54c : Nat),
 H2.cell ((adr r11).block) ((adr r11).off + 15) = some (.slice t54a t54l t54c) ∧
 ∃ (t56 : Int),
 H2.cell H.next 4 = some (.int .i64 t56) ∧
 FW Ee F_slices_Contains_L_int_int [.slice t54a t54l t54c, .int .i64 t56] H2 fun v_1 H3 =>
 ∃ (r57 : Bool),
 v_1 = .bool r57 ∧
 cond (!r57) (
 Q (.bool false) H3) (
 grd r11.isSome (
 grd r11.isSome (
 ∃ (t64 : Option Nat),
 H3.cell ((adr r11).block) ((adr r11).off + 16) = some (.map t64) ∧
 ∃ (t66 : Int),
 H3.cell H.next 4 = some (.int .i64 t66) ∧
 ∃ (t67_Job : Int) (t67_Epoch : Int) (t67_Step : Int) (t67_Phase : Int) (t67_Worker : Int) (t67_Err : Int) (t67_Sent : Int) (t67_Active : Int) (t67_Many : Int) (t67_Agg_Has_0 : Bool) (t67_Agg_Has_1 : Bool) (t67_Agg_Has_2 : Bool) (t67_Agg_Has_3 : Bool) (t67_Agg_Has_4 : Bool) (t67_Agg_V_0 : Int) (t67_Agg_V_1 : Int) (t67_Agg_V_2 : Int) (t67_Agg_V_3 : Int) (t67_Agg_V_4 : Int) (t67_Valuesa : Option Addr) (t67_Valuesl : Nat) (t67_Valuesc : Nat) (t67ok : Bool),
 lookupv Ee H3 T_M_int_api_Report (.map t64) (.int .i64 t66) true = some (.tuple ⟨[.agg ⟨[.int .i64 t67_Job, .int .i64 t67_Epoch, .int .i64 t67_Step, .int .i64 t67_Phase, .int .i64 t67_Worker, .int .i64 t67_Err, .int .i64 t67_Sent, .int .i64 t67_Active, .int .i64 t67_Many, .bool t67_Agg_Has_0, .bool t67_Agg_Has_1, .bool t67_Agg_Has_2, .bool t67_Agg_Has_3, .bool t67_Agg_Has_4, .int .i64 t67_Agg_V_0, .int .i64 t67_Agg_V_1, .int .i64 t67_Agg_V_2, .int .i64 t67_Agg_V_3, .int .i64 t67_Agg_V_4, .slice t67_Valuesa t67_Valuesl t67_Valuesc]⟩, .bool t67ok]⟩) ∧
 ∀ (H4 : AH),
 H4 = H3.new (.cells [.int .i64 0, .int .i64 0, .int .i64 0, .int .i64 0, .int .i64 0, .int .i64 0, .int .i64 0, .int .i64 0, .int .i64 0, .bool false, .bool false, .bool false, .bool false, .bool false, .int .i64 0, .int .i64 0, .int .i64 0, .int .i64 0, .int .i64 0, .slice none 0 0] 0) →
 ∃ (H5 : AH),
 storeCellsv H4 H3.next 0 [.int .i64 t67_Job, .int .i64 t67_Epoch, .int .i64 t67_Step, .int .i64 t67_Phase, .int .i64 t67_Worker, .int .i64 t67_Err, .int .i64 t67_Sent, .int .i64 t67_Active, .int .i64 t67_Many, .bool t67_Agg_Has_0, .bool t67_Agg_Has_1, .bool t67_Agg_Has_2, .bool t67_Agg_Has_3, .bool t67_Agg_Has_4, .int .i64 t67_Agg_V_0, .int .i64 t67_Agg_V_1, .int .i64 t67_Agg_V_2, .int .i64 t67_Agg_V_3, .int .i64 t67_Agg_V_4, .slice t67_Valuesa t67_Valuesl t67_Valuesc] = some H5 ∧
 (match lookupv Ee H4 T_M_int_api_Report (.map t64) (.int .i64 t66) true with | some v => some v | none => none) = some (.tuple ⟨[.agg ⟨[.int .i64 t67_Job, .int .i64 t67_Epoch, .int .i64 t67_Step, .int .i64 t67_Phase, .int .i64 t67_Worker, .int .i64 t67_Err, .int .i64 t67_Sent, .int .i64 t67_Active, .int .i64 t67_Many, .bool t67_Agg_Has_0, .bool t67_Agg_Has_1, .bool t67_Agg_Has_2, .bool t67_Agg_Has_3, .bool t67_Agg_Has_4, .int .i64 t67_Agg_V_0, .int .i64 t67_Agg_V_1, .int .i64 t67_Agg_V_2, .int .i64 t67_Agg_V_3, .int .i64 t67_Agg_V_4, .slice t67_Valuesa t67_Valuesl t67_Valuesc]⟩, .bool t67ok]⟩) ∧
 H4.cell H.next 4 = some (.int .i64 t66) ∧
 H4.cell ((adr r11).block) ((adr r11).off + 16) = some (.map t64) ∧
 Q (.bool (!t67ok)) H5))))))))))))))))))
set_option maxRecDepth 100000 in
theorem fw_master_Master_Wants {m0b : Nat} {r1_Job : Int} {r1_Epoch : Int} {r1_Step : Int} {r1_Phase : Int} {r1_Worker : Int} {r1_Err : Int} {r1_Sent : Int} {r1_Active : Int} {r1_Many : Int} {r1_Agg_Has_0 : Bool} {r1_Agg_Has_1 : Bool} {r1_Agg_Has_2 : Bool} {r1_Agg_Has_3 : Bool} {r1_Agg_Has_4 : Bool} {r1_Agg_V_0 : Int} {r1_Agg_V_1 : Int} {r1_Agg_V_2 : Int} {r1_Agg_V_3 : Int} {r1_Agg_V_4 : Int} {r1_Valuesa : Option Addr} {r1_Valuesl : Nat} {r1_Valuesc : Nat} {H : AH} {Q : Value → AH → Prop} (h : VC_master_Master_Wants m0b r1_Job r1_Epoch r1_Step r1_Phase r1_Worker r1_Err r1_Sent r1_Active r1_Many r1_Agg_Has_0 r1_Agg_Has_1 r1_Agg_Has_2 r1_Agg_Has_3 r1_Agg_Has_4 r1_Agg_V_0 r1_Agg_V_1 r1_Agg_V_2 r1_Agg_V_3 r1_Agg_V_4 r1_Valuesa r1_Valuesl r1_Valuesc H Q) : FW Ee F_master_Master_Wants [.pointer (some ⟨m0b, 0, none⟩), .agg ⟨[.int .i64 r1_Job, .int .i64 r1_Epoch, .int .i64 r1_Step, .int .i64 r1_Phase, .int .i64 r1_Worker, .int .i64 r1_Err, .int .i64 r1_Sent, .int .i64 r1_Active, .int .i64 r1_Many, .bool r1_Agg_Has_0, .bool r1_Agg_Has_1, .bool r1_Agg_Has_2, .bool r1_Agg_Has_3, .bool r1_Agg_Has_4, .int .i64 r1_Agg_V_0, .int .i64 r1_Agg_V_1, .int .i64 r1_Agg_V_2, .int .i64 r1_Agg_V_3, .int .i64 r1_Agg_V_4, .slice r1_Valuesa r1_Valuesl r1_Valuesc]⟩] H Q := by
  have e : VC_master_Master_Wants m0b r1_Job r1_Epoch r1_Step r1_Phase r1_Worker r1_Err r1_Sent r1_Active r1_Many r1_Agg_Has_0 r1_Agg_Has_1 r1_Agg_Has_2 r1_Agg_Has_3 r1_Agg_Has_4 r1_Agg_V_0 r1_Agg_V_1 r1_Agg_V_2 r1_Agg_V_3 r1_Agg_V_4 r1_Valuesa r1_Valuesl r1_Valuesc H Q = wpF Ee ⟨[], []⟩ F_master_Master_Wants [.pointer (some ⟨m0b, 0, none⟩), .agg ⟨[.int .i64 r1_Job, .int .i64 r1_Epoch, .int .i64 r1_Step, .int .i64 r1_Phase, .int .i64 r1_Worker, .int .i64 r1_Err, .int .i64 r1_Sent, .int .i64 r1_Active, .int .i64 r1_Many, .bool r1_Agg_Has_0, .bool r1_Agg_Has_1, .bool r1_Agg_Has_2, .bool r1_Agg_Has_3, .bool r1_Agg_Has_4, .int .i64 r1_Agg_V_0, .int .i64 r1_Agg_V_1, .int .i64 r1_Agg_V_2, .int .i64 r1_Agg_V_3, .int .i64 r1_Agg_V_4, .slice r1_Valuesa r1_Valuesl r1_Valuesc]⟩] H Q := by kernel_rfl
  letI : Sy := sy0
  exact wpF_sound (Eq.mp e h)
/-- (*cohort/master.Master).report -/
def VC_master_Master_report (m0b : Nat) (r1_Job : Int) (r1_Epoch : Int) (r1_Step : Int) (r1_Phase : Int) (r1_Worker : Int) (r1_Err : Int) (r1_Sent : Int) (r1_Active : Int) (r1_Many : Int) (r1_Agg_Has_0 : Bool) (r1_Agg_Has_1 : Bool) (r1_Agg_Has_2 : Bool) (r1_Agg_Has_3 : Bool) (r1_Agg_Has_4 : Bool) (r1_Agg_V_0 : Int) (r1_Agg_V_1 : Int) (r1_Agg_V_2 : Int) (r1_Agg_V_3 : Int) (r1_Agg_V_4 : Int) (r1_Valuesa : Option Addr) (r1_Valuesl : Nat) (r1_Valuesc : Nat) (H : AH) (Q : Value → AH → Prop) : Prop :=
 ∀ (H1 : AH),
 H1 = H.new (.cells [.int .i64 r1_Job, .int .i64 r1_Epoch, .int .i64 r1_Step, .int .i64 r1_Phase, .int .i64 r1_Worker, .int .i64 r1_Err, .int .i64 r1_Sent, .int .i64 r1_Active, .int .i64 r1_Many, .bool r1_Agg_Has_0, .bool r1_Agg_Has_1, .bool r1_Agg_Has_2, .bool r1_Agg_Has_3, .bool r1_Agg_Has_4, .int .i64 r1_Agg_V_0, .int .i64 r1_Agg_V_1, .int .i64 r1_Agg_V_2, .int .i64 r1_Agg_V_3, .int .i64 r1_Agg_V_4, .slice r1_Valuesa r1_Valuesl r1_Valuesc] 0) →
 ∃ (t6_Job : Int) (t6_Epoch : Int) (t6_Step : Int) (t6_Phase : Int) (t6_Worker : Int) (t6_Err : Int) (t6_Sent : Int) (t6_Active : Int) (t6_Many : Int) (t6_Agg_Has_0 : Bool) (t6_Agg_Has_1 : Bool) (t6_Agg_Has_2 : Bool) (t6_Agg_Has_3 : Bool) (t6_Agg_Has_4 : Bool) (t6_Agg_V_0 : Int) (t6_Agg_V_1 : Int) (t6_Agg_V_2 : Int) (t6_Agg_V_3 : Int) (t6_Agg_V_4 : Int) (t6_Valuesa : Option Addr) (t6_Valuesl : Nat) (t6_Valuesc : Nat),
 H1.cell H.next (0 + 0) = some (.int .i64 t6_Job) ∧
 H1.cell H.next (0 + 1) = some (.int .i64 t6_Epoch) ∧
 H1.cell H.next (0 + 2) = some (.int .i64 t6_Step) ∧
 H1.cell H.next (0 + 3) = some (.int .i64 t6_Phase) ∧
 H1.cell H.next (0 + 4) = some (.int .i64 t6_Worker) ∧
 H1.cell H.next (0 + 5) = some (.int .i64 t6_Err) ∧
 H1.cell H.next (0 + 6) = some (.int .i64 t6_Sent) ∧
 H1.cell H.next (0 + 7) = some (.int .i64 t6_Active) ∧
 H1.cell H.next (0 + 8) = some (.int .i64 t6_Many) ∧
 H1.cell H.next (0 + 9) = some (.bool t6_Agg_Has_0) ∧
 H1.cell H.next (0 + 10) = some (.bool t6_Agg_Has_1) ∧
 H1.cell H.next (0 + 11) = some (.bool t6_Agg_Has_2) ∧
 H1.cell H.next (0 + 12) = some (.bool t6_Agg_Has_3) ∧
 H1.cell H.next (0 + 13) = some (.bool t6_Agg_Has_4) ∧
 H1.cell H.next (0 + 14) = some (.int .i64 t6_Agg_V_0) ∧
 H1.cell H.next (0 + 15) = some (.int .i64 t6_Agg_V_1) ∧
 H1.cell H.next (0 + 16) = some (.int .i64 t6_Agg_V_2) ∧
 H1.cell H.next (0 + 17) = some (.int .i64 t6_Agg_V_3) ∧
 H1.cell H.next (0 + 18) = some (.int .i64 t6_Agg_V_4) ∧
 H1.cell H.next (0 + 19) = some (.slice t6_Valuesa t6_Valuesl t6_Valuesc) ∧
 FW Ee F_master_Master_Wants [.pointer (some ⟨m0b, 0, none⟩), .agg ⟨[.int .i64 t6_Job, .int .i64 t6_Epoch, .int .i64 t6_Step, .int .i64 t6_Phase, .int .i64 t6_Worker, .int .i64 t6_Err, .int .i64 t6_Sent, .int .i64 t6_Active, .int .i64 t6_Many, .bool t6_Agg_Has_0, .bool t6_Agg_Has_1, .bool t6_Agg_Has_2, .bool t6_Agg_Has_3, .bool t6_Agg_Has_4, .int .i64 t6_Agg_V_0, .int .i64 t6_Agg_V_1, .int .i64 t6_Agg_V_2, .int .i64 t6_Agg_V_3, .int .i64 t6_Agg_V_4, .slice t6_Valuesa t6_Valuesl t6_Valuesc]⟩] H1 fun v H2 =>
 ∃ (r7 : Bool),
 v = .bool r7 ∧
 cond (!r7) (
 Q (.tuple ⟨[]⟩) H2) (
 FW Ee F_master_Master_current [.pointer (some ⟨m0b, 0, none⟩)] H2 fun v_1 H3 =>
 ∃ (r10 : Option Addr),
 v_1 = .pointer r10 ∧
 ∃ (t12a : Option Addr) (t12l : Nat) (t12c : Nat),
 H3.cell H.next 19 = some (.slice t12a t12l t12c) ∧
 FW Ee F_slices_Clone_L_api_Value_api_Value [.slice t12a t12l t12c] H3 fun v_2 H4 =>
 ∃ (r13a : Option Addr) (r13l : Nat) (r13c : Nat),
 v_2 = .slice r13a r13l r13c ∧
 ∃ (H5 : AH),
 storeCellsv H4 H.next 19 [.slice r13a r13l r13c] = some H5 ∧
 grd r10.isSome (
 grd r10.isSome (
 ∃ (t18 : Option Nat),
 H5.cell ((adr r10).block) ((adr r10).off + 16) = some (.map t18) ∧
 ∃ (t20 : Int),
 H5.cell H.next 4 = some (.int .i64 t20) ∧
 ∃ (t21_Job : Int) (t21_Epoch : Int) (t21_Step : Int) (t21_Phase : Int) (t21_Worker : Int) (t21_Err : Int) (t21_Sent : Int) (t21_Active : Int) (t21_Many : Int) (t21_Agg_Has_0 : Bool) (t21_Agg_Has_1 : Bool) (t21_Agg_Has_2 : Bool) (t21_Agg_Has_3 : Bool) (t21_Agg_Has_4 : Bool) (t21_Agg_V_0 : Int) (t21_Agg_V_1 : Int) (t21_Agg_V_2 : Int) (t21_Agg_V_3 : Int) (t21_Agg_V_4 : Int) (t21_Valuesa : Option Addr) (t21_Valuesl : Nat) (t21_Valuesc : Nat),
 H5.cell H.next (0 + 0) = some (.int .i64 t21_Job) ∧
 H5.cell H.next (0 + 1) = some (.int .i64 t21_Epoch) ∧
 H5.cell H.next (0 + 2) = some (.int .i64 t21_Step) ∧
 H5.cell H.next (0 + 3) = some (.int .i64 t21_Phase) ∧
 H5.cell H.next (0 + 4) = some (.int .i64 t21_Worker) ∧
 H5.cell H.next (0 + 5) = some (.int .i64 t21_Err) ∧
 H5.cell H.next (0 + 6) = some (.int .i64 t21_Sent) ∧
 H5.cell H.next (0 + 7) = some (.int .i64 t21_Active) ∧
 H5.cell H.next (0 + 8) = some (.int .i64 t21_Many) ∧
 H5.cell H.next (0 + 9) = some (.bool t21_Agg_Has_0) ∧
 H5.cell H.next (0 + 10) = some (.bool t21_Agg_Has_1) ∧
 H5.cell H.next (0 + 11) = some (.bool t21_Agg_Has_2) ∧
 H5.cell H.next (0 + 12) = some (.bool t21_Agg_Has_3) ∧
 H5.cell H.next (0 + 13) = some (.bool t21_Agg_Has_4) ∧
 H5.cell H.next (0 + 14) = some (.int .i64 t21_Agg_V_0) ∧
 H5.cell H.next (0 + 15) = some (.int .i64 t21_Agg_V_1) ∧
 H5.cell H.next (0 + 16) = some (.int .i64 t21_Agg_V_2) ∧
 H5.cell H.next (0 + 17) = some (.int .i64 t21_Agg_V_3) ∧
 H5.cell H.next (0 + 18) = some (.int .i64 t21_Agg_V_4) ∧
 H5.cell H.next (0 + 19) = some (.slice t21_Valuesa t21_Valuesl t21_Valuesc) ∧
 ∃ (H6 : AH),
 updatev Ee H5 T_M_int_api_Report (.map t18) (.int .i64 t20) (.agg ⟨[.int .i64 t21_Job, .int .i64 t21_Epoch, .int .i64 t21_Step, .int .i64 t21_Phase, .int .i64 t21_Worker, .int .i64 t21_Err, .int .i64 t21_Sent, .int .i64 t21_Active, .int .i64 t21_Many, .bool t21_Agg_Has_0, .bool t21_Agg_Has_1, .bool t21_Agg_Has_2, .bool t21_Agg_Has_3, .bool t21_Agg_Has_4, .int .i64 t21_Agg_V_0, .int .i64 t21_Agg_V_1, .int .i64 t21_Agg_V_2, .int .i64 t21_Agg_V_3, .int .i64 t21_Agg_V_4, .slice t21_Valuesa t21_Valuesl t21_Valuesc]⟩) = some H6 ∧
 grd r10.isSome (
 grd r10.isSome (
 ∃ (t25 : Option Nat),
 H6.cell ((adr r10).block) ((adr r10).off + 16) = some (.map t25) ∧
 ((
 t25 = none ∧
 grd r10.isSome (
 grd r10.isSome (
 ∃ (t30a : Option Addr) (t30l : Nat) (t30c : Nat),
 H6.cell ((adr r10).block) ((adr r10).off + 15) = some (.slice t30a t30l t30c) ∧
 FW Ee F_plan_Workers [.slice t30a t30l t30c] H6 fun v_3 H7 =>
 ∃ (r31a : Option Addr) (r31l : Nat) (r31c : Nat),
 v_3 = .slice r31a r31l r31c ∧
 cond (0 == (((r31l : Nat) : Int))) (
 FW Ee F_master_Master_ready [.pointer (some ⟨m0b, 0, none⟩), .pointer r10] H7 fun v_4 H8 =>
 v_4 = .tuple ⟨[]⟩ ∧
 Q (.tuple ⟨[]⟩) H8) (
 Q (.tuple ⟨[]⟩) H7)))) ∨ (
 ∃ (mb : Nat) (es : List MapEntry) (cl : Nat),
 t25 = some mb ∧
 H6.get mb = some (.map es cl) ∧
 grd r10.isSome (
 grd r10.isSome (
 ∃ (t30a_1 : Option Addr) (t30l_1 : Nat) (t30c_1 : Nat),
 H6.cell ((adr r10).block) ((adr r10).off + 15) = some (.slice t30a_1 t30l_1 t30c_1) ∧
 FW Ee F_plan_Workers [.slice t30a_1 t30l_1 t30c_1] H6 fun v_5 H9 =>
 ∃ (r31a_1 : Option Addr) (r31l_1 : Nat) (r31c_1 : Nat),
 v_5 = .slice r31a_1 r31l_1 r31c_1 ∧
 cond ((((es.length : Nat) : Int)) == (((r31l_1 : Nat) : Int))) (
 FW Ee F_master_Master_ready [.pointer (some ⟨m0b, 0, none⟩), .pointer r10] H9 fun v_6 H10 =>
 v_6 = .tuple ⟨[]⟩ ∧
 Q (.tuple ⟨[]⟩) H10) (
 Q (.tuple ⟨[]⟩) H9))))))))))
set_option maxRecDepth 100000 in
theorem fw_master_Master_report {m0b : Nat} {r1_Job : Int} {r1_Epoch : Int} {r1_Step : Int} {r1_Phase : Int} {r1_Worker : Int} {r1_Err : Int} {r1_Sent : Int} {r1_Active : Int} {r1_Many : Int} {r1_Agg_Has_0 : Bool} {r1_Agg_Has_1 : Bool} {r1_Agg_Has_2 : Bool} {r1_Agg_Has_3 : Bool} {r1_Agg_Has_4 : Bool} {r1_Agg_V_0 : Int} {r1_Agg_V_1 : Int} {r1_Agg_V_2 : Int} {r1_Agg_V_3 : Int} {r1_Agg_V_4 : Int} {r1_Valuesa : Option Addr} {r1_Valuesl : Nat} {r1_Valuesc : Nat} {H : AH} {Q : Value → AH → Prop} (h : VC_master_Master_report m0b r1_Job r1_Epoch r1_Step r1_Phase r1_Worker r1_Err r1_Sent r1_Active r1_Many r1_Agg_Has_0 r1_Agg_Has_1 r1_Agg_Has_2 r1_Agg_Has_3 r1_Agg_Has_4 r1_Agg_V_0 r1_Agg_V_1 r1_Agg_V_2 r1_Agg_V_3 r1_Agg_V_4 r1_Valuesa r1_Valuesl r1_Valuesc H Q) : FW Ee F_master_Master_report [.pointer (some ⟨m0b, 0, none⟩), .agg ⟨[.int .i64 r1_Job, .int .i64 r1_Epoch, .int .i64 r1_Step, .int .i64 r1_Phase, .int .i64 r1_Worker, .int .i64 r1_Err, .int .i64 r1_Sent, .int .i64 r1_Active, .int .i64 r1_Many, .bool r1_Agg_Has_0, .bool r1_Agg_Has_1, .bool r1_Agg_Has_2, .bool r1_Agg_Has_3, .bool r1_Agg_Has_4, .int .i64 r1_Agg_V_0, .int .i64 r1_Agg_V_1, .int .i64 r1_Agg_V_2, .int .i64 r1_Agg_V_3, .int .i64 r1_Agg_V_4, .slice r1_Valuesa r1_Valuesl r1_Valuesc]⟩] H Q := by
  have e : VC_master_Master_report m0b r1_Job r1_Epoch r1_Step r1_Phase r1_Worker r1_Err r1_Sent r1_Active r1_Many r1_Agg_Has_0 r1_Agg_Has_1 r1_Agg_Has_2 r1_Agg_Has_3 r1_Agg_Has_4 r1_Agg_V_0 r1_Agg_V_1 r1_Agg_V_2 r1_Agg_V_3 r1_Agg_V_4 r1_Valuesa r1_Valuesl r1_Valuesc H Q = wpF Ee ⟨[], []⟩ F_master_Master_report [.pointer (some ⟨m0b, 0, none⟩), .agg ⟨[.int .i64 r1_Job, .int .i64 r1_Epoch, .int .i64 r1_Step, .int .i64 r1_Phase, .int .i64 r1_Worker, .int .i64 r1_Err, .int .i64 r1_Sent, .int .i64 r1_Active, .int .i64 r1_Many, .bool r1_Agg_Has_0, .bool r1_Agg_Has_1, .bool r1_Agg_Has_2, .bool r1_Agg_Has_3, .bool r1_Agg_Has_4, .int .i64 r1_Agg_V_0, .int .i64 r1_Agg_V_1, .int .i64 r1_Agg_V_2, .int .i64 r1_Agg_V_3, .int .i64 r1_Agg_V_4, .slice r1_Valuesa r1_Valuesl r1_Valuesc]⟩] H Q := by kernel_rfl
  letI : Sy := sy0
  exact wpF_sound (Eq.mp e h)
end Go.Proofs.Cx

namespace Go.Proofs.Cx
open Go Go.Ev
set_option linter.unusedVariables false
set_option maxRecDepth 100000
set_option maxHeartbeats 8000000
/-- cohort/cohortlaw17.MasterNil -/
def VC_cohortlaw17_MasterNil (c0_Kind : Int) (c0_Session : Int) (c0_Seq : Int) (c0_S : List UInt8) (c0_ID : Int) (c0_Worker : Int) (c0_Life : Int) (c0_Report_Job : Int) (c0_Report_Epoch : Int) (c0_Report_Step : Int) (c0_Report_Phase : Int) (c0_Report_Worker : Int) (c0_Report_Err : Int) (c0_Report_Sent : Int) (c0_Report_Active : Int) (c0_Report_Many : Int) (c0_Report_Agg_Has_0 : Bool) (c0_Report_Agg_Has_1 : Bool) (c0_Report_Agg_Has_2 : Bool) (c0_Report_Agg_Has_3 : Bool) (c0_Report_Agg_Has_4 : Bool) (c0_Report_Agg_V_0 : Int) (c0_Report_Agg_V_1 : Int) (c0_Report_Agg_V_2 : Int) (c0_Report_Agg_V_3 : Int) (c0_Report_Agg_V_4 : Int) (c0_Report_Valuesa : Option Addr) (c0_Report_Valuesl : Nat) (c0_Report_Valuesc : Nat) (id1 : Int) (H : AH) (Q : Value → AH → Prop) : Prop :=
 ∀ (H1 : AH),
 H1 = H.new (.cells [.int .i64 c0_Kind, .int .i64 c0_Session, .int .i64 c0_Seq, .string ⟨⟨c0_S⟩⟩, .int .i64 c0_ID, .int .i64 c0_Worker, .int .i64 c0_Life, .int .i64 c0_Report_Job, .int .i64 c0_Report_Epoch, .int .i64 c0_Report_Step, .int .i64 c0_Report_Phase, .int .i64 c0_Report_Worker, .int .i64 c0_Report_Err, .int .i64 c0_Report_Sent, .int .i64 c0_Report_Active, .int .i64 c0_Report_Many, .bool c0_Report_Agg_Has_0, .bool c0_Report_Agg_Has_1, .bool c0_Report_Agg_Has_2, .bool c0_Report_Agg_Has_3, .bool c0_Report_Agg_Has_4, .int .i64 c0_Report_Agg_V_0, .int .i64 c0_Report_Agg_V_1, .int .i64 c0_Report_Agg_V_2, .int .i64 c0_Report_Agg_V_3, .int .i64 c0_Report_Agg_V_4, .slice c0_Report_Valuesa c0_Report_Valuesl c0_Report_Valuesc] 0) →
 ∃ (t26_Kind : Int) (t26_Session : Int) (t26_Seq : Int) (t26_S : List UInt8) (t26_ID : Int) (t26_Worker : Int) (t26_Life : Int) (t26_Report_Job : Int) (t26_Report_Epoch : Int) (t26_Report_Step : Int) (t26_Report_Phase : Int) (t26_Report_Worker : Int) (t26_Report_Err : Int) (t26_Report_Sent : Int) (t26_Report_Active : Int) (t26_Report_Many : Int) (t26_Report_Agg_Has_0 : Bool) (t26_Report_Agg_Has_1 : Bool) (t26_Report_Agg_Has_2 : Bool) (t26_Report_Agg_Has_3 : Bool) (t26_Report_Agg_Has_4 : Bool) (t26_Report_Agg_V_0 : Int) (t26_Report_Agg_V_1 : Int) (t26_Report_Agg_V_2 : Int) (t26_Report_Agg_V_3 : Int) (t26_Report_Agg_V_4 : Int) (t26_Report_Valuesa : Option Addr) (t26_Report_Valuesl : Nat) (t26_Report_Valuesc : Nat),
 H1.cell H.next (0 + 0) = some (.int .i64 t26_Kind) ∧
 H1.cell H.next (0 + 1) = some (.int .i64 t26_Session) ∧
 H1.cell H.next (0 + 2) = some (.int .i64 t26_Seq) ∧
 H1.cell H.next (0 + 3) = some (.string ⟨⟨t26_S⟩⟩) ∧
 H1.cell H.next (0 + 4) = some (.int .i64 t26_ID) ∧
 H1.cell H.next (0 + 5) = some (.int .i64 t26_Worker) ∧
 H1.cell H.next (0 + 6) = some (.int .i64 t26_Life) ∧
 H1.cell H.next (0 + 7) = some (.int .i64 t26_Report_Job) ∧
 H1.cell H.next (0 + 8) = some (.int .i64 t26_Report_Epoch) ∧
 H1.cell H.next (0 + 9) = some (.int .i64 t26_Report_Step) ∧
 H1.cell H.next (0 + 10) = some (.int .i64 t26_Report_Phase) ∧
 H1.cell H.next (0 + 11) = some (.int .i64 t26_Report_Worker) ∧
 H1.cell H.next (0 + 12) = some (.int .i64 t26_Report_Err) ∧
 H1.cell H.next (0 + 13) = some (.int .i64 t26_Report_Sent) ∧
 H1.cell H.next (0 + 14) = some (.int .i64 t26_Report_Active) ∧
 H1.cell H.next (0 + 15) = some (.int .i64 t26_Report_Many) ∧
 H1.cell H.next (0 + 16) = some (.bool t26_Report_Agg_Has_0) ∧
 H1.cell H.next (0 + 17) = some (.bool t26_Report_Agg_Has_1) ∧
 H1.cell H.next (0 + 18) = some (.bool t26_Report_Agg_Has_2) ∧
 H1.cell H.next (0 + 19) = some (.bool t26_Report_Agg_Has_3) ∧
 H1.cell H.next (0 + 20) = some (.bool t26_Report_Agg_Has_4) ∧
 H1.cell H.next (0 + 21) = some (.int .i64 t26_Report_Agg_V_0) ∧
 H1.cell H.next (0 + 22) = some (.int .i64 t26_Report_Agg_V_1) ∧
 H1.cell H.next (0 + 23) = some (.int .i64 t26_Report_Agg_V_2) ∧
 H1.cell H.next (0 + 24) = some (.int .i64 t26_Report_Agg_V_3) ∧
 H1.cell H.next (0 + 25) = some (.int .i64 t26_Report_Agg_V_4) ∧
 H1.cell H.next (0 + 26) = some (.slice t26_Report_Valuesa t26_Report_Valuesl t26_Report_Valuesc) ∧
 FW Ee F_master_Master_Apply [.pointer none, .agg ⟨[.int .i64 t26_Kind, .int .i64 t26_Session, .int .i64 t26_Seq, .string ⟨⟨t26_S⟩⟩, .int .i64 t26_ID, .int .i64 t26_Worker, .int .i64 t26_Life, .int .i64 t26_Report_Job, .int .i64 t26_Report_Epoch, .int .i64 t26_Report_Step, .int .i64 t26_Report_Phase, .int .i64 t26_Report_Worker, .int .i64 t26_Report_Err, .int .i64 t26_Report_Sent, .int .i64 t26_Report_Active, .int .i64 t26_Report_Many, .bool t26_Report_Agg_Has_0, .bool t26_Report_Agg_Has_1, .bool t26_Report_Agg_Has_2, .bool t26_Report_Agg_Has_3, .bool t26_Report_Agg_Has_4, .int .i64 t26_Report_Agg_V_0, .int .i64 t26_Report_Agg_V_1, .int .i64 t26_Report_Agg_V_2, .int .i64 t26_Report_Agg_V_3, .int .i64 t26_Report_Agg_V_4, .slice t26_Report_Valuesa t26_Report_Valuesl t26_Report_Valuesc]⟩] H1 fun v H2 =>
 ∃ (r27_0_Err : Int) (r27_0_ID : Int) (r27_1 : Int),
 v = .tuple ⟨[.agg ⟨[.int .i64 r27_0_Err, .int .i64 r27_0_ID]⟩, .int .i64 r27_1]⟩ ∧
 ∀ (H3 : AH),
 H3 = H2.new (.cells [.int .i64 0, .int .i64 0] 0) →
 ∃ (H4 : AH),
 storeCellsv H3 H2.next 0 [.int .i64 r27_0_Err, .int .i64 r27_0_ID] = some H4 ∧
 ∃ (t33 : Int),
 H4.cell H.next 1 = some (.int .i64 t33) ∧
 ∃ (t35 : Int),
 H4.cell H.next 2 = some (.int .i64 t35) ∧
 FW Ee F_master_Master_Look [.pointer none, .int .i64 t33, .int .i64 t35] H4 fun v_1 H5 =>
 ∃ (r36_0_Err : Int) (r36_0_ID : Int) (r36_1 : Bool) (r36_2 : Int),
 v_1 = .tuple ⟨[.agg ⟨[.int .i64 r36_0_Err, .int .i64 r36_0_ID]⟩, .bool r36_1, .int .i64 r36_2]⟩ ∧
 ∀ (H6 : AH),
 H6 = H5.new (.cells [.int .i64 0, .int .i64 0] 0) →
 ∃ (H7 : AH),
 storeCellsv H6 H5.next 0 [.int .i64 r36_0_Err, .int .i64 r36_0_ID] = some H7 ∧
 FW Ee F_master_Master_Task [.pointer none, .int .i64 id1] H7 fun v_2 H8 =>
 ∃ (r43_0_Job : Int) (r43_0_Epoch : Int) (r43_0_Step : Int) (r43_0_Phase : Int) (r43_0_Partsa : Option Addr) (r43_0_Partsl : Nat) (r43_0_Partsc : Nat) (r43_0_Assigneda : Option Addr) (r43_0_Assignedl : Nat) (r43_0_Assignedc : Nat) (r43_0_Spec_Program : List UInt8) (r43_0_Spec_Graph_Verticesa : Option Addr) (r43_0_Spec_Graph_Verticesl : Nat) (r43_0_Spec_Graph_Verticesc : Nat) (r43_0_Spec_Paramsa : Option Addr) (r43_0_Spec_Paramsl : Nat) (r43_0_Spec_Paramsc : Nat) (r43_0_Spec_Steps : Int) (r43_0_Spec_Sent : Int) (r43_0_Spec_Parts : Int) (r43_0_Before_Has_0 : Bool) (r43_0_Before_Has_1 : Bool) (r43_0_Before_Has_2 : Bool) (r43_0_Before_Has_3 : Bool) (r43_0_Before_Has_4 : Bool) (r43_0_Before_V_0 : Int) (r43_0_Before_V_1 : Int) (r43_0_Before_V_2 : Int) (r43_0_Before_V_3 : Int) (r43_0_Before_V_4 : Int) (r43_0_Many : Int) (r43_0_From : Int) (r43_0_FromEpoch : Int) (r43_0_Keep : Bool) (r43_1 : Bool),
 v_2 = .tuple ⟨[.agg ⟨[.int .i64 r43_0_Job, .int .i64 r43_0_Epoch, .int .i64 r43_0_Step, .int .i64 r43_0_Phase, .slice r43_0_Partsa r43_0_Partsl r43_0_Partsc, .slice r43_0_Assigneda r43_0_Assignedl r43_0_Assignedc, .string ⟨⟨r43_0_Spec_Program⟩⟩, .slice r43_0_Spec_Graph_Verticesa r43_0_Spec_Graph_Verticesl r43_0_Spec_Graph_Verticesc, .slice r43_0_Spec_Paramsa r43_0_Spec_Paramsl r43_0_Spec_Paramsc, .int .i64 r43_0_Spec_Steps, .int .i64 r43_0_Spec_Sent, .int .i64 r43_0_Spec_Parts, .bool r43_0_Before_Has_0, .bool r43_0_Before_Has_1, .bool r43_0_Before_Has_2, .bool r43_0_Before_Has_3, .bool r43_0_Before_Has_4, .int .i64 r43_0_Before_V_0, .int .i64 r43_0_Before_V_1, .int .i64 r43_0_Before_V_2, .int .i64 r43_0_Before_V_3, .int .i64 r43_0_Before_V_4, .int .i64 r43_0_Many, .int .i64 r43_0_From, .int .i64 r43_0_FromEpoch, .bool r43_0_Keep]⟩, .bool r43_1]⟩ ∧
 ∀ (H9 : AH),
 H9 = H8.new (.cells [.int .i64 0, .int .i64 0, .int .i64 0, .int .i64 0, .slice none 0 0, .slice none 0 0, .string ⟨⟨[]⟩⟩, .slice none 0 0, .slice none 0 0, .int .i64 0, .int .i64 0, .int .i64 0, .bool false, .bool false, .bool false, .bool false, .bool false, .int .i64 0, .int .i64 0, .int .i64 0, .int .i64 0, .int .i64 0, .int .i64 0, .int .i64 0, .int .i64 0, .bool false] 0) →
 ∃ (H10 : AH),
 storeCellsv H9 H8.next 0 [.int .i64 r43_0_Job, .int .i64 r43_0_Epoch, .int .i64 r43_0_Step, .int .i64 r43_0_Phase, .slice r43_0_Partsa r43_0_Partsl r43_0_Partsc, .slice r43_0_Assigneda r43_0_Assignedl r43_0_Assignedc, .string ⟨⟨r43_0_Spec_Program⟩⟩, .slice r43_0_Spec_Graph_Verticesa r43_0_Spec_Graph_Verticesl r43_0_Spec_Graph_Verticesc, .slice r43_0_Spec_Paramsa r43_0_Spec_Paramsl r43_0_Spec_Paramsc, .int .i64 r43_0_Spec_Steps, .int .i64 r43_0_Spec_Sent, .int .i64 r43_0_Spec_Parts, .bool r43_0_Before_Has_0, .bool r43_0_Before_Has_1, .bool r43_0_Before_Has_2, .bool r43_0_Before_Has_3, .bool r43_0_Before_Has_4, .int .i64 r43_0_Before_V_0, .int .i64 r43_0_Before_V_1, .int .i64 r43_0_Before_V_2, .int .i64 r43_0_Before_V_3, .int .i64 r43_0_Before_V_4, .int .i64 r43_0_Many, .int .i64 r43_0_From, .int .i64 r43_0_FromEpoch, .bool r43_0_Keep] = some H10 ∧
 FW Ee F_master_Master_Status [.pointer none, .int .i64 id1] H10 fun v_3 H11 =>
 ∃ (r49_0_ID : Int) (r49_0_State : Int) (r49_0_Step : Int) (r49_0_Epoch : Int) (r49_0_Outcome_Kind : Int) (r49_0_Outcome_Err : Int) (r49_0_Outcome_Steps : Int) (r49_0_Outcome_Valuesa : Option Addr) (r49_0_Outcome_Valuesl : Nat) (r49_0_Outcome_Valuesc : Nat) (r49_1 : Int),
 v_3 = .tuple ⟨[.agg ⟨[.int .i64 r49_0_ID, .int .i64 r49_0_State, .int .i64 r49_0_Step, .int .i64 r49_0_Epoch, .int .i64 r49_0_Outcome_Kind, .int .i64 r49_0_Outcome_Err, .int .i64 r49_0_Outcome_Steps, .slice r49_0_Outcome_Valuesa r49_0_Outcome_Valuesl r49_0_Outcome_Valuesc]⟩, .int .i64 r49_1]⟩ ∧
 ∀ (H12 : AH),
 H12 = H11.new (.cells [.int .i64 0, .int .i64 0, .int .i64 0, .int .i64 0, .int .i64 0, .int .i64 0, .int .i64 0, .slice none 0 0] 0) →
 ∃ (H13 : AH),
 storeCellsv H12 H11.next 0 [.int .i64 r49_0_ID, .int .i64 r49_0_State, .int .i64 r49_0_Step, .int .i64 r49_0_Epoch, .int .i64 r49_0_Outcome_Kind, .int .i64 r49_0_Outcome_Err, .int .i64 r49_0_Outcome_Steps, .slice r49_0_Outcome_Valuesa r49_0_Outcome_Valuesl r49_0_Outcome_Valuesc] = some H13 ∧
 FW Ee F_master_Master_Spec [.pointer none, .int .i64 id1] H13 fun v_4 H14 =>
 ∃ (r55_0_Program : List UInt8) (r55_0_Graph_Verticesa : Option Addr) (r55_0_Graph_Verticesl : Nat) (r55_0_Graph_Verticesc : Nat) (r55_0_Paramsa : Option Addr) (r55_0_Paramsl : Nat) (r55_0_Paramsc : Nat) (r55_0_Steps : Int) (r55_0_Sent : Int) (r55_0_Parts : Int) (r55_1 : Bool),
 v_4 = .tuple ⟨[.agg ⟨[.string ⟨⟨r55_0_Program⟩⟩, .slice r55_0_Graph_Verticesa r55_0_Graph_Verticesl r55_0_Graph_Verticesc, .slice r55_0_Paramsa r55_0_Paramsl r55_0_Paramsc, .int .i64 r55_0_Steps, .int .i64 r55_0_Sent, .int .i64 r55_0_Parts]⟩, .bool r55_1]⟩ ∧
 ∀ (H15 : AH),
 H15 = H14.new (.cells [.string ⟨⟨[]⟩⟩, .slice none 0 0, .slice none 0 0, .int .i64 0, .int .i64 0, .int .i64 0] 0) →
 ∃ (H16 : AH),
 storeCellsv H15 H14.next 0 [.string ⟨⟨r55_0_Program⟩⟩, .slice r55_0_Graph_Verticesa r55_0_Graph_Verticesl r55_0_Graph_Verticesc, .slice r55_0_Paramsa r55_0_Paramsl r55_0_Paramsc, .int .i64 r55_0_Steps, .int .i64 r55_0_Sent, .int .i64 r55_0_Parts] = some H16 ∧
 FW Ee F_master_Master_Life [.pointer none, .int .i64 id1] H16 fun v_5 H17 =>
 ∃ (r61_0 : Int) (r61_1 : Bool),
 v_5 = .tuple ⟨[.int .i64 r61_0, .bool r61_1]⟩ ∧
 FW Ee F_cohortlaw17_awake [] H17 fun v_6 H18 =>
 ∃ (r64 : Bool),
 v_6 = .bool r64 ∧
 cond (!r64) (
 Q (.bool false) H18) (
 cond (r27_1 != 1) (
 Q (.bool false) H18) (
 cond (r36_2 != 1) (
 Q (.bool false) H18) (
 cond (r36_1) (
 Q (.bool false) H18) (
 cond (r43_1) (
 Q (.bool false) H18) (
 cond (r49_1 != 1) (
 Q (.bool false) H18) (
 cond (r55_1) (
 Q (.bool false) H18) (
 cond (r61_1) (
 Q (.bool false) H18) (
 ∃ (t93_Job : Int) (t93_Epoch : Int) (t93_Step : Int) (t93_Phase : Int) (t93_Worker : Int) (t93_Err : Int) (t93_Sent : Int) (t93_Active : Int) (t93_Many : Int) (t93_Agg_Has_0 : Bool) (t93_Agg_Has_1 : Bool) (t93_Agg_Has_2 : Bool) (t93_Agg_Has_3 : Bool) (t93_Agg_Has_4 : Bool) (t93_Agg_V_0 : Int) (t93_Agg_V_1 : Int) (t93_Agg_V_2 : Int) (t93_Agg_V_3 : Int) (t93_Agg_V_4 : Int) (t93_Valuesa : Option Addr) (t93_Valuesl : Nat) (t93_Valuesc : Nat),
 H18.cell H.next (7 + 0) = some (.int .i64 t93_Job) ∧
 H18.cell H.next (7 + 1) = some (.int .i64 t93_Epoch) ∧
 H18.cell H.next (7 + 2) = some (.int .i64 t93_Step) ∧
 H18.cell H.next (7 + 3) = some (.int .i64 t93_Phase) ∧
 H18.cell H.next (7 + 4) = some (.int .i64 t93_Worker) ∧
 H18.cell H.next (7 + 5) = some (.int .i64 t93_Err) ∧
 H18.cell H.next (7 + 6) = some (.int .i64 t93_Sent) ∧
 H18.cell H.next (7 + 7) = some (.int .i64 t93_Active) ∧
 H18.cell H.next (7 + 8) = some (.int .i64 t93_Many) ∧
 H18.cell H.next (7 + 9) = some (.bool t93_Agg_Has_0) ∧
 H18.cell H.next (7 + 10) = some (.bool t93_Agg_Has_1) ∧
 H18.cell H.next (7 + 11) = some (.bool t93_Agg_Has_2) ∧
 H18.cell H.next (7 + 12) = some (.bool t93_Agg_Has_3) ∧
 H18.cell H.next (7 + 13) = some (.bool t93_Agg_Has_4) ∧
 H18.cell H.next (7 + 14) = some (.int .i64 t93_Agg_V_0) ∧
 H18.cell H.next (7 + 15) = some (.int .i64 t93_Agg_V_1) ∧
 H18.cell H.next (7 + 16) = some (.int .i64 t93_Agg_V_2) ∧
 H18.cell H.next (7 + 17) = some (.int .i64 t93_Agg_V_3) ∧
 H18.cell H.next (7 + 18) = some (.int .i64 t93_Agg_V_4) ∧
 H18.cell H.next (7 + 19) = some (.slice t93_Valuesa t93_Valuesl t93_Valuesc) ∧
 FW Ee F_master_Master_Wants [.pointer none, .agg ⟨[.int .i64 t93_Job, .int .i64 t93_Epoch, .int .i64 t93_Step, .int .i64 t93_Phase, .int .i64 t93_Worker, .int .i64 t93_Err, .int .i64 t93_Sent, .int .i64 t93_Active, .int .i64 t93_Many, .bool t93_Agg_Has_0, .bool t93_Agg_Has_1, .bool t93_Agg_Has_2, .bool t93_Agg_Has_3, .bool t93_Agg_Has_4, .int .i64 t93_Agg_V_0, .int .i64 t93_Agg_V_1, .int .i64 t93_Agg_V_2, .int .i64 t93_Agg_V_3, .int .i64 t93_Agg_V_4, .slice t93_Valuesa t93_Valuesl t93_Valuesc]⟩] H18 fun v_7 H19 =>
 ∃ (r94 : Bool),
 v_7 = .bool r94 ∧
 cond (r94) (
 Q (.bool false) H19) (
 FW Ee F_master_Master_Jobs [.pointer none] H19 fun v_8 H20 =>
 ∃ (r98a : Option Addr) (r98l : Nat) (r98c : Nat),
 v_8 = .slice r98a r98l r98c ∧
 cond ((((r98l : Nat) : Int)) != 0) (
 Q (.bool false) H20) (
 FW Ee F_master_Master_Workers [.pointer none] H20 fun v_9 H21 =>
 ∃ (r104a : Option Addr) (r104l : Nat) (r104c : Nat),
 v_9 = .slice r104a r104l r104c ∧
 cond ((((r104l : Nat) : Int)) != 0) (
 Q (.bool false) H21) (
 FW Ee F_master_Master_Open [.pointer none] H21 fun v_10 H22 =>
 ∃ (r110 : Int),
 v_10 = .int .i64 r110 ∧
 cond (r110 != 0) (
 Q (.bool false) H22) (
 FW Ee F_master_Master_Epoch [.pointer none] H22 fun v_11 H23 =>
 ∃ (r115 : Int),
 v_11 = .int .i64 r115 ∧
 cond (r115 != 0) (
 Q (.bool false) H23) (
 FW Ee F_master_Master_Encode [.pointer none] H23 fun v_12 H24 =>
 ∃ (r120 : List UInt8),
 v_12 = .string ⟨⟨r120⟩⟩ ∧
 cond (!((r120 : List UInt8) == [])) (
 Q (.bool false) H24) (
 FW Ee F_master_New [] H24 fun v_13 H25 =>
 ∃ (r123 : Option Addr),
 v_13 = .pointer r123 ∧
 FW Ee F_master_Master_Status [.pointer r123, .int .i64 id1] H25 fun v_14 H26 =>
 ∃ (r127_0_ID : Int) (r127_0_State : Int) (r127_0_Step : Int) (r127_0_Epoch : Int) (r127_0_Outcome_Kind : Int) (r127_0_Outcome_Err : Int) (r127_0_Outcome_Steps : Int) (r127_0_Outcome_Valuesa : Option Addr) (r127_0_Outcome_Valuesl : Nat) (r127_0_Outcome_Valuesc : Nat) (r127_1 : Int),
 v_14 = .tuple ⟨[.agg ⟨[.int .i64 r127_0_ID, .int .i64 r127_0_State, .int .i64 r127_0_Step, .int .i64 r127_0_Epoch, .int .i64 r127_0_Outcome_Kind, .int .i64 r127_0_Outcome_Err, .int .i64 r127_0_Outcome_Steps, .slice r127_0_Outcome_Valuesa r127_0_Outcome_Valuesl r127_0_Outcome_Valuesc]⟩, .int .i64 r127_1]⟩ ∧
 ∀ (H27 : AH),
 H27 = H26.new (.cells [.int .i64 0, .int .i64 0, .int .i64 0, .int .i64 0, .int .i64 0, .int .i64 0, .int .i64 0, .slice none 0 0] 0) →
 ∃ (H28 : AH),
 storeCellsv H27 H26.next 0 [.int .i64 r127_0_ID, .int .i64 r127_0_State, .int .i64 r127_0_Step, .int .i64 r127_0_Epoch, .int .i64 r127_0_Outcome_Kind, .int .i64 r127_0_Outcome_Err, .int .i64 r127_0_Outcome_Steps, .slice r127_0_Outcome_Valuesa r127_0_Outcome_Valuesl r127_0_Outcome_Valuesc] = some H28 ∧
 ∃ (t131 : Int),
 H28.cell H.next 0 = some (.int .i64 t131) ∧
 cond (decide (t131 < 1)) (
 ∃ (t140_Kind : Int) (t140_Session : Int) (t140_Seq : Int) (t140_S : List UInt8) (t140_ID : Int) (t140_Worker : Int) (t140_Life : Int) (t140_Report_Job : Int) (t140_Report_Epoch : Int) (t140_Report_Step : Int) (t140_Report_Phase : Int) (t140_Report_Worker : Int) (t140_Report_Err : Int) (t140_Report_Sent : Int) (t140_Report_Active : Int) (t140_Report_Many : Int) (t140_Report_Agg_Has_0 : Bool) (t140_Report_Agg_Has_1 : Bool) (t140_Report_Agg_Has_2 : Bool) (t140_Report_Agg_Has_3 : Bool) (t140_Report_Agg_Has_4 : Bool) (t140_Report_Agg_V_0 : Int) (t140_Report_Agg_V_1 : Int) (t140_Report_Agg_V_2 : Int) (t140_Report_Agg_V_3 : Int) (t140_Report_Agg_V_4 : Int) (t140_Report_Valuesa : Option Addr) (t140_Report_Valuesl : Nat) (t140_Report_Valuesc : Nat),
 H28.cell H.next (0 + 0) = some (.int .i64 t140_Kind) ∧
 H28.cell H.next (0 + 1) = some (.int .i64 t140_Session) ∧
 H28.cell H.next (0 + 2) = some (.int .i64 t140_Seq) ∧
 H28.cell H.next (0 + 3) = some (.string ⟨⟨t140_S⟩⟩) ∧
 H28.cell H.next (0 + 4) = some (.int .i64 t140_ID) ∧
 H28.cell H.next (0 + 5) = some (.int .i64 t140_Worker) ∧
 H28.cell H.next (0 + 6) = some (.int .i64 t140_Life) ∧
 H28.cell H.next (0 + 7) = some (.int .i64 t140_Report_Job) ∧
 H28.cell H.next (0 + 8) = some (.int .i64 t140_Report_Epoch) ∧
 H28.cell H.next (0 + 9) = some (.int .i64 t140_Report_Step) ∧
 H28.cell H.next (0 + 10) = some (.int .i64 t140_Report_Phase) ∧
 H28.cell H.next (0 + 11) = some (.int .i64 t140_Report_Worker) ∧
 H28.cell H.next (0 + 12) = some (.int .i64 t140_Report_Err) ∧
 H28.cell H.next (0 + 13) = some (.int .i64 t140_Report_Sent) ∧
 H28.cell H.next (0 + 14) = some (.int .i64 t140_Report_Active) ∧
 H28.cell H.next (0 + 15) = some (.int .i64 t140_Report_Many) ∧
 H28.cell H.next (0 + 16) = some (.bool t140_Report_Agg_Has_0) ∧
 H28.cell H.next (0 + 17) = some (.bool t140_Report_Agg_Has_1) ∧
 H28.cell H.next (0 + 18) = some (.bool t140_Report_Agg_Has_2) ∧
 H28.cell H.next (0 + 19) = some (.bool t140_Report_Agg_Has_3) ∧
 H28.cell H.next (0 + 20) = some (.bool t140_Report_Agg_Has_4) ∧
 H28.cell H.next (0 + 21) = some (.int .i64 t140_Report_Agg_V_0) ∧
 H28.cell H.next (0 + 22) = some (.int .i64 t140_Report_Agg_V_1) ∧
 H28.cell H.next (0 + 23) = some (.int .i64 t140_Report_Agg_V_2) ∧
 H28.cell H.next (0 + 24) = some (.int .i64 t140_Report_Agg_V_3) ∧
 H28.cell H.next (0 + 25) = some (.int .i64 t140_Report_Agg_V_4) ∧
 H28.cell H.next (0 + 26) = some (.slice t140_Report_Valuesa t140_Report_Valuesl t140_Report_Valuesc) ∧
 FW Ee F_master_Master_Apply [.pointer r123, .agg ⟨[.int .i64 t140_Kind, .int .i64 t140_Session, .int .i64 t140_Seq, .string ⟨⟨t140_S⟩⟩, .int .i64 t140_ID, .int .i64 t140_Worker, .int .i64 t140_Life, .int .i64 t140_Report_Job, .int .i64 t140_Report_Epoch, .int .i64 t140_Report_Step, .int .i64 t140_Report_Phase, .int .i64 t140_Report_Worker, .int .i64 t140_Report_Err, .int .i64 t140_Report_Sent, .int .i64 t140_Report_Active, .int .i64 t140_Report_Many, .bool t140_Report_Agg_Has_0, .bool t140_Report_Agg_Has_1, .bool t140_Report_Agg_Has_2, .bool t140_Report_Agg_Has_3, .bool t140_Report_Agg_Has_4, .int .i64 t140_Report_Agg_V_0, .int .i64 t140_Report_Agg_V_1, .int .i64 t140_Report_Agg_V_2, .int .i64 t140_Report_Agg_V_3, .int .i64 t140_Report_Agg_V_4, .slice t140_Report_Valuesa t140_Report_Valuesl t140_Report_Valuesc]⟩] H28 fun v_15 H29 =>
 ∃ (r141_0_Err : Int) (r141_0_ID : Int) (r141_1 : Int),
 v_15 = .tuple ⟨[.agg ⟨[.int .i64 r141_0_Err, .int .i64 r141_0_ID]⟩, .int .i64 r141_1]⟩ ∧
 ∀ (H30 : AH),
 H30 = H29.new (.cells [.int .i64 0, .int .i64 0] 0) →
 ∃ (H31 : AH),
 storeCellsv H30 H29.next 0 [.int .i64 r141_0_Err, .int .i64 r141_0_ID] = some H31 ∧
 cond (r141_1 == 172) (
 Q (.bool (r127_1 == 170)) H31) (
 Q (.bool false) H31)) (
 ∃ (t135 : Int),
 H28.cell H.next 0 = some (.int .i64 t135) ∧
 cond (decide (t135 > 5)) (
 ∃ (t140_Kind_1 : Int) (t140_Session_1 : Int) (t140_Seq_1 : Int) (t140_S_1 : List UInt8) (t140_ID_1 : Int) (t140_Worker_1 : Int) (t140_Life_1 : Int) (t140_Report_Job_1 : Int) (t140_Report_Epoch_1 : Int) (t140_Report_Step_1 : Int) (t140_Report_Phase_1 : Int) (t140_Report_Worker_1 : Int) (t140_Report_Err_1 : Int) (t140_Report_Sent_1 : Int) (t140_Report_Active_1 : Int) (t140_Report_Many_1 : Int) (t140_Report_Agg_Has_0_1 : Bool) (t140_Report_Agg_Has_1_1 : Bool) (t140_Report_Agg_Has_2_1 : Bool) (t140_Report_Agg_Has_3_1 : Bool) (t140_Report_Agg_Has_4_1 : Bool) (t140_Report_Agg_V_0_1 : Int) (t140_Report_Agg_V_1_1 : Int) (t140_Report_Agg_V_2_1 : Int) (t140_Report_Agg_V_3_1 : Int) (t140_Report_Agg_V_4_1 : Int) (t140_Report_Valuesa_1 : Option Addr) (t140_Report_Valuesl_1 : Nat) (t140_Report_Valuesc_1 : Nat),
 H28.cell H.next (0 + 0) = some (.int .i64 t140_Kind_1) ∧
 H28.cell H.next (0 + 1) = some (.int .i64 t140_Session_1) ∧
 H28.cell H.next (0 + 2) = some (.int .i64 t140_Seq_1) ∧
 H28.cell H.next (0 + 3) = some (.string ⟨⟨t140_S_1⟩⟩) ∧
 H28.cell H.next (0 + 4) = some (.int .i64 t140_ID_1) ∧
 H28.cell H.next (0 + 5) = some (.int .i64 t140_Worker_1) ∧
 H28.cell H.next (0 + 6) = some (.int .i64 t140_Life_1) ∧
 H28.cell H.next (0 + 7) = some (.int .i64 t140_Report_Job_1) ∧
 H28.cell H.next (0 + 8) = some (.int .i64 t140_Report_Epoch_1) ∧
 H28.cell H.next (0 + 9) = some (.int .i64 t140_Report_Step_1) ∧
 H28.cell H.next (0 + 10) = some (.int .i64 t140_Report_Phase_1) ∧
 H28.cell H.next (0 + 11) = some (.int .i64 t140_Report_Worker_1) ∧
 H28.cell H.next (0 + 12) = some (.int .i64 t140_Report_Err_1) ∧
 H28.cell H.next (0 + 13) = some (.int .i64 t140_Report_Sent_1) ∧
 H28.cell H.next (0 + 14) = some (.int .i64 t140_Report_Active_1) ∧
 H28.cell H.next (0 + 15) = some (.int .i64 t140_Report_Many_1) ∧
 H28.cell H.next (0 + 16) = some (.bool t140_Report_Agg_Has_0_1) ∧
 H28.cell H.next (0 + 17) = some (.bool t140_Report_Agg_Has_1_1) ∧
 H28.cell H.next (0 + 18) = some (.bool t140_Report_Agg_Has_2_1) ∧
 H28.cell H.next (0 + 19) = some (.bool t140_Report_Agg_Has_3_1) ∧
 H28.cell H.next (0 + 20) = some (.bool t140_Report_Agg_Has_4_1) ∧
 H28.cell H.next (0 + 21) = some (.int .i64 t140_Report_Agg_V_0_1) ∧
 H28.cell H.next (0 + 22) = some (.int .i64 t140_Report_Agg_V_1_1) ∧
 H28.cell H.next (0 + 23) = some (.int .i64 t140_Report_Agg_V_2_1) ∧
 H28.cell H.next (0 + 24) = some (.int .i64 t140_Report_Agg_V_3_1) ∧
 H28.cell H.next (0 + 25) = some (.int .i64 t140_Report_Agg_V_4_1) ∧
 H28.cell H.next (0 + 26) = some (.slice t140_Report_Valuesa_1 t140_Report_Valuesl_1 t140_Report_Valuesc_1) ∧
 FW Ee F_master_Master_Apply [.pointer r123, .agg ⟨[.int .i64 t140_Kind_1, .int .i64 t140_Session_1, .int .i64 t140_Seq_1, .string ⟨⟨t140_S_1⟩⟩, .int .i64 t140_ID_1, .int .i64 t140_Worker_1, .int .i64 t140_Life_1, .int .i64 t140_Report_Job_1, .int .i64 t140_Report_Epoch_1, .int .i64 t140_Report_Step_1, .int .i64 t140_Report_Phase_1, .int .i64 t140_Report_Worker_1, .int .i64 t140_Report_Err_1, .int .i64 t140_Report_Sent_1, .int .i64 t140_Report_Active_1, .int .i64 t140_Report_Many_1, .bool t140_Report_Agg_Has_0_1, .bool t140_Report_Agg_Has_1_1, .bool t140_Report_Agg_Has_2_1, .bool t140_Report_Agg_Has_3_1, .bool t140_Report_Agg_Has_4_1, .int .i64 t140_Report_Agg_V_0_1, .int .i64 t140_Report_Agg_V_1_1, .int .i64 t140_Report_Agg_V_2_1, .int .i64 t140_Report_Agg_V_3_1, .int .i64 t140_Report_Agg_V_4_1, .slice t140_Report_Valuesa_1 t140_Report_Valuesl_1 t140_Report_Valuesc_1]⟩] H28 fun v_16 H32 =>
 ∃ (r141_0_Err_1 : Int) (r141_0_ID_1 : Int) (r141_1_1 : Int),
 v_16 = .tuple ⟨[.agg ⟨[.int .i64 r141_0_Err_1, .int .i64 r141_0_ID_1]⟩, .int .i64 r141_1_1]⟩ ∧
 ∀ (H33 : AH),
 H33 = H32.new (.cells [.int .i64 0, .int .i64 0] 0) →
 ∃ (H34 : AH),
 storeCellsv H33 H32.next 0 [.int .i64 r141_0_Err_1, .int .i64 r141_0_ID_1] = some H34 ∧
 cond (r141_1_1 == 172) (
 Q (.bool (r127_1 == 170)) H34) (
 Q (.bool false) H34)) (
 ∃ (t151_Kind : Int) (t151_Session : Int) (t151_Seq : Int) (t151_S : List UInt8) (t151_ID : Int) (t151_Worker : Int) (t151_Life : Int) (t151_Report_Job : Int) (t151_Report_Epoch : Int) (t151_Report_Step : Int) (t151_Report_Phase : Int) (t151_Report_Worker : Int) (t151_Report_Err : Int) (t151_Report_Sent : Int) (t151_Report_Active : Int) (t151_Report_Many : Int) (t151_Report_Agg_Has_0 : Bool) (t151_Report_Agg_Has_1 : Bool) (t151_Report_Agg_Has_2 : Bool) (t151_Report_Agg_Has_3 : Bool) (t151_Report_Agg_Has_4 : Bool) (t151_Report_Agg_V_0 : Int) (t151_Report_Agg_V_1 : Int) (t151_Report_Agg_V_2 : Int) (t151_Report_Agg_V_3 : Int) (t151_Report_Agg_V_4 : Int) (t151_Report_Valuesa : Option Addr) (t151_Report_Valuesl : Nat) (t151_Report_Valuesc : Nat),
 H28.cell H.next (0 + 0) = some (.int .i64 t151_Kind) ∧
 H28.cell H.next (0 + 1) = some (.int .i64 t151_Session) ∧
 H28.cell H.next (0 + 2) = some (.int .i64 t151_Seq) ∧
 H28.cell H.next (0 + 3) = some (.string ⟨⟨t151_S⟩⟩) ∧
 H28.cell H.next (0 + 4) = some (.int .i64 t151_ID) ∧
 H28.cell H.next (0 + 5) = some (.int .i64 t151_Worker) ∧
 H28.cell H.next (0 + 6) = some (.int .i64 t151_Life) ∧
 H28.cell H.next (0 + 7) = some (.int .i64 t151_Report_Job) ∧
 H28.cell H.next (0 + 8) = some (.int .i64 t151_Report_Epoch) ∧
 H28.cell H.next (0 + 9) = some (.int .i64 t151_Report_Step) ∧
 H28.cell H.next (0 + 10) = some (.int .i64 t151_Report_Phase) ∧
 H28.cell H.next (0 + 11) = some (.int .i64 t151_Report_Worker) ∧
 H28.cell H.next (0 + 12) = some (.int .i64 t151_Report_Err) ∧
 H28.cell H.next (0 + 13) = some (.int .i64 t151_Report_Sent) ∧
 H28.cell H.next (0 + 14) = some (.int .i64 t151_Report_Active) ∧
 H28.cell H.next (0 + 15) = some (.int .i64 t151_Report_Many) ∧
 H28.cell H.next (0 + 16) = some (.bool t151_Report_Agg_Has_0) ∧
 H28.cell H.next (0 + 17) = some (.bool t151_Report_Agg_Has_1) ∧
 H28.cell H.next (0 + 18) = some (.bool t151_Report_Agg_Has_2) ∧
 H28.cell H.next (0 + 19) = some (.bool t151_Report_Agg_Has_3) ∧
 H28.cell H.next (0 + 20) = some (.bool t151_Report_Agg_Has_4) ∧
 H28.cell H.next (0 + 21) = some (.int .i64 t151_Report_Agg_V_0) ∧
 H28.cell H.next (0 + 22) = some (.int .i64 t151_Report_Agg_V_1) ∧
 H28.cell H.next (0 + 23) = some (.int .i64 t151_Report_Agg_V_2) ∧
 H28.cell H.next (0 + 24) = some (.int .i64 t151_Report_Agg_V_3) ∧
 H28.cell H.next (0 + 25) = some (.int .i64 t151_Report_Agg_V_4) ∧
 H28.cell H.next (0 + 26) = some (.slice t151_Report_Valuesa t151_Report_Valuesl t151_Report_Valuesc) ∧
 FW Ee F_master_Master_Apply [.pointer r123, .agg ⟨[.int .i64 t151_Kind, .int .i64 t151_Session, .int .i64 t151_Seq, .string ⟨⟨t151_S⟩⟩, .int .i64 t151_ID, .int .i64 t151_Worker, .int .i64 t151_Life, .int .i64 t151_Report_Job, .int .i64 t151_Report_Epoch, .int .i64 t151_Report_Step, .int .i64 t151_Report_Phase, .int .i64 t151_Report_Worker, .int .i64 t151_Report_Err, .int .i64 t151_Report_Sent, .int .i64 t151_Report_Active, .int .i64 t151_Report_Many, .bool t151_Report_Agg_Has_0, .bool t151_Report_Agg_Has_1, .bool t151_Report_Agg_Has_2, .bool t151_Report_Agg_Has_3, .bool t151_Report_Agg_Has_4, .int .i64 t151_Report_Agg_V_0, .int .i64 t151_Report_Agg_V_1, .int .i64 t151_Report_Agg_V_2, .int .i64 t151_Report_Agg_V_3, .int .i64 t151_Report_Agg_V_4, .slice t151_Report_Valuesa t151_Report_Valuesl t151_Report_Valuesc]⟩] H28 fun v_17 H35 =>
 ∃ (r152_0_Err : Int) (r152_0_ID : Int) (r152_1 : Int),
 v_17 = .tuple ⟨[.agg ⟨[.int .i64 r152_0_Err, .int .i64 r152_0_ID]⟩, .int .i64 r152_1]⟩ ∧
 cond (r127_1 == 170) (
 ∃ (t158_Job : Int) (t158_Epoch : Int) (t158_Step : Int) (t158_Phase : Int) (t158_Worker : Int) (t158_Err : Int) (t158_Sent : Int) (t158_Active : Int) (t158_Many : Int) (t158_Agg_Has_0 : Bool) (t158_Agg_Has_1 : Bool) (t158_Agg_Has_2 : Bool) (t158_Agg_Has_3 : Bool) (t158_Agg_Has_4 : Bool) (t158_Agg_V_0 : Int) (t158_Agg_V_1 : Int) (t158_Agg_V_2 : Int) (t158_Agg_V_3 : Int) (t158_Agg_V_4 : Int) (t158_Valuesa : Option Addr) (t158_Valuesl : Nat) (t158_Valuesc : Nat),
 H35.cell H.next (7 + 0) = some (.int .i64 t158_Job) ∧
 H35.cell H.next (7 + 1) = some (.int .i64 t158_Epoch) ∧
 H35.cell H.next (7 + 2) = some (.int .i64 t158_Step) ∧
 H35.cell H.next (7 + 3) = some (.int .i64 t158_Phase) ∧
 H35.cell H.next (7 + 4) = some (.int .i64 t158_Worker) ∧
 H35.cell H.next (7 + 5) = some (.int .i64 t158_Err) ∧
 H35.cell H.next (7 + 6) = some (.int .i64 t158_Sent) ∧
 H35.cell H.next (7 + 7) = some (.int .i64 t158_Active) ∧
 H35.cell H.next (7 + 8) = some (.int .i64 t158_Many) ∧
 H35.cell H.next (7 + 9) = some (.bool t158_Agg_Has_0) ∧
 H35.cell H.next (7 + 10) = some (.bool t158_Agg_Has_1) ∧
 H35.cell H.next (7 + 11) = some (.bool t158_Agg_Has_2) ∧
 H35.cell H.next (7 + 12) = some (.bool t158_Agg_Has_3) ∧
 H35.cell H.next (7 + 13) = some (.bool t158_Agg_Has_4) ∧
 H35.cell H.next (7 + 14) = some (.int .i64 t158_Agg_V_0) ∧
 H35.cell H.next (7 + 15) = some (.int .i64 t158_Agg_V_1) ∧
 H35.cell H.next (7 + 16) = some (.int .i64 t158_Agg_V_2) ∧
 H35.cell H.next (7 + 17) = some (.int .i64 t158_Agg_V_3) ∧
 H35.cell H.next (7 + 18) = some (.int .i64 t158_Agg_V_4) ∧
 H35.cell H.next (7 + 19) = some (.slice t158_Valuesa t158_Valuesl t158_Valuesc) ∧
 FW Ee F_master_Master_Wants [.pointer r123, .agg ⟨[.int .i64 t158_Job, .int .i64 t158_Epoch, .int .i64 t158_Step, .int .i64 t158_Phase, .int .i64 t158_Worker, .int .i64 t158_Err, .int .i64 t158_Sent, .int .i64 t158_Active, .int .i64 t158_Many, .bool t158_Agg_Has_0, .bool t158_Agg_Has_1, .bool t158_Agg_Has_2, .bool t158_Agg_Has_3, .bool t158_Agg_Has_4, .int .i64 t158_Agg_V_0, .int .i64 t158_Agg_V_1, .int .i64 t158_Agg_V_2, .int .i64 t158_Agg_V_3, .int .i64 t158_Agg_V_4, .slice t158_Valuesa t158_Valuesl t158_Valuesc]⟩] H35 fun v_18 H36 =>
 ∃ (r159 : Bool),
 v_18 = .bool r159 ∧
 Q (.bool (!r159)) H36) (
 Q (.bool false) H35)))))))))))))))))
set_option maxRecDepth 100000 in
theorem fw_cohortlaw17_MasterNil {c0_Kind : Int} {c0_Session : Int} {c0_Seq : Int} {c0_S : List UInt8} {c0_ID : Int} {c0_Worker : Int} {c0_Life : Int} {c0_Report_Job : Int} {c0_Report_Epoch : Int} {c0_Report_Step : Int} {c0_Report_Phase : Int} {c0_Report_Worker : Int} {c0_Report_Err : Int} {c0_Report_Sent : Int} {c0_Report_Active : Int} {c0_Report_Many : Int} {c0_Report_Agg_Has_0 : Bool} {c0_Report_Agg_Has_1 : Bool} {c0_Report_Agg_Has_2 : Bool} {c0_Report_Agg_Has_3 : Bool} {c0_Report_Agg_Has_4 : Bool} {c0_Report_Agg_V_0 : Int} {c0_Report_Agg_V_1 : Int} {c0_Report_Agg_V_2 : Int} {c0_Report_Agg_V_3 : Int} {c0_Report_Agg_V_4 : Int} {c0_Report_Valuesa : Option Addr} {c0_Report_Valuesl : Nat} {c0_Report_Valuesc : Nat} {id1 : Int} {H : AH} {Q : Value → AH → Prop} (h : VC_cohortlaw17_MasterNil c0_Kind c0_Session c0_Seq c0_S c0_ID c0_Worker c0_Life c0_Report_Job c0_Report_Epoch c0_Report_Step c0_Report_Phase c0_Report_Worker c0_Report_Err c0_Report_Sent c0_Report_Active c0_Report_Many c0_Report_Agg_Has_0 c0_Report_Agg_Has_1 c0_Report_Agg_Has_2 c0_Report_Agg_Has_3 c0_Report_Agg_Has_4 c0_Report_Agg_V_0 c0_Report_Agg_V_1 c0_Report_Agg_V_2 c0_Report_Agg_V_3 c0_Report_Agg_V_4 c0_Report_Valuesa c0_Report_Valuesl c0_Report_Valuesc id1 H Q) : FW Ee F_cohortlaw17_MasterNil [.agg ⟨[.int .i64 c0_Kind, .int .i64 c0_Session, .int .i64 c0_Seq, .string ⟨⟨c0_S⟩⟩, .int .i64 c0_ID, .int .i64 c0_Worker, .int .i64 c0_Life, .int .i64 c0_Report_Job, .int .i64 c0_Report_Epoch, .int .i64 c0_Report_Step, .int .i64 c0_Report_Phase, .int .i64 c0_Report_Worker, .int .i64 c0_Report_Err, .int .i64 c0_Report_Sent, .int .i64 c0_Report_Active, .int .i64 c0_Report_Many, .bool c0_Report_Agg_Has_0, .bool c0_Report_Agg_Has_1, .bool c0_Report_Agg_Has_2, .bool c0_Report_Agg_Has_3, .bool c0_Report_Agg_Has_4, .int .i64 c0_Report_Agg_V_0, .int .i64 c0_Report_Agg_V_1, .int .i64 c0_Report_Agg_V_2, .int .i64 c0_Report_Agg_V_3, .int .i64 c0_Report_Agg_V_4, .slice c0_Report_Valuesa c0_Report_Valuesl c0_Report_Valuesc]⟩, .int .i64 id1] H Q := by
  have e : VC_cohortlaw17_MasterNil c0_Kind c0_Session c0_Seq c0_S c0_ID c0_Worker c0_Life c0_Report_Job c0_Report_Epoch c0_Report_Step c0_Report_Phase c0_Report_Worker c0_Report_Err c0_Report_Sent c0_Report_Active c0_Report_Many c0_Report_Agg_Has_0 c0_Report_Agg_Has_1 c0_Report_Agg_Has_2 c0_Report_Agg_Has_3 c0_Report_Agg_Has_4 c0_Report_Agg_V_0 c0_Report_Agg_V_1 c0_Report_Agg_V_2 c0_Report_Agg_V_3 c0_Report_Agg_V_4 c0_Report_Valuesa c0_Report_Valuesl c0_Report_Valuesc id1 H Q = wpF Ee ⟨[], []⟩ F_cohortlaw17_MasterNil [.agg ⟨[.int .i64 c0_Kind, .int .i64 c0_Session, .int .i64 c0_Seq, .string ⟨⟨c0_S⟩⟩, .int .i64 c0_ID, .int .i64 c0_Worker, .int .i64 c0_Life, .int .i64 c0_Report_Job, .int .i64 c0_Report_Epoch, .int .i64 c0_Report_Step, .int .i64 c0_Report_Phase, .int .i64 c0_Report_Worker, .int .i64 c0_Report_Err, .int .i64 c0_Report_Sent, .int .i64 c0_Report_Active, .int .i64 c0_Report_Many, .bool c0_Report_Agg_Has_0, .bool c0_Report_Agg_Has_1, .bool c0_Report_Agg_Has_2, .bool c0_Report_Agg_Has_3, .bool c0_Report_Agg_Has_4, .int .i64 c0_Report_Agg_V_0, .int .i64 c0_Report_Agg_V_1, .int .i64 c0_Report_Agg_V_2, .int .i64 c0_Report_Agg_V_3, .int .i64 c0_Report_Agg_V_4, .slice c0_Report_Valuesa c0_Report_Valuesl c0_Report_Valuesc]⟩, .int .i64 id1] H Q := by kernel_rfl
  letI : Sy := sy0
  exact wpF_sound (Eq.mp e h)
end Go.Proofs.Cx
