/- What calls come to, as formulas: printed by a program. What calls come to, as formulas: printed by a program. What calls come to, as formulas: printed by a program. What calls come to, as formulas: printed by a program. What calls come to, as formulas: printed by a program. -/
import Derived.Test.YtkkcknfeljgdcaaGreatVc0
namespace Go.Proofs.Cx
open Go Go.Ev
set_option linter.unusedVariables false
set_option maxRecDepth 100000
set_option maxHeartbeats 8000000
/-- cohort/cohortlaw09.Small -/
def VC_cohortlaw09_Small (j0_Program : List UInt8) (j0_Graph_Verticesa : Option Addr) (j0_Graph_Verticesl : Nat) (j0_Graph_Verticesc : Nat) (j0_Paramsa : Option Addr) (j0_Paramsl : Nat) (j0_Paramsc : Nat) (j0_Steps : Int) (j0_Sent : Int) (j0_Parts : Int) (H : AH) (Q : Value → AH → Prop) : Prop :=
 ∀ (H1 : AH),
 H1 = H.new (.cells [.string ⟨⟨j0_Program⟩⟩, .slice j0_Graph_Verticesa j0_Graph_Verticesl j0_Graph_Verticesc, .slice j0_Paramsa j0_Paramsl j0_Paramsc, .int .i64 j0_Steps, .int .i64 j0_Sent, .int .i64 j0_Parts] 0) →
 ∀ (H2 : AH),
 H2 = H1.new (.cells [.string ⟨⟨[]⟩⟩, .slice none 0 0, .slice none 0 0, .int .i64 0, .int .i64 0, .int .i64 0] 0) →
 ∃ (t5a : Option Addr) (t5l : Nat) (t5c : Nat),
 H2.cell H.next 1 = some (.slice t5a t5l t5c) ∧
 ∃ (J_1 : AH → Prop),
 (
 cond (decide ((((t5l : Nat) : Int)) > 30)) (
 ∃ (t10a : Option Addr) (t10l : Nat) (t10c : Nat),
 H2.cell H.next 1 = some (.slice t10a t10l t10c) ∧
 ∃ (t11a : Option Addr) (t11l : Nat) (t11c : Nat),
 slcv H2 3 t10a t10l t10c none (some (.int .i64 30)) none = some (.slice t11a t11l t11c) ∧
 ∃ (H3 : AH),
 storeCellsv H2 H.next 1 [.slice t11a t11l t11c] = some H3 ∧
 J_1 H3) (
 J_1 H2)) ∧
 ∀ (H4 : AH),
 J_1 H4 →
 ∃ (t15 : Int),
 H4.cell H.next 3 = some (.int .i64 t15) ∧
 ∃ (J_2 : AH → Prop),
 (
 cond (decide (t15 > 60)) (
 ∃ (H5 : AH),
 storeCellsv H4 H.next 3 [.int .i64 60] = some H5 ∧
 J_2 H5) (
 J_2 H4)) ∧
 ∀ (H6 : AH),
 J_2 H6 →
 ∃ (t19 : Int),
 H6.cell H.next 4 = some (.int .i64 t19) ∧
 ∃ (J_3 : AH → Prop),
 (
 cond (decide (t19 > 3000)) (
 ∃ (H7 : AH),
 storeCellsv H6 H.next 4 [.int .i64 3000] = some H7 ∧
 J_3 H7) (
 J_3 H6)) ∧
 ∀ (H8 : AH),
 J_3 H8 →
 ∃ (t22_Program : List UInt8) (t22_Graph_Verticesa : Option Addr) (t22_Graph_Verticesl : Nat) (t22_Graph_Verticesc : Nat) (t22_Paramsa : Option Addr) (t22_Paramsl : Nat) (t22_Paramsc : Nat) (t22_Steps : Int) (t22_Sent : Int) (t22_Parts : Int),
 H8.cell H.next (0 + 0) = some (.string ⟨⟨t22_Program⟩⟩) ∧
 H8.cell H.next (0 + 1) = some (.slice t22_Graph_Verticesa t22_Graph_Verticesl t22_Graph_Verticesc) ∧
 H8.cell H.next (0 + 2) = some (.slice t22_Paramsa t22_Paramsl t22_Paramsc) ∧
 H8.cell H.next (0 + 3) = some (.int .i64 t22_Steps) ∧
 H8.cell H.next (0 + 4) = some (.int .i64 t22_Sent) ∧
 H8.cell H.next (0 + 5) = some (.int .i64 t22_Parts) ∧
 ∃ (H9 : AH),
 storeCellsv H8 H1.next 0 [.string ⟨⟨t22_Program⟩⟩, .slice t22_Graph_Verticesa t22_Graph_Verticesl t22_Graph_Verticesc, .slice t22_Paramsa t22_Paramsl t22_Paramsc, .int .i64 t22_Steps, .int .i64 t22_Sent, .int .i64 t22_Parts] = some H9 ∧
 ∃ (r2_Program : List UInt8) (r2_Graph_Verticesa : Option Addr) (r2_Graph_Verticesl : Nat) (r2_Graph_Verticesc : Nat) (r2_Paramsa : Option Addr) (r2_Paramsl : Nat) (r2_Paramsc : Nat) (r2_Steps : Int) (r2_Sent : Int) (r2_Parts : Int),
 H9.cell H1.next (0 + 0) = some (.string ⟨⟨r2_Program⟩⟩) ∧
 H9.cell H1.next (0 + 1) = some (.slice r2_Graph_Verticesa r2_Graph_Verticesl r2_Graph_Verticesc) ∧
 H9.cell H1.next (0 + 2) = some (.slice r2_Paramsa r2_Paramsl r2_Paramsc) ∧
 H9.cell H1.next (0 + 3) = some (.int .i64 r2_Steps) ∧
 H9.cell H1.next (0 + 4) = some (.int .i64 r2_Sent) ∧
 H9.cell H1.next (0 + 5) = some (.int .i64 r2_Parts) ∧
 Q (.agg ⟨[.string ⟨⟨r2_Program⟩⟩, .slice r2_Graph_Verticesa r2_Graph_Verticesl r2_Graph_Verticesc, .slice r2_Paramsa r2_Paramsl r2_Paramsc, .int .i64 r2_Steps, .int .i64 r2_Sent, .int .i64 r2_Parts]⟩) H9
set_option maxRecDepth 100000 in
theorem fw_cohortlaw09_Small {j0_Program : List UInt8} {j0_Graph_Verticesa : Option Addr} {j0_Graph_Verticesl : Nat} {j0_Graph_Verticesc : Nat} {j0_Paramsa : Option Addr} {j0_Paramsl : Nat} {j0_Paramsc : Nat} {j0_Steps : Int} {j0_Sent : Int} {j0_Parts : Int} {H : AH} {Q : Value → AH → Prop} (h : VC_cohortlaw09_Small j0_Program j0_Graph_Verticesa j0_Graph_Verticesl j0_Graph_Verticesc j0_Paramsa j0_Paramsl j0_Paramsc j0_Steps j0_Sent j0_Parts H Q) : FW Ee F_cohortlaw09_Small [.agg ⟨[.string ⟨⟨j0_Program⟩⟩, .slice j0_Graph_Verticesa j0_Graph_Verticesl j0_Graph_Verticesc, .slice j0_Paramsa j0_Paramsl j0_Paramsc, .int .i64 j0_Steps, .int .i64 j0_Sent, .int .i64 j0_Parts]⟩] H Q := by
  have e : VC_cohortlaw09_Small j0_Program j0_Graph_Verticesa j0_Graph_Verticesl j0_Graph_Verticesc j0_Paramsa j0_Paramsl j0_Paramsc j0_Steps j0_Sent j0_Parts H Q = wpF Ee ⟨[], [7, 16, 20]⟩ F_cohortlaw09_Small [.agg ⟨[.string ⟨⟨j0_Program⟩⟩, .slice j0_Graph_Verticesa j0_Graph_Verticesl j0_Graph_Verticesc, .slice j0_Paramsa j0_Paramsl j0_Paramsc, .int .i64 j0_Steps, .int .i64 j0_Sent, .int .i64 j0_Parts]⟩] H Q := by kernel_rfl
  letI : Sy := sy0
  exact wpF_sound (Eq.mp e h)
end Go.Proofs.Cx

namespace Go.Proofs.Cx
open Go Go.Ev
set_option linter.unusedVariables false
set_option maxRecDepth 100000
set_option maxHeartbeats 8000000
/-- cohort/sess.New -/
def VC_sess_New  (H : AH) (Q : Value → AH → Prop) : Prop :=
 ∀ (H1 : AH),
 H1 = H.new (.map [] 0) →
 ∀ (H2 : AH),
 H2 = H1.new (.cells [.map (some H.next)] 0) →
 Q (.pointer (some ⟨H1.next, 0, none⟩)) H2
set_option maxRecDepth 100000 in
theorem fw_sess_New  {H : AH} {Q : Value → AH → Prop} (h : VC_sess_New  H Q) : FW Ee F_sess_New [] H Q := by
  have e : VC_sess_New  H Q = wpF Ee ⟨[], []⟩ F_sess_New [] H Q := by kernel_rfl
  letI : Sy := sy0
  exact wpF_sound (Eq.mp e h)
/-- cohort/master.New -/
def VC_master_New  (H : AH) (Q : Value → AH → Prop) : Prop :=
 FW Ee F_sess_New [] H fun v H1 =>
 ∃ (r1 : Option Addr),
 v = .pointer r1 ∧
 ∀ (H2 : AH),
 H2 = H1.new (.map [] 0) →
 ∀ (H3 : AH),
 H3 = H2.new (.map [] 0) →
 ∀ (H4 : AH),
 H4 = H3.new (.cells [.pointer r1, .map (some H1.next), .map (some H2.next), .int .i64 0, .int .i64 0] 0) →
 Q (.pointer (some ⟨H3.next, 0, none⟩)) H4
set_option maxRecDepth 100000 in
theorem fw_master_New  {H : AH} {Q : Value → AH → Prop} (h : VC_master_New  H Q) : FW Ee F_master_New [] H Q := by
  have e : VC_master_New  H Q = wpF Ee ⟨[], []⟩ F_master_New [] H Q := by kernel_rfl
  letI : Sy := sy0
  exact wpF_sound (Eq.mp e h)
/-- maps.Keys[map[int]int,int,int] -/
def VC_maps_Keys_map_int_int_int_int (m0 : Option Nat) (H : AH) (Q : Value → AH → Prop) : Prop :=
 ∀ (H1 : AH),
 H1 = H.new (.cells [.map m0] 0) →
 Q (.func (.func F_maps_Keys_map_int_int_int_int_1) ⟨[]⟩ ⟨[.pointer (some ⟨H.next, 0, none⟩)]⟩) H1
set_option maxRecDepth 100000 in
theorem fw_maps_Keys_map_int_int_int_int {m0 : Option Nat} {H : AH} {Q : Value → AH → Prop} (h : VC_maps_Keys_map_int_int_int_int m0 H Q) : FW Ee F_maps_Keys_map_int_int_int_int [.map m0] H Q := by
  have e : VC_maps_Keys_map_int_int_int_int m0 H Q = wpF Ee ⟨[], []⟩ F_maps_Keys_map_int_int_int_int [.map m0] H Q := by kernel_rfl
  letI : Sy := sy0
  exact wpF_sound (Eq.mp e h)
/-- maps.Keys[map[int]*cohort/master.job,int,*cohort/master.job] -/
def VC_maps_Keys_map_int_P_master_job_int_P_master_job (m0 : Option Nat) (H : AH) (Q : Value → AH → Prop) : Prop :=
 ∀ (H1 : AH),
 H1 = H.new (.cells [.map m0] 0) →
 Q (.func (.func F_maps_Keys_map_int_P_master_job_int_P_master_job_1) ⟨[]⟩ ⟨[.pointer (some ⟨H.next, 0, none⟩)]⟩) H1
set_option maxRecDepth 100000 in
theorem fw_maps_Keys_map_int_P_master_job_int_P_master_job {m0 : Option Nat} {H : AH} {Q : Value → AH → Prop} (h : VC_maps_Keys_map_int_P_master_job_int_P_master_job m0 H Q) : FW Ee F_maps_Keys_map_int_P_master_job_int_P_master_job [.map m0] H Q := by
  have e : VC_maps_Keys_map_int_P_master_job_int_P_master_job m0 H Q = wpF Ee ⟨[], []⟩ F_maps_Keys_map_int_P_master_job_int_P_master_job [.map m0] H Q := by kernel_rfl
  letI : Sy := sy0
  exact wpF_sound (Eq.mp e h)
/-- (*cohort/master.Master).Workers -/
def VC_master_Master_Workers (m0b : Nat) (H : AH) (Q : Value → AH → Prop) : Prop :=
 ∃ (t8 : Option Nat),
 H.cell m0b 2 = some (.map t8) ∧
 FW Ee F_maps_Keys_map_int_int_int_int [.map t8] H fun v H1 =>
 ∃ (r9 : Value),
 v = r9 ∧
 FW Ee F_slices_Sorted_int [r9] H1 fun v_1 H2 =>
 ∃ (r10a : Option Addr) (r10l : Nat) (r10c : Nat),
 v_1 = .slice r10a r10l r10c ∧
 Q (.slice r10a r10l r10c) H2
set_option maxRecDepth 100000 in
theorem fw_master_Master_Workers {m0b : Nat} {H : AH} {Q : Value → AH → Prop} (h : VC_master_Master_Workers m0b H Q) : FW Ee F_master_Master_Workers [.pointer (some ⟨m0b, 0, none⟩)] H Q := by
  have e : VC_master_Master_Workers m0b H Q = wpF Ee ⟨[], []⟩ F_master_Master_Workers [.pointer (some ⟨m0b, 0, none⟩)] H Q := by kernel_rfl
  letI : Sy := sy0
  exact wpF_sound (Eq.mp e h)
/-- (*cohort/master.Master).ids -/
def VC_master_Master_ids (m0b : Nat) (H : AH) (Q : Value → AH → Prop) : Prop :=
 ∃ (t6 : Option Nat),
 H.cell m0b 1 = some (.map t6) ∧
 FW Ee F_maps_Keys_map_int_P_master_job_int_P_master_job [.map t6] H fun v H1 =>
 ∃ (r7 : Value),
 v = r7 ∧
 FW Ee F_slices_Sorted_int [r7] H1 fun v_1 H2 =>
 ∃ (r8a : Option Addr) (r8l : Nat) (r8c : Nat),
 v_1 = .slice r8a r8l r8c ∧
 Q (.slice r8a r8l r8c) H2
set_option maxRecDepth 100000 in
theorem fw_master_Master_ids {m0b : Nat} {H : AH} {Q : Value → AH → Prop} (h : VC_master_Master_ids m0b H Q) : FW Ee F_master_Master_ids [.pointer (some ⟨m0b, 0, none⟩)] H Q := by
  have e : VC_master_Master_ids m0b H Q = wpF Ee ⟨[], []⟩ F_master_Master_ids [.pointer (some ⟨m0b, 0, none⟩)] H Q := by kernel_rfl
  letI : Sy := sy0
  exact wpF_sound (Eq.mp e h)
/-- (*cohort/master.Master).current -/
def VC_master_Master_current (m0b : Nat) (H : AH) (Q : Value → AH → Prop) : Prop :=
 FW Ee F_master_Master_ids [.pointer (some ⟨m0b, 0, none⟩)] H fun v H1 =>
 ∃ (r6a : Option Addr) (r6l : Nat) (r6c : Nat),
 v = .slice r6a r6l r6c ∧
 ∃ (Inv : Nat → Option Addr → Int → AH → Prop),
 (
 ∃ (n_1 : Nat),
 Inv n_1 none 0 H1) ∧
 ∀ (n : Nat),
 ∀ (t2 : Option Addr) (t8 : Int) (H2 : AH),
 Inv n t2 t8 H2 →
 cond (decide (t8 < (((r6l : Nat) : Int)))) (
 grd r6a.isSome (
 (0 : Int) ≤ t8 ∧
 (t8 : Int) < ((r6l : Nat) : Int) ∧
 ∃ (t11 : Int),
 H2.cell ((adr r6a).block) ((adr r6a).off + (t8 : Int).toNat * 1) = some (.int .i64 t11) ∧
 ∃ (t15 : Option Nat),
 H2.cell m0b 1 = some (.map t15) ∧
 ∃ (t17 : Option Addr),
 lookupv Ee H2 T_M_int_P_master_job (.map t15) (.int .i64 t11) false = some (.pointer t17) ∧
 grd t17.isSome (
 grd t17.isSome (
 ∃ (t20 : Int),
 H2.cell ((adr t17).block) ((adr t17).off + 7) = some (.int .i64 t20) ∧
 cond (t20 == 2) (
 ∃ (t25 : Option Nat),
 H2.cell m0b 1 = some (.map t25) ∧
 ∃ (t27 : Option Addr),
 lookupv Ee H2 T_M_int_P_master_job (.map t25) (.int .i64 t11) false = some (.pointer t27) ∧
 Q (.pointer t27) H2) (
 ∀ (t28 : Int),
 t28 = IntKind.i64.wrap (t8 + 1) →
 ∃ (m : Nat),
 m < n ∧
 Inv m t2 t28 H2))))) (
 Q (.pointer none) H2)
set_option maxRecDepth 100000 in
theorem fw_master_Master_current {m0b : Nat} {H : AH} {Q : Value → AH → Prop} (h : VC_master_Master_current m0b H Q) : FW Ee F_master_Master_current [.pointer (some ⟨m0b, 0, none⟩)] H Q := by
  have e : VC_master_Master_current m0b H Q = wpF Ee ⟨[], []⟩ F_master_Master_current [.pointer (some ⟨m0b, 0, none⟩)] H Q := by kernel_rfl
  letI : Sy := sy0
  exact wpF_sound (Eq.mp e h)
/-- (*cohort/master.Master).start -/
def VC_master_Master_start (m0b : Nat) (H : AH) (Q : Value → AH → Prop) : Prop :=
 ∃ (t8 : Option Nat),
 H.cell m0b 2 = some (.map t8) ∧
 ((
 t8 = none ∧
 cond ((0 : Int) == 0) (
 Q (.tuple ⟨[]⟩) H) (
 FW Ee F_master_Master_current [.pointer (some ⟨m0b, 0, none⟩)] H fun v H1 =>
 ∃ (r12 : Option Addr),
 v = .pointer r12 ∧
 cond (!r12.isNone) (
 grd r12.isSome (
 grd r12.isSome (
 ∃ (t18a : Option Addr) (t18l : Nat) (t18c : Nat),
 H1.cell ((adr r12).block) ((adr r12).off + 15) = some (.slice t18a t18l t18c) ∧
 cond ((((t18l : Nat) : Int)) == 0) (
 FW Ee F_master_Master_begin [.pointer (some ⟨m0b, 0, none⟩), .pointer r12] H1 fun v_1 H2 =>
 v_1 = .tuple ⟨[]⟩ ∧
 Q (.tuple ⟨[]⟩) H2) (
 Q (.tuple ⟨[]⟩) H1)))) (
 FW Ee F_master_Master_ids [.pointer (some ⟨m0b, 0, none⟩)] H1 fun v_2 H3 =>
 ∃ (r25a : Option Addr) (r25l : Nat) (r25c : Nat),
 v_2 = .slice r25a r25l r25c ∧
 ∃ (Inv : Nat → Int → AH → Prop),
 (
 ∃ (n_1 : Nat),
 Inv n_1 0 H3) ∧
 ∀ (n : Nat),
 ∀ (t27 : Int) (H4 : AH),
 Inv n t27 H4 →
 cond (decide (t27 < (((r25l : Nat) : Int)))) (
 grd r25a.isSome (
 (0 : Int) ≤ t27 ∧
 (t27 : Int) < ((r25l : Nat) : Int) ∧
 ∃ (t30 : Int),
 H4.cell ((adr r25a).block) ((adr r25a).off + (t27 : Int).toNat * 1) = some (.int .i64 t30) ∧
 ∃ (t34 : Option Nat),
 H4.cell m0b 1 = some (.map t34) ∧
 ∃ (t36 : Option Addr),
 lookupv Ee H4 T_M_int_P_master_job (.map t34) (.int .i64 t30) false = some (.pointer t36) ∧
 grd t36.isSome (
 grd t36.isSome (
 ∃ (t39 : Int),
 H4.cell ((adr t36).block) ((adr t36).off + 7) = some (.int .i64 t39) ∧
 cond (t39 == 1) (
 ∃ (t45 : Option Nat),
 H4.cell m0b 1 = some (.map t45) ∧
 ∃ (t47 : Option Addr),
 lookupv Ee H4 T_M_int_P_master_job (.map t45) (.int .i64 t30) false = some (.pointer t47) ∧
 FW Ee F_master_Master_begin [.pointer (some ⟨m0b, 0, none⟩), .pointer t47] H4 fun v_3 H5 =>
 v_3 = .tuple ⟨[]⟩ ∧
 Q (.tuple ⟨[]⟩) H5) (
 ∀ (t49 : Int),
 t49 = IntKind.i64.wrap (t27 + 1) →
 ∃ (m : Nat),
 m < n ∧
 Inv m t49 H4))))) (
 Q (.tuple ⟨[]⟩) H4)))) ∨ (
 ∃ (mb : Nat) (es : List MapEntry) (cl : Nat),
 t8 = some mb ∧
 H.get mb = some (.map es cl) ∧
 cond ((((es.length : Nat) : Int)) == 0) (
 Q (.tuple ⟨[]⟩) H) (
 FW Ee F_master_Master_current [.pointer (some ⟨m0b, 0, none⟩)] H fun v_4 H6 =>
 ∃ (r12_1 : Option Addr),
 v_4 = .pointer r12_1 ∧
 cond (!r12_1.isNone) (
 grd r12_1.isSome (
 grd r12_1.isSome (
 ∃ (t18a_1 : Option Addr) (t18l_1 : Nat) (t18c_1 : Nat),
 H6.cell ((adr r12_1).block) ((adr r12_1).off + 15) = some (.slice t18a_1 t18l_1 t18c_1) ∧
 cond ((((t18l_1 : Nat) : Int)) == 0) (
 FW Ee F_master_Master_begin [.pointer (some ⟨m0b, 0, none⟩), .pointer r12_1] H6 fun v_5 H7 =>
 v_5 = .tuple ⟨[]⟩ ∧
 Q (.tuple ⟨[]⟩) H7) (
 Q (.tuple ⟨[]⟩) H6)))) (
 FW Ee F_master_Master_ids [.pointer (some ⟨m0b, 0, none⟩)] H6 fun v_6 H8 =>
 ∃ (r25a_1 : Option Addr) (r25l_1 : Nat) (r25c_1 : Nat),
 v_6 = .slice r25a_1 r25l_1 r25c_1 ∧
 ∃ (Inv_1 : Nat → Int → AH → Prop),
 (
 ∃ (n_3 : Nat),
 Inv_1 n_3 0 H8) ∧
 ∀ (n_2 : Nat),
 ∀ (t27_1 : Int) (H9 : AH),
 Inv_1 n_2 t27_1 H9 →
 cond (decide (t27_1 < (((r25l_1 : Nat) : Int)))) (
 grd r25a_1.isSome (
 (0 : Int) ≤ t27_1 ∧
 (t27_1 : Int) < ((r25l_1 : Nat) : Int) ∧
 ∃ (t30_1 : Int),
 H9.cell ((adr r25a_1).block) ((adr r25a_1).off + (t27_1 : Int).toNat * 1) = some (.int .i64 t30_1) ∧
 ∃ (t34_1 : Option Nat),
 H9.cell m0b 1 = some (.map t34_1) ∧
 ∃ (t36_1 : Option Addr),
 lookupv Ee H9 T_M_int_P_master_job (.map t34_1) (.int .i64 t30_1) false = some (.pointer t36_1) ∧
 grd t36_1.isSome (
 grd t36_1.isSome (
 ∃ (t39_1 : Int),
 H9.cell ((adr t36_1).block) ((adr t36_1).off + 7) = some (.int .i64 t39_1) ∧
 cond (t39_1 == 1) (
 ∃ (t45_1 : Option Nat),
 H9.cell m0b 1 = some (.map t45_1) ∧
 ∃ (t47_1 : Option Addr),
 lookupv Ee H9 T_M_int_P_master_job (.map t45_1) (.int .i64 t30_1) false = some (.pointer t47_1) ∧
 FW Ee F_master_Master_begin [.pointer (some ⟨m0b, 0, none⟩), .pointer t47_1] H9 fun v_7 H10 =>
 v_7 = .tuple ⟨[]⟩ ∧
 Q (.tuple ⟨[]⟩) H10) (
 ∀ (t49_1 : Int),
 t49_1 = IntKind.i64.wrap (t27_1 + 1) →
 ∃ (m_1 : Nat),
 m_1 < n_2 ∧
 Inv_1 m_1 t49_1 H9))))) (
 Q (.tuple ⟨[]⟩) H9)))))
set_option maxRecDepth 100000 in
theorem fw_master_Master_start {m0b : Nat} {H : AH} {Q : Value → AH → Prop} (h : VC_master_Master_start m0b H Q) : FW Ee F_master_Master_start [.pointer (some ⟨m0b, 0, none⟩)] H Q := by
  have e : VC_master_Master_start m0b H Q = wpF Ee ⟨[], []⟩ F_master_Master_start [.pointer (some ⟨m0b, 0, none⟩)] H Q := by kernel_rfl
  letI : Sy := sy0
  exact wpF_sound (Eq.mp e h)
/-- (*cohort/master.Master).join -/
def VC_master_Master_join (m0b : Nat) (worker1 : Int) (life2 : Int) (H : AH) (Q : Value → AH → Prop) : Prop :=
 ∃ (t12 : Option Nat),
 H.cell m0b 2 = some (.map t12) ∧
 ∃ (t14 : Int) (t14ok : Bool),
 lookupv Ee H T_M_int_int (.map t12) (.int .i64 worker1) true = some (.tuple ⟨[.int .i64 t14, .bool t14ok]⟩) ∧
 cond (t14ok) (
 cond (decide (life2 ≤ t14)) (
 Q (.tuple ⟨[]⟩) H) (
 cond (decide (worker1 < 0)) (
 Q (.tuple ⟨[]⟩) H) (
 cond (decide (worker1 ≥ 64)) (
 Q (.tuple ⟨[]⟩) H) (
 cond (t14ok) (
 FW Ee F_master_Master_lose [.pointer (some ⟨m0b, 0, none⟩), .int .i64 worker1] H fun v H1 =>
 v = .tuple ⟨[]⟩ ∧
 ∃ (t38 : Option Nat),
 H1.cell m0b 2 = some (.map t38) ∧
 ∃ (H2 : AH),
 updatev Ee H1 T_M_int_int (.map t38) (.int .i64 worker1) (.int .i64 life2) = some H2 ∧
 FW Ee F_master_Master_start [.pointer (some ⟨m0b, 0, none⟩)] H2 fun v_1 H3 =>
 v_1 = .tuple ⟨[]⟩ ∧
 Q (.tuple ⟨[]⟩) H3) (
 ∃ (t38_1 : Option Nat),
 H.cell m0b 2 = some (.map t38_1) ∧
 ∃ (H4 : AH),
 updatev Ee H T_M_int_int (.map t38_1) (.int .i64 worker1) (.int .i64 life2) = some H4 ∧
 FW Ee F_master_Master_start [.pointer (some ⟨m0b, 0, none⟩)] H4 fun v_2 H5 =>
 v_2 = .tuple ⟨[]⟩ ∧
 Q (.tuple ⟨[]⟩) H5))))) (
 cond (decide (worker1 < 0)) (
 Q (.tuple ⟨[]⟩) H) (
 cond (decide (worker1 ≥ 64)) (
 Q (.tuple ⟨[]⟩) H) (
 cond (t14ok) (
 FW Ee F_master_Master_lose [.pointer (some ⟨m0b, 0, none⟩), .int .i64 worker1] H fun v_3 H6 =>
 v_3 = .tuple ⟨[]⟩ ∧
 ∃ (t38_2 : Option Nat),
 H6.cell m0b 2 = some (.map t38_2) ∧
 ∃ (H7 : AH),
 updatev Ee H6 T_M_int_int (.map t38_2) (.int .i64 worker1) (.int .i64 life2) = some H7 ∧
 FW Ee F_master_Master_start [.pointer (some ⟨m0b, 0, none⟩)] H7 fun v_4 H8 =>
 v_4 = .tuple ⟨[]⟩ ∧
 Q (.tuple ⟨[]⟩) H8) (
 ∃ (t38_3 : Option Nat),
 H.cell m0b 2 = some (.map t38_3) ∧
 ∃ (H9 : AH),
 updatev Ee H T_M_int_int (.map t38_3) (.int .i64 worker1) (.int .i64 life2) = some H9 ∧
 FW Ee F_master_Master_start [.pointer (some ⟨m0b, 0, none⟩)] H9 fun v_5 H10 =>
 v_5 = .tuple ⟨[]⟩ ∧
 Q (.tuple ⟨[]⟩) H10))))
set_option maxRecDepth 100000 in
theorem fw_master_Master_join {m0b : Nat} {worker1 : Int} {life2 : Int} {H : AH} {Q : Value → AH → Prop} (h : VC_master_Master_join m0b worker1 life2 H Q) : FW Ee F_master_Master_join [.pointer (some ⟨m0b, 0, none⟩), .int .i64 worker1, .int .i64 life2] H Q := by
  have e : VC_master_Master_join m0b worker1 life2 H Q = wpF Ee ⟨[], []⟩ F_master_Master_join [.pointer (some ⟨m0b, 0, none⟩), .int .i64 worker1, .int .i64 life2] H Q := by kernel_rfl
  letI : Sy := sy0
  exact wpF_sound (Eq.mp e h)
/-- (*cohort/master.Master).Apply -/
def VC_master_Master_Apply (m0b : Nat) (c1_Kind : Int) (c1_Session : Int) (c1_Seq : Int) (c1_S : List UInt8) (c1_ID : Int) (c1_Worker : Int) (c1_Life : Int) (c1_Report_Job : Int) (c1_Report_Epoch : Int) (c1_Report_Step : Int) (c1_Report_Phase : Int) (c1_Report_Worker : Int) (c1_Report_Err : Int) (c1_Report_Sent : Int) (c1_Report_Active : Int) (c1_Report_Many : Int) (c1_Report_Agg_Has_0 : Bool) (c1_Report_Agg_Has_1 : Bool) (c1_Report_Agg_Has_2 : Bool) (c1_Report_Agg_Has_3 : Bool) (c1_Report_Agg_Has_4 : Bool) (c1_Report_Agg_V_0 : Int) (c1_Report_Agg_V_1 : Int) (c1_Report_Agg_V_2 : Int) (c1_Report_Agg_V_3 : Int) (c1_Report_Agg_V_4 : Int) (c1_Report_Valuesa : Option Addr) (c1_Report_Valuesl : Nat) (c1_Report_Valuesc : Nat) (H : AH) (Q : Value → AH → Prop) : Prop :=
 ∀ (H1 : AH),
 H1 = H.new (.cells [.pointer (some ⟨m0b, 0, none⟩)] 0) →
 ∀ (H2 : AH),
 H2 = H1.new (.cells [.int .i64 c1_Kind, .int .i64 c1_Session, .int .i64 c1_Seq, .string ⟨⟨c1_S⟩⟩, .int .i64 c1_ID, .int .i64 c1_Worker, .int .i64 c1_Life, .int .i64 c1_Report_Job, .int .i64 c1_Report_Epoch, .int .i64 c1_Report_Step, .int .i64 c1_Report_Phase, .int .i64 c1_Report_Worker, .int .i64 c1_Report_Err, .int .i64 c1_Report_Sent, .int .i64 c1_Report_Active, .int .i64 c1_Report_Many, .bool c1_Report_Agg_Has_0, .bool c1_Report_Agg_Has_1, .bool c1_Report_Agg_Has_2, .bool c1_Report_Agg_Has_3, .bool c1_Report_Agg_Has_4, .int .i64 c1_Report_Agg_V_0, .int .i64 c1_Report_Agg_V_1, .int .i64 c1_Report_Agg_V_2, .int .i64 c1_Report_Agg_V_3, .int .i64 c1_Report_Agg_V_4, .slice c1_Report_Valuesa c1_Report_Valuesl c1_Report_Valuesc] 0) →
 ∀ (H3 : AH),
 H3 = H2.new (.cells [.int .i64 0, .int .i64 0] 0) →
 ∃ (t11 : Option Addr),
 H3.cell H.next 0 = some (.pointer t11) ∧
 cond (t11.isNone) (
 ∃ (H4 : AH),
 storeCellsv H3 H2.next 0 [.int .i64 0, .int .i64 0] = some H4 ∧
 ∃ (r4_Err : Int) (r4_ID : Int),
 H4.cell H2.next (0 + 0) = some (.int .i64 r4_Err) ∧
 H4.cell H2.next (0 + 1) = some (.int .i64 r4_ID) ∧
 Q (.tuple ⟨[.agg ⟨[.int .i64 r4_Err, .int .i64 r4_ID]⟩, .int .i64 1]⟩) H4) (
 ∃ (t15 : Int),
 H3.cell H1.next 0 = some (.int .i64 t15) ∧
 cond (t15 == 1) (
 ∃ (t21 : Option Addr),
 H3.cell H.next 0 = some (.pointer t21) ∧
 grd t21.isSome (
 grd t21.isSome (
 ∃ (t24 : Option Addr),
 H3.cell ((adr t21).block) ((adr t21).off) = some (.pointer t24) ∧
 ∃ (t26 : Int),
 H3.cell H1.next 1 = some (.int .i64 t26) ∧
 ∃ (t28 : Int),
 H3.cell H1.next 2 = some (.int .i64 t28) ∧
 FW Ee F_sess_Table_Do [.pointer t24, .int .i64 t26, .int .i64 t28, .func (.func F_master_Master_Apply_1) ⟨[]⟩ ⟨[.pointer (some ⟨H1.next, 0, none⟩), .pointer (some ⟨H.next, 0, none⟩)]⟩] H3 fun v H5 =>
 ∃ (r30_0 : List UInt8) (r30_1 : Bool) (r30_2 : Int),
 v = .tuple ⟨[.string ⟨⟨r30_0⟩⟩, .bool r30_1, .int .i64 r30_2]⟩ ∧
 cond (r30_2 != 0) (
 ∃ (H6 : AH),
 storeCellsv H5 H2.next 0 [.int .i64 0, .int .i64 0] = some H6 ∧
 ∃ (r4_Err_1 : Int) (r4_ID_1 : Int),
 H6.cell H2.next (0 + 0) = some (.int .i64 r4_Err_1) ∧
 H6.cell H2.next (0 + 1) = some (.int .i64 r4_ID_1) ∧
 Q (.tuple ⟨[.agg ⟨[.int .i64 r4_Err_1, .int .i64 r4_ID_1]⟩, .int .i64 r30_2]⟩) H6) (
 FW Ee F_master_replyOf [.string ⟨⟨r30_0⟩⟩] H5 fun v_1 H7 =>
 ∃ (r39_Err : Int) (r39_ID : Int),
 v_1 = .agg ⟨[.int .i64 r39_Err, .int .i64 r39_ID]⟩ ∧
 ∃ (H8 : AH),
 storeCellsv H7 H2.next 0 [.int .i64 r39_Err, .int .i64 r39_ID] = some H8 ∧
 ∃ (r4_Err_2 : Int) (r4_ID_2 : Int),
 H8.cell H2.next (0 + 0) = some (.int .i64 r4_Err_2) ∧
 H8.cell H2.next (0 + 1) = some (.int .i64 r4_ID_2) ∧
 Q (.tuple ⟨[.agg ⟨[.int .i64 r4_Err_2, .int .i64 r4_ID_2]⟩, .int .i64 0]⟩) H8)))) (
 cond (t15 == 2) (
 ∃ (t21_1 : Option Addr),
 H3.cell H.next 0 = some (.pointer t21_1) ∧
 grd t21_1.isSome (
 grd t21_1.isSome (
 ∃ (t24_1 : Option Addr),
 H3.cell ((adr t21_1).block) ((adr t21_1).off) = some (.pointer t24_1) ∧
 ∃ (t26_1 : Int),
 H3.cell H1.next 1 = some (.int .i64 t26_1) ∧
 ∃ (t28_1 : Int),
 H3.cell H1.next 2 = some (.int .i64 t28_1) ∧
 FW Ee F_sess_Table_Do [.pointer t24_1, .int .i64 t26_1, .int .i64 t28_1, .func (.func F_master_Master_Apply_1) ⟨[]⟩ ⟨[.pointer (some ⟨H1.next, 0, none⟩), .pointer (some ⟨H.next, 0, none⟩)]⟩] H3 fun v_2 H9 =>
 ∃ (r30_0_1 : List UInt8) (r30_1_1 : Bool) (r30_2_1 : Int),
 v_2 = .tuple ⟨[.string ⟨⟨r30_0_1⟩⟩, .bool r30_1_1, .int .i64 r30_2_1]⟩ ∧
 cond (r30_2_1 != 0) (
 ∃ (H10 : AH),
 storeCellsv H9 H2.next 0 [.int .i64 0, .int .i64 0] = some H10 ∧
 ∃ (r4_Err_3 : Int) (r4_ID_3 : Int),
 H10.cell H2.next (0 + 0) = some (.int .i64 r4_Err_3) ∧
 H10.cell H2.next (0 + 1) = some (.int .i64 r4_ID_3) ∧
 Q (.tuple ⟨[.agg ⟨[.int .i64 r4_Err_3, .int .i64 r4_ID_3]⟩, .int .i64 r30_2_1]⟩) H10) (
 FW Ee F_master_replyOf [.string ⟨⟨r30_0_1⟩⟩] H9 fun v_3 H11 =>
 ∃ (r39_Err_1 : Int) (r39_ID_1 : Int),
 v_3 = .agg ⟨[.int .i64 r39_Err_1, .int .i64 r39_ID_1]⟩ ∧
 ∃ (H12 : AH),
 storeCellsv H11 H2.next 0 [.int .i64 r39_Err_1, .int .i64 r39_ID_1] = some H12 ∧
 ∃ (r4_Err_4 : Int) (r4_ID_4 : Int),
 H12.cell H2.next (0 + 0) = some (.int .i64 r4_Err_4) ∧
 H12.cell H2.next (0 + 1) = some (.int .i64 r4_ID_4) ∧
 Q (.tuple ⟨[.agg ⟨[.int .i64 r4_Err_4, .int .i64 r4_ID_4]⟩, .int .i64 0]⟩) H12)))) (
 cond (t15 == 3) (
 ∃ (t42 : Option Addr),
 H3.cell H.next 0 = some (.pointer t42) ∧
 ∃ (t44 : Int),
 H3.cell H1.next 5 = some (.int .i64 t44) ∧
 ∃ (t46 : Int),
 H3.cell H1.next 6 = some (.int .i64 t46) ∧
 FW Ee F_master_Master_join [.pointer t42, .int .i64 t44, .int .i64 t46] H3 fun v_4 H13 =>
 v_4 = .tuple ⟨[]⟩ ∧
 ∃ (H14 : AH),
 storeCellsv H13 H2.next 0 [.int .i64 0, .int .i64 0] = some H14 ∧
 ∃ (r4_Err_5 : Int) (r4_ID_5 : Int),
 H14.cell H2.next (0 + 0) = some (.int .i64 r4_Err_5) ∧
 H14.cell H2.next (0 + 1) = some (.int .i64 r4_ID_5) ∧
 Q (.tuple ⟨[.agg ⟨[.int .i64 r4_Err_5, .int .i64 r4_ID_5]⟩, .int .i64 0]⟩) H14) (
 cond (t15 == 4) (
 ∃ (t51 : Option Addr),
 H3.cell H.next 0 = some (.pointer t51) ∧
 grd t51.isSome (
 grd t51.isSome (
 ∃ (t54 : Option Nat),
 H3.cell ((adr t51).block) ((adr t51).off + 2) = some (.map t54) ∧
 ∃ (t56 : Int),
 H3.cell H1.next 5 = some (.int .i64 t56) ∧
 ∃ (t57 : Int) (t57ok : Bool),
 lookupv Ee H3 T_M_int_int (.map t54) (.int .i64 t56) true = some (.tuple ⟨[.int .i64 t57, .bool t57ok]⟩) ∧
 cond (t57ok) (
 ∃ (t64 : Int),
 H3.cell H1.next 6 = some (.int .i64 t64) ∧
 cond (t57 == t64) (
 ∃ (t67 : Option Addr),
 H3.cell H.next 0 = some (.pointer t67) ∧
 ∃ (t69 : Int),
 H3.cell H1.next 5 = some (.int .i64 t69) ∧
 FW Ee F_master_Master_lose [.pointer t67, .int .i64 t69] H3 fun v_5 H15 =>
 v_5 = .tuple ⟨[]⟩ ∧
 ∃ (H16 : AH),
 storeCellsv H15 H2.next 0 [.int .i64 0, .int .i64 0] = some H16 ∧
 ∃ (r4_Err_6 : Int) (r4_ID_6 : Int),
 H16.cell H2.next (0 + 0) = some (.int .i64 r4_Err_6) ∧
 H16.cell H2.next (0 + 1) = some (.int .i64 r4_ID_6) ∧
 Q (.tuple ⟨[.agg ⟨[.int .i64 r4_Err_6, .int .i64 r4_ID_6]⟩, .int .i64 0]⟩) H16) (
 ∃ (H17 : AH),
 storeCellsv H3 H2.next 0 [.int .i64 0, .int .i64 0] = some H17 ∧
 ∃ (r4_Err_7 : Int) (r4_ID_7 : Int),
 H17.cell H2.next (0 + 0) = some (.int .i64 r4_Err_7) ∧
 H17.cell H2.next (0 + 1) = some (.int .i64 r4_ID_7) ∧
 Q (.tuple ⟨[.agg ⟨[.int .i64 r4_Err_7, .int .i64 r4_ID_7]⟩, .int .i64 0]⟩) H17)) (
 ∃ (H18 : AH),
 storeCellsv H3 H2.next 0 [.int .i64 0, .int .i64 0] = some H18 ∧
 ∃ (r4_Err_8 : Int) (r4_ID_8 : Int),
 H18.cell H2.next (0 + 0) = some (.int .i64 r4_Err_8) ∧
 H18.cell H2.next (0 + 1) = some (.int .i64 r4_ID_8) ∧
 Q (.tuple ⟨[.agg ⟨[.int .i64 r4_Err_8, .int .i64 r4_ID_8]⟩, .int .i64 0]⟩) H18)))) (
 cond (t15 == 5) (
 ∃ (t73 : Option Addr),
 H3.cell H.next 0 = some (.pointer t73) ∧
 ∃ (t75_Job : Int) (t75_Epoch : Int) (t75_Step : Int) (t75_Phase : Int) (t75_Worker : Int) (t75_Err : Int) (t75_Sent : Int) (t75_Active : Int) (t75_Many : Int) (t75_Agg_Has_0 : Bool) (t75_Agg_Has_1 : Bool) (t75_Agg_Has_2 : Bool) (t75_Agg_Has_3 : Bool) (t75_Agg_Has_4 : Bool) (t75_Agg_V_0 : Int) (t75_Agg_V_1 : Int) (t75_Agg_V_2 : Int) (t75_Agg_V_3 : Int) (t75_Agg_V_4 : Int) (t75_Valuesa : Option Addr) (t75_Valuesl : Nat) (t75_Valuesc : Nat),
 H3.cell H1.next (7 + 0) = some (.int .i64 t75_Job) ∧
 H3.cell H1.next (7 + 1) = some (.int .i64 t75_Epoch) ∧
 H3.cell H1.next (7 + 2) = some (.int .i64 t75_Step) ∧
 H3.cell H1.next (7 + 3) = some (.int .i64 t75_Phase) ∧
 H3.cell H1.next (7 + 4) = some (.int .i64 t75_Worker) ∧
 H3.cell H1.next (7 + 5) = some (.int .i64 t75_Err) ∧
 H3.cell H1.next (7 + 6) = some (.int .i64 t75_Sent) ∧
 H3.cell H1.next (7 + 7) = some (.int .i64 t75_Active) ∧
 H3.cell H1.next (7 + 8) = some (.int .i64 t75_Many) ∧
 H3.cell H1.next (7 + 9) = some (.bool t75_Agg_Has_0) ∧
 H3.cell H1.next (7 + 10) = some (.bool t75_Agg_Has_1) ∧
 H3.cell H1.next (7 + 11) = some (.bool t75_Agg_Has_2) ∧
 H3.cell H1.next (7 + 12) = some (.bool t75_Agg_Has_3) ∧
 H3.cell H1.next (7 + 13) = some (.bool t75_Agg_Has_4) ∧
 H3.cell H1.next (7 + 14) = some (.int .i64 t75_Agg_V_0) ∧
 H3.cell H1.next (7 + 15) = some (.int .i64 t75_Agg_V_1) ∧
 H3.cell H1.next (7 + 16) = some (.int .i64 t75_Agg_V_2) ∧
 H3.cell H1.next (7 + 17) = some (.int .i64 t75_Agg_V_3) ∧
 H3.cell H1.next (7 + 18) = some (.int .i64 t75_Agg_V_4) ∧
 H3.cell H1.next (7 + 19) = some (.slice t75_Valuesa t75_Valuesl t75_Valuesc) ∧
 FW Ee F_master_Master_report [.pointer t73, .agg ⟨[.int .i64 t75_Job, .int .i64 t75_Epoch, .int .i64 t75_Step, .int .i64 t75_Phase, .int .i64 t75_Worker, .int .i64 t75_Err, .int .i64 t75_Sent, .int .i64 t75_Active, .int .i64 t75_Many, .bool t75_Agg_Has_0, .bool t75_Agg_Has_1, .bool t75_Agg_Has_2, .bool t75_Agg_Has_3, .bool t75_Agg_Has_4, .int .i64 t75_Agg_V_0, .int .i64 t75_Agg_V_1, .int .i64 t75_Agg_V_2, .int .i64 t75_Agg_V_3, .int .i64 t75_Agg_V_4, .slice t75_Valuesa t75_Valuesl t75_Valuesc]⟩] H3 fun v_6 H19 =>
 v_6 = .tuple ⟨[]⟩ ∧
 ∃ (H20 : AH),
 storeCellsv H19 H2.next 0 [.int .i64 0, .int .i64 0] = some H20 ∧
 ∃ (r4_Err_9 : Int) (r4_ID_9 : Int),
 H20.cell H2.next (0 + 0) = some (.int .i64 r4_Err_9) ∧
 H20.cell H2.next (0 + 1) = some (.int .i64 r4_ID_9) ∧
 Q (.tuple ⟨[.agg ⟨[.int .i64 r4_Err_9, .int .i64 r4_ID_9]⟩, .int .i64 0]⟩) H20) (
 ∃ (H21 : AH),
 storeCellsv H3 H2.next 0 [.int .i64 0, .int .i64 0] = some H21 ∧
 ∃ (r4_Err_10 : Int) (r4_ID_10 : Int),
 H21.cell H2.next (0 + 0) = some (.int .i64 r4_Err_10) ∧
 H21.cell H2.next (0 + 1) = some (.int .i64 r4_ID_10) ∧
 Q (.tuple ⟨[.agg ⟨[.int .i64 r4_Err_10, .int .i64 r4_ID_10]⟩, .int .i64 172]⟩) H21))))))
set_option maxRecDepth 100000 in
theorem fw_master_Master_Apply {m0b : Nat} {c1_Kind : Int} {c1_Session : Int} {c1_Seq : Int} {c1_S : List UInt8} {c1_ID : Int} {c1_Worker : Int} {c1_Life : Int} {c1_Report_Job : Int} {c1_Report_Epoch : Int} {c1_Report_Step : Int} {c1_Report_Phase : Int} {c1_Report_Worker : Int} {c1_Report_Err : Int} {c1_Report_Sent : Int} {c1_Report_Active : Int} {c1_Report_Many : Int} {c1_Report_Agg_Has_0 : Bool} {c1_Report_Agg_Has_1 : Bool} {c1_Report_Agg_Has_2 : Bool} {c1_Report_Agg_Has_3 : Bool} {c1_Report_Agg_Has_4 : Bool} {c1_Report_Agg_V_0 : Int} {c1_Report_Agg_V_1 : Int} {c1_Report_Agg_V_2 : Int} {c1_Report_Agg_V_3 : Int} {c1_Report_Agg_V_4 : Int} {c1_Report_Valuesa : Option Addr} {c1_Report_Valuesl : Nat} {c1_Report_Valuesc : Nat} {H : AH} {Q : Value → AH → Prop} (h : VC_master_Master_Apply m0b c1_Kind c1_Session c1_Seq c1_S c1_ID c1_Worker c1_Life c1_Report_Job c1_Report_Epoch c1_Report_Step c1_Report_Phase c1_Report_Worker c1_Report_Err c1_Report_Sent c1_Report_Active c1_Report_Many c1_Report_Agg_Has_0 c1_Report_Agg_Has_1 c1_Report_Agg_Has_2 c1_Report_Agg_Has_3 c1_Report_Agg_Has_4 c1_Report_Agg_V_0 c1_Report_Agg_V_1 c1_Report_Agg_V_2 c1_Report_Agg_V_3 c1_Report_Agg_V_4 c1_Report_Valuesa c1_Report_Valuesl c1_Report_Valuesc H Q) : FW Ee F_master_Master_Apply [.pointer (some ⟨m0b, 0, none⟩), .agg ⟨[.int .i64 c1_Kind, .int .i64 c1_Session, .int .i64 c1_Seq, .string ⟨⟨c1_S⟩⟩, .int .i64 c1_ID, .int .i64 c1_Worker, .int .i64 c1_Life, .int .i64 c1_Report_Job, .int .i64 c1_Report_Epoch, .int .i64 c1_Report_Step, .int .i64 c1_Report_Phase, .int .i64 c1_Report_Worker, .int .i64 c1_Report_Err, .int .i64 c1_Report_Sent, .int .i64 c1_Report_Active, .int .i64 c1_Report_Many, .bool c1_Report_Agg_Has_0, .bool c1_Report_Agg_Has_1, .bool c1_Report_Agg_Has_2, .bool c1_Report_Agg_Has_3, .bool c1_Report_Agg_Has_4, .int .i64 c1_Report_Agg_V_0, .int .i64 c1_Report_Agg_V_1, .int .i64 c1_Report_Agg_V_2, .int .i64 c1_Report_Agg_V_3, .int .i64 c1_Report_Agg_V_4, .slice c1_Report_Valuesa c1_Report_Valuesl c1_Report_Valuesc]⟩] H Q := by
  have e : VC_master_Master_Apply m0b c1_Kind c1_Session c1_Seq c1_S c1_ID c1_Worker c1_Life c1_Report_Job c1_Report_Epoch c1_Report_Step c1_Report_Phase c1_Report_Worker c1_Report_Err c1_Report_Sent c1_Report_Active c1_Report_Many c1_Report_Agg_Has_0 c1_Report_Agg_Has_1 c1_Report_Agg_Has_2 c1_Report_Agg_Has_3 c1_Report_Agg_Has_4 c1_Report_Agg_V_0 c1_Report_Agg_V_1 c1_Report_Agg_V_2 c1_Report_Agg_V_3 c1_Report_Agg_V_4 c1_Report_Valuesa c1_Report_Valuesl c1_Report_Valuesc H Q = wpF Ee ⟨[], []⟩ F_master_Master_Apply [.pointer (some ⟨m0b, 0, none⟩), .agg ⟨[.int .i64 c1_Kind, .int .i64 c1_Session, .int .i64 c1_Seq, .string ⟨⟨c1_S⟩⟩, .int .i64 c1_ID, .int .i64 c1_Worker, .int .i64 c1_Life, .int .i64 c1_Report_Job, .int .i64 c1_Report_Epoch, .int .i64 c1_Report_Step, .int .i64 c1_Report_Phase, .int .i64 c1_Report_Worker, .int .i64 c1_Report_Err, .int .i64 c1_Report_Sent, .int .i64 c1_Report_Active, .int .i64 c1_Report_Many, .bool c1_Report_Agg_Has_0, .bool c1_Report_Agg_Has_1, .bool c1_Report_Agg_Has_2, .bool c1_Report_Agg_Has_3, .bool c1_Report_Agg_Has_4, .int .i64 c1_Report_Agg_V_0, .int .i64 c1_Report_Agg_V_1, .int .i64 c1_Report_Agg_V_2, .int .i64 c1_Report_Agg_V_3, .int .i64 c1_Report_Agg_V_4, .slice c1_Report_Valuesa c1_Report_Valuesl c1_Report_Valuesc]⟩] H Q := by kernel_rfl
  letI : Sy := sy0
  exact wpF_sound (Eq.mp e h)
end Go.Proofs.Cx

namespace Go.Proofs.Cx
open Go Go.Ev
set_option linter.unusedVariables false
set_option maxRecDepth 100000
set_option maxHeartbeats 8000000
end Go.Proofs.Cx

namespace Go.Proofs.Cx
open Go Go.Ev
set_option linter.unusedVariables false
set_option maxRecDepth 100000
set_option maxHeartbeats 8000000
/-- (*cohort/sess.Table).Look$1 -/
def VC_sess_Table_Look_1 (e0 : Int) (H : AH) (Q : Value → AH → Prop) : Prop :=
 Q (.tuple ⟨[.string ⟨⟨[]⟩⟩, .bool false, .int .i64 e0]⟩) H
set_option maxRecDepth 100000 in
theorem fw_sess_Table_Look_1 {e0 : Int} {H : AH} {Q : Value → AH → Prop} (h : VC_sess_Table_Look_1 e0 H Q) : FW Ee F_sess_Table_Look_1 [.int .i64 e0] H Q := by
  have e : VC_sess_Table_Look_1 e0 H Q = wpF Ee ⟨[], []⟩ F_sess_Table_Look_1 [.int .i64 e0] H Q := by kernel_rfl
  letI : Sy := sy0
  exact wpF_sound (Eq.mp e h)
/-- (*cohort/sess.Table).Look$2 -/
def VC_sess_Table_Look_2 (t0b : Nat) (t1b : Nat) (H : AH) (Q : Value → AH → Prop) : Prop :=
 ∃ (t4 : Int),
 H.cell t0b 0 = some (.int .i64 t4) ∧
 cond (t4 == 0) (
 ∃ (t7 : Option Addr),
 H.cell t1b 0 = some (.pointer t7) ∧
 grd t7.isSome (
 grd t7.isSome (
 ∃ (t10 : Option Nat),
 H.cell ((adr t7).block) ((adr t7).off) = some (.map t10) ∧
 ((
 t10 = none ∧
 Q (.bool (decide ((0 : Int) ≥ 64))) H) ∨ (
 ∃ (mb : Nat) (es : List MapEntry) (cl : Nat),
 t10 = some mb ∧
 H.get mb = some (.map es cl) ∧
 Q (.bool (decide ((((es.length : Nat) : Int)) ≥ 64))) H))))) (
 Q (.bool false) H)
set_option maxRecDepth 100000 in
theorem fw_sess_Table_Look_2 {t0b : Nat} {t1b : Nat} {H : AH} {Q : Value → AH → Prop} (h : VC_sess_Table_Look_2 t0b t1b H Q) : FW Ee F_sess_Table_Look_2 [.pointer (some ⟨t0b, 0, none⟩), .pointer (some ⟨t1b, 0, none⟩)] H Q := by
  have e : VC_sess_Table_Look_2 t0b t1b H Q = wpF Ee ⟨[], []⟩ F_sess_Table_Look_2 [.pointer (some ⟨t0b, 0, none⟩), .pointer (some ⟨t1b, 0, none⟩)] H Q := by kernel_rfl
  letI : Sy := sy0
  exact wpF_sound (Eq.mp e h)
/-- (*cohort/sess.Table).Look -/
def VC_sess_Table_Look (t0b : Nat) (session1 : Int) (seq2 : Int) (H : AH) (Q : Value → AH → Prop) : Prop :=
 ∀ (H1 : AH),
 H1 = H.new (.cells [.pointer (some ⟨t0b, 0, none⟩)] 0) →
 ∃ (t12 : Option Addr),
 H1.cell H.next 0 = some (.pointer t12) ∧
 cond (t12.isNone) (
 Q (.tuple ⟨[.string ⟨⟨[]⟩⟩, .bool false, .int .i64 1]⟩) H1) (
 cond (decide (seq2 < 1)) (
 Q (.tuple ⟨[.string ⟨⟨[]⟩⟩, .bool false, .int .i64 1]⟩) H1) (
 ∃ (t18 : Option Addr),
 H1.cell H.next 0 = some (.pointer t18) ∧
 grd t18.isSome (
 grd t18.isSome (
 ∃ (t21 : Option Nat),
 H1.cell ((adr t18).block) ((adr t18).off) = some (.map t21) ∧
 ∃ (t23_seq : Int) (t23_answer : List UInt8),
 lookupv Ee H1 T_M_int64_sess_last (.map t21) (.int .i64 session1) false = some (.agg ⟨[.int .i64 t23_seq, .string ⟨⟨t23_answer⟩⟩]⟩) ∧
 ∀ (H2 : AH),
 H2 = H1.new (.cells [.int .i64 0, .string ⟨⟨[]⟩⟩] 0) →
 ∃ (H3 : AH),
 storeCellsv H2 H1.next 0 [.int .i64 t23_seq, .string ⟨⟨t23_answer⟩⟩] = some H3 ∧
 ∃ (t28 : Int),
 H3.cell H1.next 0 = some (.int .i64 t28) ∧
 cond (seq2 == t28) (
 ∃ (t31 : List UInt8),
 H3.cell H1.next 1 = some (.string ⟨⟨t31⟩⟩) ∧
 Q (.tuple ⟨[.string ⟨⟨t31⟩⟩, .bool true, .int .i64 0]⟩) H3) (
 ∃ (t35 : Int),
 H3.cell H1.next 0 = some (.int .i64 t35) ∧
 cond (decide (seq2 < t35)) (
 FW Ee F_sess_Table_Look_1 [.int .i64 150] H3 fun v H4 =>
 ∃ (r38_0 : List UInt8) (r38_1 : Bool) (r38_2 : Int),
 v = .tuple ⟨[.string ⟨⟨r38_0⟩⟩, .bool r38_1, .int .i64 r38_2]⟩ ∧
 Q (.tuple ⟨[.string ⟨⟨r38_0⟩⟩, .bool r38_1, .int .i64 r38_2]⟩) H4) (
 ∃ (t45 : Int),
 H3.cell H1.next 0 = some (.int .i64 t45) ∧
 ∀ (t46 : Int),
 t46 = IntKind.i64.wrap (t45 + 1) →
 cond (decide (seq2 > t46)) (
 FW Ee F_sess_Table_Look_1 [.int .i64 151] H3 fun v_1 H5 =>
 ∃ (r49_0 : List UInt8) (r49_1 : Bool) (r49_2 : Int),
 v_1 = .tuple ⟨[.string ⟨⟨r49_0⟩⟩, .bool r49_1, .int .i64 r49_2]⟩ ∧
 Q (.tuple ⟨[.string ⟨⟨r49_0⟩⟩, .bool r49_1, .int .i64 r49_2]⟩) H5) (
 FW Ee F_sess_Table_Look_2 [.pointer (some ⟨H1.next, 0, none⟩), .pointer (some ⟨H.next, 0, none⟩)] H3 fun v_2 H6 =>
 ∃ (r55 : Bool),
 v_2 = .bool r55 ∧
 cond (r55) (
 FW Ee F_sess_Table_Look_1 [.int .i64 3] H6 fun v_3 H7 =>
 ∃ (r57_0 : List UInt8) (r57_1 : Bool) (r57_2 : Int),
 v_3 = .tuple ⟨[.string ⟨⟨r57_0⟩⟩, .bool r57_1, .int .i64 r57_2]⟩ ∧
 Q (.tuple ⟨[.string ⟨⟨r57_0⟩⟩, .bool r57_1, .int .i64 r57_2]⟩) H7) (
 FW Ee F_sess_Table_Look_1 [.int .i64 0] H6 fun v_4 H8 =>
 ∃ (r62_0 : List UInt8) (r62_1 : Bool) (r62_2 : Int),
 v_4 = .tuple ⟨[.string ⟨⟨r62_0⟩⟩, .bool r62_1, .int .i64 r62_2]⟩ ∧
 Q (.tuple ⟨[.string ⟨⟨r62_0⟩⟩, .bool r62_1, .int .i64 r62_2]⟩) H8))))))))
set_option maxRecDepth 100000 in
theorem fw_sess_Table_Look {t0b : Nat} {session1 : Int} {seq2 : Int} {H : AH} {Q : Value → AH → Prop} (h : VC_sess_Table_Look t0b session1 seq2 H Q) : FW Ee F_sess_Table_Look [.pointer (some ⟨t0b, 0, none⟩), .int .i64 session1, .int .i64 seq2] H Q := by
  have e : VC_sess_Table_Look t0b session1 seq2 H Q = wpF Ee ⟨[], []⟩ F_sess_Table_Look [.pointer (some ⟨t0b, 0, none⟩), .int .i64 session1, .int .i64 seq2] H Q := by kernel_rfl
  letI : Sy := sy0
  exact wpF_sound (Eq.mp e h)
/-- (*cohort/sess.Table).Do -/
def VC_sess_Table_Do (t0b : Nat) (session1 : Int) (seq2 : Int) (do3c : Nat) (do3c_1 : Nat) (H : AH) (Q : Value → AH → Prop) : Prop :=
 FW Ee F_sess_Table_Look [.pointer (some ⟨t0b, 0, none⟩), .int .i64 session1, .int .i64 seq2] H fun v H1 =>
 ∃ (r18_0 : List UInt8) (r18_1 : Bool) (r18_2 : Int),
 v = .tuple ⟨[.string ⟨⟨r18_0⟩⟩, .bool r18_1, .int .i64 r18_2]⟩ ∧
 cond (r18_2 != 0) (
 Q (.tuple ⟨[.string ⟨⟨r18_0⟩⟩, .bool false, .int .i64 r18_2]⟩) H1) (
 cond (r18_1) (
 Q (.tuple ⟨[.string ⟨⟨r18_0⟩⟩, .bool false, .int .i64 r18_2]⟩) H1) (
 FW Ee F_master_Master_Apply_1 [.pointer (some ⟨do3c, 0, none⟩), .pointer (some ⟨do3c_1, 0, none⟩)] H1 fun v_1 H2 =>
 ∃ (r32 : List UInt8),
 v_1 = .string ⟨⟨r32⟩⟩ ∧
 ∃ (t36 : Option Nat),
 H2.cell t0b 0 = some (.map t36) ∧
 ∃ (H3 : AH),
 updatev Ee H2 T_M_int64_sess_last (.map t36) (.int .i64 session1) (.agg ⟨[.int .i64 seq2, .string ⟨⟨r32⟩⟩]⟩) = some H3 ∧
 Q (.tuple ⟨[.string ⟨⟨r32⟩⟩, .bool true, .int .i64 0]⟩) H3))
set_option maxRecDepth 100000 in
theorem fw_sess_Table_Do {t0b : Nat} {session1 : Int} {seq2 : Int} {do3c : Nat} {do3c_1 : Nat} {H : AH} {Q : Value → AH → Prop} (h : VC_sess_Table_Do t0b session1 seq2 do3c do3c_1 H Q) : FW Ee F_sess_Table_Do [.pointer (some ⟨t0b, 0, none⟩), .int .i64 session1, .int .i64 seq2, .func (.func F_master_Master_Apply_1) ⟨[]⟩ ⟨[.pointer (some ⟨do3c, 0, none⟩), .pointer (some ⟨do3c_1, 0, none⟩)]⟩] H Q := by
  have e : VC_sess_Table_Do t0b session1 seq2 do3c do3c_1 H Q = wpF Ee ⟨[], []⟩ F_sess_Table_Do [.pointer (some ⟨t0b, 0, none⟩), .int .i64 session1, .int .i64 seq2, .func (.func F_master_Master_Apply_1) ⟨[]⟩ ⟨[.pointer (some ⟨do3c, 0, none⟩), .pointer (some ⟨do3c_1, 0, none⟩)]⟩] H Q := by kernel_rfl
  letI : Sy := sy0
  exact wpF_sound (Eq.mp e h)
/-- cohort/master.replyText -/
def VC_master_replyText (r0_Err : Int) (r0_ID : Int) (H : AH) (Q : Value → AH → Prop) : Prop :=
 ∀ (H1 : AH),
 H1 = H.new (.cells [.int .i64 r0_Err, .int .i64 r0_ID] 0) →
 FW Ee F_wire_NewWriter [] H1 fun v H2 =>
 ∃ (r4 : Option Addr),
 v = .pointer r4 ∧
 ∃ (t7 : Int),
 H2.cell H.next 0 = some (.int .i64 t7) ∧
 FW Ee F_wire_Writer_Count [.pointer r4, .int .i64 t7] H2 fun v_1 H3 =>
 v_1 = .tuple ⟨[]⟩ ∧
 ∃ (t11 : Int),
 H3.cell H.next 1 = some (.int .i64 t11) ∧
 FW Ee F_wire_Writer_Count [.pointer r4, .int .i64 t11] H3 fun v_2 H4 =>
 v_2 = .tuple ⟨[]⟩ ∧
 FW Ee F_wire_Writer_All [.pointer r4] H4 fun v_3 H5 =>
 ∃ (r14 : List UInt8),
 v_3 = .string ⟨⟨r14⟩⟩ ∧
 Q (.string ⟨⟨r14⟩⟩) H5
set_option maxRecDepth 100000 in
theorem fw_master_replyText {r0_Err : Int} {r0_ID : Int} {H : AH} {Q : Value → AH → Prop} (h : VC_master_replyText r0_Err r0_ID H Q) : FW Ee F_master_replyText [.agg ⟨[.int .i64 r0_Err, .int .i64 r0_ID]⟩] H Q := by
  have e : VC_master_replyText r0_Err r0_ID H Q = wpF Ee ⟨[], []⟩ F_master_replyText [.agg ⟨[.int .i64 r0_Err, .int .i64 r0_ID]⟩] H Q := by kernel_rfl
  letI : Sy := sy0
  exact wpF_sound (Eq.mp e h)
/-- cohort/master.replyOf -/
def VC_master_replyOf (s0 : List UInt8) (H : AH) (Q : Value → AH → Prop) : Prop :=
 ∀ (H1 : AH),
 H1 = H.new (.cells [.int .i64 0, .int .i64 0] 0) →
 FW Ee F_wire_NewReader [.string ⟨⟨s0⟩⟩] H1 fun v H2 =>
 ∃ (r5 : Option Addr),
 v = .pointer r5 ∧
 FW Ee F_wire_Reader_Count [.pointer r5, .int .i64 2147483647] H2 fun v_1 H3 =>
 ∃ (r7 : Int),
 v_1 = .int .i64 r7 ∧
 FW Ee F_wire_Reader_Count [.pointer r5, .int .i64 2147483647] H3 fun v_2 H4 =>
 ∃ (r9 : Int),
 v_2 = .int .i64 r9 ∧
 ∃ (H5 : AH),
 storeCellsv H4 H.next 0 [.int .i64 r7, .int .i64 r9] = some H5 ∧
 ∃ (r2_Err : Int) (r2_ID : Int),
 H5.cell H.next (0 + 0) = some (.int .i64 r2_Err) ∧
 H5.cell H.next (0 + 1) = some (.int .i64 r2_ID) ∧
 Q (.agg ⟨[.int .i64 r2_Err, .int .i64 r2_ID]⟩) H5
set_option maxRecDepth 100000 in
theorem fw_master_replyOf {s0 : List UInt8} {H : AH} {Q : Value → AH → Prop} (h : VC_master_replyOf s0 H Q) : FW Ee F_master_replyOf [.string ⟨⟨s0⟩⟩] H Q := by
  have e : VC_master_replyOf s0 H Q = wpF Ee ⟨[], []⟩ F_master_replyOf [.string ⟨⟨s0⟩⟩] H Q := by kernel_rfl
  letI : Sy := sy0
  exact wpF_sound (Eq.mp e h)
/-- (*cohort/master.Master).submit -/
def VC_master_Master_submit (m0b : Nat) (s1 : List UInt8) (H : AH) (Q : Value → AH → Prop) : Prop :=
 ∀ (H1 : AH),
 H1 = H.new (.cells [.int .i64 0, .int .i64 0] 0) →
 FW Ee F_run_DecodeJob [.string ⟨⟨s1⟩⟩] H1 fun v H2 =>
 ∃ (r9_0_Program : List UInt8) (r9_0_Graph_Verticesa : Option Addr) (r9_0_Graph_Verticesl : Nat) (r9_0_Graph_Verticesc : Nat) (r9_0_Paramsa : Option Addr) (r9_0_Paramsl : Nat) (r9_0_Paramsc : Nat) (r9_0_Steps : Int) (r9_0_Sent : Int) (r9_0_Parts : Int) (r9_1 : Int),
 v = .tuple ⟨[.agg ⟨[.string ⟨⟨r9_0_Program⟩⟩, .slice r9_0_Graph_Verticesa r9_0_Graph_Verticesl r9_0_Graph_Verticesc, .slice r9_0_Paramsa r9_0_Paramsl r9_0_Paramsc, .int .i64 r9_0_Steps, .int .i64 r9_0_Sent, .int .i64 r9_0_Parts]⟩, .int .i64 r9_1]⟩ ∧
 ∀ (H3 : AH),
 H3 = H2.new (.cells [.string ⟨⟨[]⟩⟩, .slice none 0 0, .slice none 0 0, .int .i64 0, .int .i64 0, .int .i64 0] 0) →
 ∃ (H4 : AH),
 storeCellsv H3 H2.next 0 [.string ⟨⟨r9_0_Program⟩⟩, .slice r9_0_Graph_Verticesa r9_0_Graph_Verticesl r9_0_Graph_Verticesc, .slice r9_0_Paramsa r9_0_Paramsl r9_0_Paramsc, .int .i64 r9_0_Steps, .int .i64 r9_0_Sent, .int .i64 r9_0_Parts] = some H4 ∧
 cond (r9_1 != 0) (
 ∃ (H5 : AH),
 storeCellsv H4 H.next 0 [.int .i64 r9_1, .int .i64 0] = some H5 ∧
 ∃ (r4_Err : Int) (r4_ID : Int),
 H5.cell H.next (0 + 0) = some (.int .i64 r4_Err) ∧
 H5.cell H.next (0 + 1) = some (.int .i64 r4_ID) ∧
 Q (.agg ⟨[.int .i64 r4_Err, .int .i64 r4_ID]⟩) H5) (
 FW Ee F_master_Master_Open [.pointer (some ⟨m0b, 0, none⟩)] H4 fun v_1 H6 =>
 ∃ (r17 : Int),
 v_1 = .int .i64 r17 ∧
 cond (decide (r17 ≥ 8)) (
 ∃ (H7 : AH),
 storeCellsv H6 H.next 0 [.int .i64 171, .int .i64 0] = some H7 ∧
 ∃ (r4_Err_1 : Int) (r4_ID_1 : Int),
 H7.cell H.next (0 + 0) = some (.int .i64 r4_Err_1) ∧
 H7.cell H.next (0 + 1) = some (.int .i64 r4_ID_1) ∧
 Q (.agg ⟨[.int .i64 r4_Err_1, .int .i64 r4_ID_1]⟩) H7) (
 ∃ (t23 : Int),
 H6.cell m0b 3 = some (.int .i64 t23) ∧
 cond (decide (t23 ≥ 64)) (
 ∃ (H8 : AH),
 storeCellsv H6 H.next 0 [.int .i64 171, .int .i64 0] = some H8 ∧
 ∃ (r4_Err_2 : Int) (r4_ID_2 : Int),
 H8.cell H.next (0 + 0) = some (.int .i64 r4_Err_2) ∧
 H8.cell H.next (0 + 1) = some (.int .i64 r4_ID_2) ∧
 Q (.agg ⟨[.int .i64 r4_Err_2, .int .i64 r4_ID_2]⟩) H8) (
 ∃ (t30 : Int),
 H6.cell m0b 3 = some (.int .i64 t30) ∧
 ∀ (t31 : Int),
 t31 = IntKind.i64.wrap (t30 + 1) →
 ∃ (H9 : AH),
 storeCellsv H6 m0b 3 [.int .i64 t31] = some H9 ∧
 ∃ (t37 : Option Nat),
 H9.cell m0b 1 = some (.map t37) ∧
 ∃ (t41 : Int),
 H9.cell m0b 3 = some (.int .i64 t41) ∧
 ∃ (t45 : Int),
 H9.cell m0b 3 = some (.int .i64 t45) ∧
 ∃ (t46_Program : List UInt8) (t46_Graph_Verticesa : Option Addr) (t46_Graph_Verticesl : Nat) (t46_Graph_Verticesc : Nat) (t46_Paramsa : Option Addr) (t46_Paramsl : Nat) (t46_Paramsc : Nat) (t46_Steps : Int) (t46_Sent : Int) (t46_Parts : Int),
 H9.cell H2.next (0 + 0) = some (.string ⟨⟨t46_Program⟩⟩) ∧
 H9.cell H2.next (0 + 1) = some (.slice t46_Graph_Verticesa t46_Graph_Verticesl t46_Graph_Verticesc) ∧
 H9.cell H2.next (0 + 2) = some (.slice t46_Paramsa t46_Paramsl t46_Paramsc) ∧
 H9.cell H2.next (0 + 3) = some (.int .i64 t46_Steps) ∧
 H9.cell H2.next (0 + 4) = some (.int .i64 t46_Sent) ∧
 H9.cell H2.next (0 + 5) = some (.int .i64 t46_Parts) ∧
 ∀ (H10 : AH),
 H10 = H9.new (.cells [.int .i64 t45, .string ⟨⟨t46_Program⟩⟩, .slice t46_Graph_Verticesa t46_Graph_Verticesl t46_Graph_Verticesc, .slice t46_Paramsa t46_Paramsl t46_Paramsc, .int .i64 t46_Steps, .int .i64 t46_Sent, .int .i64 t46_Parts, .int .i64 1, .int .i64 0, .int .i64 0, .int .i64 0, .slice none 0 0, .int .i64 0, .int .i64 0, .int .i64 0, .slice none 0 0, .map none, .bool false, .bool false, .bool false, .bool false, .bool false, .int .i64 0, .int .i64 0, .int .i64 0, .int .i64 0, .int .i64 0, .int .i64 0, .bool false, .bool false, .bool false, .bool false, .bool false, .int .i64 0, .int .i64 0, .int .i64 0, .int .i64 0, .int .i64 0, .int .i64 0, .int .i64 0, .bool false, .bool false, .bool false, .bool false, .bool false, .int .i64 0, .int .i64 0, .int .i64 0, .int .i64 0, .int .i64 0] 0) →
 ∃ (H11 : AH),
 updatev Ee H10 T_M_int_P_master_job (.map t37) (.int .i64 t41) (.pointer (some ⟨H9.next, 0, none⟩)) = some H11 ∧
 H10.cell H2.next (0 + 0) = some (.string ⟨⟨t46_Program⟩⟩) ∧
 H10.cell H2.next (0 + 1) = some (.slice t46_Graph_Verticesa t46_Graph_Verticesl t46_Graph_Verticesc) ∧
 H10.cell H2.next (0 + 2) = some (.slice t46_Paramsa t46_Paramsl t46_Paramsc) ∧
 H10.cell H2.next (0 + 3) = some (.int .i64 t46_Steps) ∧
 H10.cell H2.next (0 + 4) = some (.int .i64 t46_Sent) ∧
 H10.cell H2.next (0 + 5) = some (.int .i64 t46_Parts) ∧
 H10.cell m0b 3 = some (.int .i64 t45) ∧
 H10.cell m0b 3 = some (.int .i64 t41) ∧
 H10.cell m0b 1 = some (.map t37) ∧
 FW Ee F_master_Master_start [.pointer (some ⟨m0b, 0, none⟩)] H11 fun v_2 H12 =>
 v_2 = .tuple ⟨[]⟩ ∧
 ∃ (t54 : Int),
 H12.cell m0b 3 = some (.int .i64 t54) ∧
 ∃ (H13 : AH),
 storeCellsv H12 H.next 0 [.int .i64 0, .int .i64 t54] = some H13 ∧
 ∃ (r4_Err_3 : Int) (r4_ID_3 : Int),
 H13.cell H.next (0 + 0) = some (.int .i64 r4_Err_3) ∧
 H13.cell H.next (0 + 1) = some (.int .i64 r4_ID_3) ∧
 Q (.agg ⟨[.int .i64 r4_Err_3, .int .i64 r4_ID_3]⟩) H13)))
set_option maxRecDepth 100000 in
theorem fw_master_Master_submit {m0b : Nat} {s1 : List UInt8} {H : AH} {Q : Value → AH → Prop} (h : VC_master_Master_submit m0b s1 H Q) : FW Ee F_master_Master_submit [.pointer (some ⟨m0b, 0, none⟩), .string ⟨⟨s1⟩⟩] H Q := by
  have e : VC_master_Master_submit m0b s1 H Q = wpF Ee ⟨[], []⟩ F_master_Master_submit [.pointer (some ⟨m0b, 0, none⟩), .string ⟨⟨s1⟩⟩] H Q := by kernel_rfl
  letI : Sy := sy0
  exact wpF_sound (Eq.mp e h)
/-- (*cohort/master.Master).Apply$1 -/
def VC_master_Master_Apply_1 (t0b : Nat) (t1b : Nat) (H : AH) (Q : Value → AH → Prop) : Prop :=
 ∃ (t4 : Int),
 H.cell t0b 0 = some (.int .i64 t4) ∧
 cond (t4 == 1) (
 ∃ (t6 : Option Addr),
 H.cell t1b 0 = some (.pointer t6) ∧
 ∃ (t8 : List UInt8),
 H.cell t0b 3 = some (.string ⟨⟨t8⟩⟩) ∧
 FW Ee F_master_Master_submit [.pointer t6, .string ⟨⟨t8⟩⟩] H fun v H1 =>
 ∃ (r9_Err : Int) (r9_ID : Int),
 v = .agg ⟨[.int .i64 r9_Err, .int .i64 r9_ID]⟩ ∧
 FW Ee F_master_replyText [.agg ⟨[.int .i64 r9_Err, .int .i64 r9_ID]⟩] H1 fun v_1 H2 =>
 ∃ (r10 : List UInt8),
 v_1 = .string ⟨⟨r10⟩⟩ ∧
 Q (.string ⟨⟨r10⟩⟩) H2) (
 ∃ (t11 : Option Addr),
 H.cell t1b 0 = some (.pointer t11) ∧
 ∃ (t13 : Int),
 H.cell t0b 4 = some (.int .i64 t13) ∧
 FW Ee F_master_Master_cancel [.pointer t11, .int .i64 t13] H fun v_2 H3 =>
 ∃ (r14_Err : Int) (r14_ID : Int),
 v_2 = .agg ⟨[.int .i64 r14_Err, .int .i64 r14_ID]⟩ ∧
 FW Ee F_master_replyText [.agg ⟨[.int .i64 r14_Err, .int .i64 r14_ID]⟩] H3 fun v_3 H4 =>
 ∃ (r15 : List UInt8),
 v_3 = .string ⟨⟨r15⟩⟩ ∧
 Q (.string ⟨⟨r15⟩⟩) H4)
set_option maxRecDepth 100000 in
theorem fw_master_Master_Apply_1 {t0b : Nat} {t1b : Nat} {H : AH} {Q : Value → AH → Prop} (h : VC_master_Master_Apply_1 t0b t1b H Q) : FW Ee F_master_Master_Apply_1 [.pointer (some ⟨t0b, 0, none⟩), .pointer (some ⟨t1b, 0, none⟩)] H Q := by
  have e : VC_master_Master_Apply_1 t0b t1b H Q = wpF Ee ⟨[], []⟩ F_master_Master_Apply_1 [.pointer (some ⟨t0b, 0, none⟩), .pointer (some ⟨t1b, 0, none⟩)] H Q := by kernel_rfl
  letI : Sy := sy0
  exact wpF_sound (Eq.mp e h)
/-- (*cohort/master.Master).Wants -/
def VC_master_Master_Wants (m0b : Nat) (r1_Job : Int) (r1_Epoch : Int) (r1_Step : Int) (r1_Phase : Int) (r1_Worker : Int) (r1_Err : Int) (r1_Sent : Int) (r1_Active : Int) (r1_Many : Int) (r1_Agg_Has_0 : Bool) (r1_Agg_Has_1 : Bool) (r1_Agg_Has_2 : Bool) (r1_Agg_Has_3 : Bool) (r1_Agg_Has_4 : Bool) (r1_Agg_V_0 : Int) (r1_Agg_V_1 : Int) (r1_Agg_V_2 : Int) (r1_Agg_V_3 : Int) (r1_Agg_V_4 : Int) (r1_Valuesa : Option Addr) (r1_Valuesl : Nat) (r1_Valuesc : Nat) (H : AH) (Q : Value → AH → Prop) : Prop :=
 ∀ (H1 : AH),
 H1 = H.new (.cells [.int .i64 r1_Job, .int .i64 r1_Epoch, .int .i64 r1_Step, .int .i64 r1_Phase, .int .i64 r1_Worker, .int .i64 r1_Err, .int .i64 r1_Sent, .int .i64 r1_Active, .int .i64 r1_Many, .bool r1_Agg_Has_0, .bool r1_Agg_Has_1, .bool r1_Agg_Has_2, .bool r1_Agg_Has_3, .bool r1_Agg_Has_4, .int .i64 r1_Agg_V_0, .int .i64 r1_Agg_V_1, .int .i64 r1_Agg_V_2, .int .i64 r1_Agg_V_3, .int .i64 r1_Agg_V_4, .slice r1_Valuesa r1_Valuesl r1_Valuesc] 0) →
 FW Ee F_master_Master_current [.pointer (some ⟨m0b, 0, none⟩)] H1 fun v H2 =>
 ∃ (r11 : Option Addr),
 v = .pointer r11 ∧
 cond (r11.isNone) (
 Q (.bool false) H2) (
 grd r11.isSome (
 grd r11.isSome (
 ∃ (t18 : Int),
 H2.cell ((adr r11).block) ((adr r11).off) = some (.int .i64 t18) ∧
 ∃ (t20 : Int),
 H2.cell H.next 0 = some (.int .i64 t20) ∧
 cond (t18 != t20) (
 Q (.bool false) H2) (
 grd r11.isSome (
 grd r11.isSome (
 ∃ (t27 : Int),
 H2.cell ((adr r11).block) ((adr r11).off + 12) = some (.int .i64 t27) ∧
 ∃ (t29 : Int),
 H2.cell H.next 1 = some (.int .i64 t29) ∧
 cond (t27 != t29) (
 Q (.bool false) H2) (
 grd r11.isSome (
 grd r11.isSome (
 ∃ (t36 : Int),
 H2.cell ((adr r11).block) ((adr r11).off + 13) = some (.int .i64 t36) ∧
 ∃ (t38 : Int),
 H2.cell H.next 2 = some (.int .i64 t38) ∧
 cond (t36 != t38) (
 Q (.bool false) H2) (
 grd r11.isSome (
 grd r11.isSome (
 ∃ (t45 : Int),
 H2.cell ((adr r11).block) ((adr r11).off + 14) = some (.int .i64 t45) ∧
 ∃ (t47 : Int),
 H2.cell H.next 3 = some (.int .i64 t47) ∧
 cond (t45 != t47) (
 Q (.bool false) H2) (
 grd r11.isSome (
 grd r11.isSome (
 ∃ (t54a : Option Addr) (t54l : Nat) (t54c : Nat),
 H2.cell ((adr r11).block) ((adr r11).off + 15) = some (.slice t54a t54l t54c) ∧
 ∃ (t56 : Int),
 H2.cell H.next 4 = some (.int .i64 t56) ∧
 FW Ee F_slices_Contains_L_int_int [.slice t54a t54l t54c, .int .i64 t56] H2 fun v_1 H3 =>
 ∃ (r57 : Bool),
 v_1 = .bool r57 ∧
 cond (!r57) (
 Q (.bool false) H3) (
 grd r11.isSome (
 grd r11.isSome (
 ∃ (t64 : Option Nat),
 H3.cell ((adr r11).block) ((adr r11).off + 16) = some (.map t64) ∧
 ∃ (t66 : Int),
 H3.cell H.next 4 = some (.int .i64 t66) ∧
 ∃ (t67_Job : Int) (t67_Epoch : Int) (t67_Step : Int) (t67_Phase : Int) (t67_Worker : Int) (t67_Err : Int) (t67_Sent : Int) (t67_Active : Int) (t67_Many : Int) (t67_Agg_Has_0 : Bool) (t67_Agg_Has_1 : Bool) (t67_Agg_Has_2 : Bool) (t67_Agg_Has_3 : Bool) (t67_Agg_Has_4 : Bool) (t67_Agg_V_0 : Int) (t67_Agg_V_1 : Int) (t67_Agg_V_2 : Int) (t67_Agg_V_3 : Int) (t67_Agg_V_4 : Int) (t67_Valuesa : Option Addr) (t67_Valuesl : Nat) (t67_Valuesc : Nat) (t67ok : Bool),
 lookupv Ee H3 T_M_int_api_Report (.map t64) (.int .i64 t66) true = some (.tuple ⟨[.agg ⟨[.int .i64 t67_Job, .int .i64 t67_Epoch, .int .i64 t67_Step, .int .i64 t67_Phase, .int .i64 t67_Worker, .int .i64 t67_Err, .int .i64 t67_Sent, .int .i64 t67_Active, .int .i64 t67_Many, .bool t67_Agg_Has_0, .bool t67_Agg_Has_1, .bool t67_Agg_Has_2, .bool t67_Agg_Has_3, .bool t67_Agg_Has_4, .int .i64 t67_Agg_V_0, .int .i64 t67_Agg_V_1, .int .i64 t67_Agg_V_2, .int .i64 t67_Agg_V_3, .int .i64 t67_Agg_V_4, .slice t67_Valuesa t67_Valuesl t67_Valuesc]⟩, .bool t67ok]⟩) ∧
 ∀ (H4 : AH),
 H4 = H3.new (.cells [.int .i64 0, .int .i64 0, .int .i64 0, .int .i64 0, .int .i64 0, .int .i64 0, .int .i64 0, .int .i64 0, .int .i64 0, .bool false, .bool false, .bool false, .bool false, .bool false, .int .i64 0, .int .i64 0, .int .i64 0, .int .i64 0, .int .i64 0, .slice none 0 0] 0) →
 ∃ (H5 : AH),
 storeCellsv H4 H3.next 0 [.int .i64 t67_Job, .int .i64 t67_Epoch, .int .i64 t67_Step, .int .i64 t67_Phase, .int .i64 t67_Worker, .int .i64 t67_Err, .int .i64 t67_Sent, .int .i64 t67_Active, .int .i64 t67_Many, .bool t67_Agg_Has_0, .bool t67_Agg_Has_1, .bool t67_Agg_Has_2, .bool t67_Agg_Has_3, .bool t67_Agg_Has_4, .int .i64 t67_Agg_V_0, .int .i64 t67_Agg_V_1, .int .i64 t67_Agg_V_2, .int .i64 t67_Agg_V_3, .int .i64 t67_Agg_V_4, .slice t67_Valuesa t67_Valuesl t67_Valuesc] = some H5 ∧
 (match lookupv Ee H4 T_M_int_api_Report (.map t64) (.int .i64 t66) true with | some v => some v | none => none) = some (.tuple ⟨[.agg ⟨[.int .i64 t67_Job, .int .i64 t67_Epoch, .int .i64 t67_Step, .int .i64 t67_Phase, .int .i64 t67_Worker, .int .i64 t67_Err, .int .i64 t67_Sent, .int .i64 t67_Active, .int .i64 t67_Many, .bool t67_Agg_Has_0, .bool t67_Agg_Has_1, .bool t67_Agg_Has_2, .bool t67_Agg_Has_3, .bool t67_Agg_Has_4, .int .i64 t67_Agg_V_0, .int .i64 t67_Agg_V_1, .int .i64 t67_Agg_V_2, .int .i64 t67_Agg_V_3, .int .i64 t67_Agg_V_4, .slice t67_Valuesa t67_Valuesl t67_Valuesc]⟩, .bool t67ok]⟩) ∧
 H4.cell H.next 4 = some (.int .i64 t66) ∧
 H4.cell ((adr r11).block) ((adr r11).off + 16) = some (.map t64) ∧
 Q (.bool (!t67ok)) H5))))))))))))))))))
set_option maxRecDepth 100000 in
theorem fw_master_Master_Wants {m0b : Nat} {r1_Job : Int} {r1_Epoch : Int} {r1_Step : Int} {r1_Phase : Int} {r1_Worker : Int} {r1_Err : Int} {r1_Sent : Int} {r1_Active : Int} {r1_Many : Int} {r1_Agg_Has_0 : Bool} {r1_Agg_Has_1 : Bool} {r1_Agg_Has_2 : Bool} {r1_Agg_Has_3 : Bool} {r1_Agg_Has_4 : Bool} {r1_Agg_V_0 : Int} {r1_Agg_V_1 : Int} {r1_Agg_V_2 : Int} {r1_Agg_V_3 : Int} {r1_Agg_V_4 : Int} {r1_Valuesa : Option Addr} {r1_Valuesl : Nat} {r1_Valuesc : Nat} {H : AH} {Q : Value → AH → Prop} (h : VC_master_Master_Wants m0b r1_Job r1_Epoch r1_Step r1_Phase r1_Worker r1_Err r1_Sent r1_Active r1_Many r1_Agg_Has_0 r1_Agg_Has_1 r1_Agg_Has_2 r1_Agg_Has_3 r1_Agg_Has_4 r1_Agg_V_0 r1_Agg_V_1 r1_Agg_V_2 r1_Agg_V_3 r1_Agg_V_4 r1_Valuesa r1_Valuesl r1_Valuesc H Q) : FW Ee F_master_Master_Wants [.pointer (some ⟨m0b, 0, none⟩), .agg ⟨[.int .i64 r1_Job, .int .i64 r1_Epoch, .int .i64 r1_Step, .int .i64 r1_Phase, .int .i64 r1_Worker, .int .i64 r1_Err, .int .i64 r1_Sent, .int .i64 r1_Active, .int .i64 r1_Many, .bool r1_Agg_Has_0, .bool r1_Agg_Has_1, .bool r1_Agg_Has_2, .bool r1_Agg_Has_3, .bool r1_Agg_Has_4, .int .i64 r1_Agg_V_0, .int .i64 r1_Agg_V_1, .int .i64 r1_Agg_V_2, .int .i64 r1_Agg_V_3, .int .i64 r1_Agg_V_4, .slice r1_Valuesa r1_Valuesl r1_Valuesc]⟩] H Q := by
  have e : VC_master_Master_Wants m0b r1_Job r1_Epoch r1_Step r1_Phase r1_Worker r1_Err r1_Sent r1_Active r1_Many r1_Agg_Has_0 r1_Agg_Has_1 r1_Agg_Has_2 r1_Agg_Has_3 r1_Agg_Has_4 r1_Agg_V_0 r1_Agg_V_1 r1_Agg_V_2 r1_Agg_V_3 r1_Agg_V_4 r1_Valuesa r1_Valuesl r1_Valuesc H Q = wpF Ee ⟨[], []⟩ F_master_Master_Wants [.pointer (some ⟨m0b, 0, none⟩), .agg ⟨[.int .i64 r1_Job, .int .i64 r1_Epoch, .int .i64 r1_Step, .int .i64 r1_Phase, .int .i64 r1_Worker, .int .i64 r1_Err, .int .i64 r1_Sent, .int .i64 r1_Active, .int .i64 r1_Many, .bool r1_Agg_Has_0, .bool r1_Agg_Has_1, .bool r1_Agg_Has_2, .bool r1_Agg_Has_3, .bool r1_Agg_Has_4, .int .i64 r1_Agg_V_0, .int .i64 r1_Agg_V_1, .int .i64 r1_Agg_V_2, .int .i64 r1_Agg_V_3, .int .i64 r1_Agg_V_4, .slice r1_Valuesa r1_Valuesl r1_Valuesc]⟩] H Q := by kernel_rfl
  letI : Sy := sy0
  exact wpF_sound (Eq.mp e h)
/-- (*cohort/master.Master).report -/
def VC_master_Master_report (m0b : Nat) (r1_Job : Int) (r1_Epoch : Int) (r1_Step : Int) (r1_Phase : Int) (r1_Worker : Int) (r1_Err : Int) (r1_Sent : Int) (r1_Active : Int) (r1_Many : Int) (r1_Agg_Has_0 : Bool) (r1_Agg_Has_1 : Bool) (r1_Agg_Has_2 : Bool) (r1_Agg_Has_3 : Bool) (r1_Agg_Has_4 : Bool) (r1_Agg_V_0 : Int) (r1_Agg_V_1 : Int) (r1_Agg_V_2 : Int) (r1_Agg_V_3 : Int) (r1_Agg_V_4 : Int) (r1_Valuesa : Option Addr) (r1_Valuesl : Nat) (r1_Valuesc : Nat) (H : AH) (Q : Value → AH → Prop) : Prop :=
 ∀ (H1 : AH),
 H1 = H.new (.cells [.int .i64 r1_Job, .int .i64 r1_Epoch, .int .i64 r1_Step, .int .i64 r1_Phase, .int .i64 r1_Worker, .int .i64 r1_Err, .int .i64 r1_Sent, .int .i64 r1_Active, .int .i64 r1_Many, .bool r1_Agg_Has_0, .bool r1_Agg_Has_1, .bool r1_Agg_Has_2, .bool r1_Agg_Has_3, .bool r1_Agg_Has_4, .int .i64 r1_Agg_V_0, .int .i64 r1_Agg_V_1, .int .i64 r1_Agg_V_2, .int .i64 r1_Agg_V_3, .int .i64 r1_Agg_V_4, .slice r1_Valuesa r1_Valuesl r1_Valuesc] 0) →
 ∃ (t6_Job : Int) (t6_Epoch : Int) (t6_Step : Int) (t6_Phase : Int) (t6_Worker : Int) (t6_Err : Int) (t6_Sent : Int) (t6_Active : Int) (t6_Many : Int) (t6_Agg_Has_0 : Bool) (t6_Agg_Has_1 : Bool) (t6_Agg_Has_2 : Bool) (t6_Agg_Has_3 : Bool) (t6_Agg_Has_4 : Bool) (t6_Agg_V_0 : Int) (t6_Agg_V_1 : Int) (t6_Agg_V_2 : Int) (t6_Agg_V_3 : Int) (t6_Agg_V_4 : Int) (t6_Valuesa : Option Addr) (t6_Valuesl : Nat) (t6_Valuesc : Nat),
 H1.cell H.next (0 + 0) = some (.int .i64 t6_Job) ∧
 H1.cell H.next (0 + 1) = some (.int .i64 t6_Epoch) ∧
 H1.cell H.next (0 + 2) = some (.int .i64 t6_Step) ∧
 H1.cell H.next (0 + 3) = some (.int .i64 t6_Phase) ∧
 H1.cell H.next (0 + 4) = some (.int .i64 t6_Worker) ∧
 H1.cell H.next (0 + 5) = some (.int .i64 t6_Err) ∧
 H1.cell H.next (0 + 6) = some (.int .i64 t6_Sent) ∧
 H1.cell H.next (0 + 7) = some (.int .i64 t6_Active) ∧
 H1.cell H.next (0 + 8) = some (.int .i64 t6_Many) ∧
 H1.cell H.next (0 + 9) = some (.bool t6_Agg_Has_0) ∧
 H1.cell H.next (0 + 10) = some (.bool t6_Agg_Has_1) ∧
 H1.cell H.next (0 + 11) = some (.bool t6_Agg_Has_2) ∧
 H1.cell H.next (0 + 12) = some (.bool t6_Agg_Has_3) ∧
 H1.cell H.next (0 + 13) = some (.bool t6_Agg_Has_4) ∧
 H1.cell H.next (0 + 14) = some (.int .i64 t6_Agg_V_0) ∧
 H1.cell H.next (0 + 15) = some (.int .i64 t6_Agg_V_1) ∧
 H1.cell H.next (0 + 16) = some (.int .i64 t6_Agg_V_2) ∧
 H1.cell H.next (0 + 17) = some (.int .i64 t6_Agg_V_3) ∧
 H1.cell H.next (0 + 18) = some (.int .i64 t6_Agg_V_4) ∧
 H1.cell H.next (0 + 19) = some (.slice t6_Valuesa t6_Valuesl t6_Valuesc) ∧
 FW Ee F_master_Master_Wants [.pointer (some ⟨m0b, 0, none⟩), .agg ⟨[.int .i64 t6_Job, .int .i64 t6_Epoch, .int .i64 t6_Step, .int .i64 t6_Phase, .int .i64 t6_Worker, .int .i64 t6_Err, .int .i64 t6_Sent, .int .i64 t6_Active, .int .i64 t6_Many, .bool t6_Agg_Has_0, .bool t6_Agg_Has_1, .bool t6_Agg_Has_2, .bool t6_Agg_Has_3, .bool t6_Agg_Has_4, .int .i64 t6_Agg_V_0, .int .i64 t6_Agg_V_1, .int .i64 t6_Agg_V_2, .int .i64 t6_Agg_V_3, .int .i64 t6_Agg_V_4, .slice t6_Valuesa t6_Valuesl t6_Valuesc]⟩] H1 fun v H2 =>
 ∃ (r7 : Bool),
 v = .bool r7 ∧
 cond (!r7) (
 Q (.tuple ⟨[]⟩) H2) (
 FW Ee F_master_Master_current [.pointer (some ⟨m0b, 0, none⟩)] H2 fun v_1 H3 =>
 ∃ (r10 : Option Addr),
 v_1 = .pointer r10 ∧
 ∃ (t12a : Option Addr) (t12l : Nat) (t12c : Nat),
 H3.cell H.next 19 = some (.slice t12a t12l t12c) ∧
 FW Ee F_slices_Clone_L_api_Value_api_Value [.slice t12a t12l t12c] H3 fun v_2 H4 =>
 ∃ (r13a : Option Addr) (r13l : Nat) (r13c : Nat),
 v_2 = .slice r13a r13l r13c ∧
 ∃ (H5 : AH),
 storeCellsv H4 H.next 19 [.slice r13a r13l r13c] = some H5 ∧
 grd r10.isSome (
 grd r10.isSome (
 ∃ (t18 : Option Nat),
 H5.cell ((adr r10).block) ((adr r10).off + 16) = some (.map t18) ∧
 ∃ (t20 : Int),
 H5.cell H.next 4 = some (.int .i64 t20) ∧
 ∃ (t21_Job : Int) (t21_Epoch : Int) (t21_Step : Int) (t21_Phase : Int) (t21_Worker : Int) (t21_Err : Int) (t21_Sent : Int) (t21_Active : Int) (t21_Many : Int) (t21_Agg_Has_0 : Bool) (t21_Agg_Has_1 : Bool) (t21_Agg_Has_2 : Bool) (t21_Agg_Has_3 : Bool) (t21_Agg_Has_4 : Bool) (t21_Agg_V_0 : Int) (t21_Agg_V_1 : Int) (t21_Agg_V_2 : Int) (t21_Agg_V_3 : Int) (t21_Agg_V_4 : Int) (t21_Valuesa : Option Addr) (t21_Valuesl : Nat) (t21_Valuesc : Nat),
 H5.cell H.next (0 + 0) = some (.int .i64 t21_Job) ∧
 H5.cell H.next (0 + 1) = some (.int .i64 t21_Epoch) ∧
 H5.cell H.next (0 + 2) = some (.int .i64 t21_Step) ∧
 H5.cell H.next (0 + 3) = some (.int .i64 t21_Phase) ∧
 H5.cell H.next (0 + 4) = some (.int .i64 t21_Worker) ∧
 H5.cell H.next (0 + 5) = some (.int .i64 t21_Err) ∧
 H5.cell H.next (0 + 6) = some (.int .i64 t21_Sent) ∧
 H5.cell H.next (0 + 7) = some (.int .i64 t21_Active) ∧
 H5.cell H.next (0 + 8) = some (.int .i64 t21_Many) ∧
 H5.cell H.next (0 + 9) = some (.bool t21_Agg_Has_0) ∧
 H5.cell H.next (0 + 10) = some (.bool t21_Agg_Has_1) ∧
 H5.cell H.next (0 + 11) = some (.bool t21_Agg_Has_2) ∧
 H5.cell H.next (0 + 12) = some (.bool t21_Agg_Has_3) ∧
 H5.cell H.next (0 + 13) = some (.bool t21_Agg_Has_4) ∧
 H5.cell H.next (0 + 14) = some (.int .i64 t21_Agg_V_0) ∧
 H5.cell H.next (0 + 15) = some (.int .i64 t21_Agg_V_1) ∧
 H5.cell H.next (0 + 16) = some (.int .i64 t21_Agg_V_2) ∧
 H5.cell H.next (0 + 17) = some (.int .i64 t21_Agg_V_3) ∧
 H5.cell H.next (0 + 18) = some (.int .i64 t21_Agg_V_4) ∧
 H5.cell H.next (0 + 19) = some (.slice t21_Valuesa t21_Valuesl t21_Valuesc) ∧
 ∃ (H6 : AH),
 updatev Ee H5 T_M_int_api_Report (.map t18) (.int .i64 t20) (.agg ⟨[.int .i64 t21_Job, .int .i64 t21_Epoch, .int .i64 t21_Step, .int .i64 t21_Phase, .int .i64 t21_Worker, .int .i64 t21_Err, .int .i64 t21_Sent, .int .i64 t21_Active, .int .i64 t21_Many, .bool t21_Agg_Has_0, .bool t21_Agg_Has_1, .bool t21_Agg_Has_2, .bool t21_Agg_Has_3, .bool t21_Agg_Has_4, .int .i64 t21_Agg_V_0, .int .i64 t21_Agg_V_1, .int .i64 t21_Agg_V_2, .int .i64 t21_Agg_V_3, .int .i64 t21_Agg_V_4, .slice t21_Valuesa t21_Valuesl t21_Valuesc]⟩) = some H6 ∧
 grd r10.isSome (
 grd r10.isSome (
 ∃ (t25 : Option Nat),
 H6.cell ((adr r10).block) ((adr r10).off + 16) = some (.map t25) ∧
 ((
 t25 = none ∧
 grd r10.isSome (
 grd r10.isSome (
 ∃ (t30a : Option Addr) (t30l : Nat) (t30c : Nat),
 H6.cell ((adr r10).block) ((adr r10).off + 15) = some (.slice t30a t30l t30c) ∧
 FW Ee F_plan_Workers [.slice t30a t30l t30c] H6 fun v_3 H7 =>
 ∃ (r31a : Option Addr) (r31l : Nat) (r31c : Nat),
 v_3 = .slice r31a r31l r31c ∧
 cond (0 == (((r31l : Nat) : Int))) (
 FW Ee F_master_Master_ready [.pointer (some ⟨m0b, 0, none⟩), .pointer r10] H7 fun v_4 H8 =>
 v_4 = .tuple ⟨[]⟩ ∧
 Q (.tuple ⟨[]⟩) H8) (
 Q (.tuple ⟨[]⟩) H7)))) ∨ (
 ∃ (mb : Nat) (es : List MapEntry) (cl : Nat),
 t25 = some mb ∧
 H6.get mb = some (.map es cl) ∧
 grd r10.isSome (
 grd r10.isSome (
 ∃ (t30a_1 : Option Addr) (t30l_1 : Nat) (t30c_1 : Nat),
 H6.cell ((adr r10).block) ((adr r10).off + 15) = some (.slice t30a_1 t30l_1 t30c_1) ∧
 FW Ee F_plan_Workers [.slice t30a_1 t30l_1 t30c_1] H6 fun v_5 H9 =>
 ∃ (r31a_1 : Option Addr) (r31l_1 : Nat) (r31c_1 : Nat),
 v_5 = .slice r31a_1 r31l_1 r31c_1 ∧
 cond ((((es.length : Nat) : Int)) == (((r31l_1 : Nat) : Int))) (
 FW Ee F_master_Master_ready [.pointer (some ⟨m0b, 0, none⟩), .pointer r10] H9 fun v_6 H10 =>
 v_6 = .tuple ⟨[]⟩ ∧
 Q (.tuple ⟨[]⟩) H10) (
 Q (.tuple ⟨[]⟩) H9))))))))))
set_option maxRecDepth 100000 in
theorem fw_master_Master_report {m0b : Nat} {r1_Job : Int} {r1_Epoch : Int} {r1_Step : Int} {r1_Phase : Int} {r1_Worker : Int} {r1_Err : Int} {r1_Sent : Int} {r1_Active : Int} {r1_Many : Int} {r1_Agg_Has_0 : Bool} {r1_Agg_Has_1 : Bool} {r1_Agg_Has_2 : Bool} {r1_Agg_Has_3 : Bool} {r1_Agg_Has_4 : Bool} {r1_Agg_V_0 : Int} {r1_Agg_V_1 : Int} {r1_Agg_V_2 : Int} {r1_Agg_V_3 : Int} {r1_Agg_V_4 : Int} {r1_Valuesa : Option Addr} {r1_Valuesl : Nat} {r1_Valuesc : Nat} {H : AH} {Q : Value → AH → Prop} (h : VC_master_Master_report m0b r1_Job r1_Epoch r1_Step r1_Phase r1_Worker r1_Err r1_Sent r1_Active r1_Many r1_Agg_Has_0 r1_Agg_Has_1 r1_Agg_Has_2 r1_Agg_Has_3 r1_Agg_Has_4 r1_Agg_V_0 r1_Agg_V_1 r1_Agg_V_2 r1_Agg_V_3 r1_Agg_V_4 r1_Valuesa r1_Valuesl r1_Valuesc H Q) : FW Ee F_master_Master_report [.pointer (some ⟨m0b, 0, none⟩), .agg ⟨[.int .i64 r1_Job, .int .i64 r1_Epoch, .int .i64 r1_Step, .int .i64 r1_Phase, .int .i64 r1_Worker, .int .i64 r1_Err, .int .i64 r1_Sent, .int .i64 r1_Active, .int .i64 r1_Many, .bool r1_Agg_Has_0, .bool r1_Agg_Has_1, .bool r1_Agg_Has_2, .bool r1_Agg_Has_3, .bool r1_Agg_Has_4, .int .i64 r1_Agg_V_0, .int .i64 r1_Agg_V_1, .int .i64 r1_Agg_V_2, .int .i64 r1_Agg_V_3, .int .i64 r1_Agg_V_4, .slice r1_Valuesa r1_Valuesl r1_Valuesc]⟩] H Q := by
  have e : VC_master_Master_report m0b r1_Job r1_Epoch r1_Step r1_Phase r1_Worker r1_Err r1_Sent r1_Active r1_Many r1_Agg_Has_0 r1_Agg_Has_1 r1_Agg_Has_2 r1_Agg_Has_3 r1_Agg_Has_4 r1_Agg_V_0 r1_Agg_V_1 r1_Agg_V_2 r1_Agg_V_3 r1_Agg_V_4 r1_Valuesa r1_Valuesl r1_Valuesc H Q = wpF Ee ⟨[], []⟩ F_master_Master_report [.pointer (some ⟨m0b, 0, none⟩), .agg ⟨[.int .i64 r1_Job, .int .i64 r1_Epoch, .int .i64 r1_Step, .int .i64 r1_Phase, .int .i64 r1_Worker, .int .i64 r1_Err, .int .i64 r1_Sent, .int .i64 r1_Active, .int .i64 r1_Many, .bool r1_Agg_Has_0, .bool r1_Agg_Has_1, .bool r1_Agg_Has_2, .bool r1_Agg_Has_3, .bool r1_Agg_Has_4, .int .i64 r1_Agg_V_0, .int .i64 r1_Agg_V_1, .int .i64 r1_Agg_V_2, .int .i64 r1_Agg_V_3, .int .i64 r1_Agg_V_4, .slice r1_Valuesa r1_Valuesl r1_Valuesc]⟩] H Q := by kernel_rfl
  letI : Sy := sy0
  exact wpF_sound (Eq.mp e h)
end Go.Proofs.Cx

namespace Go.Proofs.Cx
open Go Go.Ev
set_option linter.unusedVariables false
set_option maxRecDepth 100000
set_option maxHeartbeats 8000000
end Go.Proofs.Cx
