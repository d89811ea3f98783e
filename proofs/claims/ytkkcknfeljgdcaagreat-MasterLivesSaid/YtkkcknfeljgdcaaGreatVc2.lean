/- What calls come to, as formulas: printed by a program. What calls come to, as formulas: printed by a program. What calls come to, as formulas: printed by a program. What calls come to, as formulas: printed by a program. What calls come to, as formulas: printed by a program. -/
import Derived.Test.YtkkcknfeljgdcaaGreatVc0
namespace Go.Proofs.Cx
open Go Go.Ev
set_option linter.unusedVariables false
set_option maxRecDepth 100000
set_option maxHeartbeats 8000000
end Go.Proofs.Cx

namespace Go.Proofs.Cx
open Go Go.Ev
set_option linter.unusedVariables false
set_option maxRecDepth 100000
set_option maxHeartbeats 8000000
/-- cohort/sess.New -/
def VC_sess_New  (H : AH) (Q : Value → AH → Prop) : Prop :=
 ∀ (H1 : AH),
 H1 = H.new (.map [] 0) →
 ∀ (H2 : AH),
 H2 = H1.new (.cells [.map (some H.next)] 0) →
 Q (.pointer (some ⟨H1.next, 0, none⟩)) H2
set_option maxRecDepth 100000 in
theorem fw_sess_New  {H : AH} {Q : Value → AH → Prop} (h : VC_sess_New  H Q) : FW Ee F_sess_New [] H Q := by
  have e : VC_sess_New  H Q = wpF Ee ⟨[], []⟩ F_sess_New [] H Q := by kernel_rfl
  letI : Sy := sy0
  exact wpF_sound (Eq.mp e h)
/-- cohort/master.New -/
def VC_master_New  (H : AH) (Q : Value → AH → Prop) : Prop :=
 FW Ee F_sess_New [] H fun v H1 =>
 ∃ (r1 : Option Addr),
 v = .pointer r1 ∧
 ∀ (H2 : AH),
 H2 = H1.new (.map [] 0) →
 ∀ (H3 : AH),
 H3 = H2.new (.map [] 0) →
 ∀ (H4 : AH),
 H4 = H3.new (.cells [.pointer r1, .map (some H1.next), .map (some H2.next), .int .i64 0, .int .i64 0] 0) →
 Q (.pointer (some ⟨H3.next, 0, none⟩)) H4
set_option maxRecDepth 100000 in
theorem fw_master_New  {H : AH} {Q : Value → AH → Prop} (h : VC_master_New  H Q) : FW Ee F_master_New [] H Q := by
  have e : VC_master_New  H Q = wpF Ee ⟨[], []⟩ F_master_New [] H Q := by kernel_rfl
  letI : Sy := sy0
  exact wpF_sound (Eq.mp e h)
/-- maps.Keys[map[int]int,int,int] -/
def VC_maps_Keys_map_int_int_int_int (m0 : Option Nat) (H : AH) (Q : Value → AH → Prop) : Prop :=
 ∀ (H1 : AH),
 H1 = H.new (.cells [.map m0] 0) →
 Q (.func (.func F_maps_Keys_map_int_int_int_int_1) ⟨[]⟩ ⟨[.pointer (some ⟨H.next, 0, none⟩)]⟩) H1
set_option maxRecDepth 100000 in
theorem fw_maps_Keys_map_int_int_int_int {m0 : Option Nat} {H : AH} {Q : Value → AH → Prop} (h : VC_maps_Keys_map_int_int_int_int m0 H Q) : FW Ee F_maps_Keys_map_int_int_int_int [.map m0] H Q := by
  have e : VC_maps_Keys_map_int_int_int_int m0 H Q = wpF Ee ⟨[], []⟩ F_maps_Keys_map_int_int_int_int [.map m0] H Q := by kernel_rfl
  letI : Sy := sy0
  exact wpF_sound (Eq.mp e h)
/-- maps.Keys[map[int]*cohort/master.job,int,*cohort/master.job] -/
def VC_maps_Keys_map_int_P_master_job_int_P_master_job (m0 : Option Nat) (H : AH) (Q : Value → AH → Prop) : Prop :=
 ∀ (H1 : AH),
 H1 = H.new (.cells [.map m0] 0) →
 Q (.func (.func F_maps_Keys_map_int_P_master_job_int_P_master_job_1) ⟨[]⟩ ⟨[.pointer (some ⟨H.next, 0, none⟩)]⟩) H1
set_option maxRecDepth 100000 in
theorem fw_maps_Keys_map_int_P_master_job_int_P_master_job {m0 : Option Nat} {H : AH} {Q : Value → AH → Prop} (h : VC_maps_Keys_map_int_P_master_job_int_P_master_job m0 H Q) : FW Ee F_maps_Keys_map_int_P_master_job_int_P_master_job [.map m0] H Q := by
  have e : VC_maps_Keys_map_int_P_master_job_int_P_master_job m0 H Q = wpF Ee ⟨[], []⟩ F_maps_Keys_map_int_P_master_job_int_P_master_job [.map m0] H Q := by kernel_rfl
  letI : Sy := sy0
  exact wpF_sound (Eq.mp e h)
/-- (*cohort/master.Master).Workers -/
def VC_master_Master_Workers (m0b : Nat) (H : AH) (Q : Value → AH → Prop) : Prop :=
 ∃ (t8 : Option Nat),
 H.cell m0b 2 = some (.map t8) ∧
 FW Ee F_maps_Keys_map_int_int_int_int [.map t8] H fun v H1 =>
 ∃ (r9 : Value),
 v = r9 ∧
 FW Ee F_slices_Sorted_int [r9] H1 fun v_1 H2 =>
 ∃ (r10a : Option Addr) (r10l : Nat) (r10c : Nat),
 v_1 = .slice r10a r10l r10c ∧
 Q (.slice r10a r10l r10c) H2
set_option maxRecDepth 100000 in
theorem fw_master_Master_Workers {m0b : Nat} {H : AH} {Q : Value → AH → Prop} (h : VC_master_Master_Workers m0b H Q) : FW Ee F_master_Master_Workers [.pointer (some ⟨m0b, 0, none⟩)] H Q := by
  have e : VC_master_Master_Workers m0b H Q = wpF Ee ⟨[], []⟩ F_master_Master_Workers [.pointer (some ⟨m0b, 0, none⟩)] H Q := by kernel_rfl
  letI : Sy := sy0
  exact wpF_sound (Eq.mp e h)
/-- (*cohort/master.Master).ids -/
def VC_master_Master_ids (m0b : Nat) (H : AH) (Q : Value → AH → Prop) : Prop :=
 ∃ (t6 : Option Nat),
 H.cell m0b 1 = some (.map t6) ∧
 FW Ee F_maps_Keys_map_int_P_master_job_int_P_master_job [.map t6] H fun v H1 =>
 ∃ (r7 : Value),
 v = r7 ∧
 FW Ee F_slices_Sorted_int [r7] H1 fun v_1 H2 =>
 ∃ (r8a : Option Addr) (r8l : Nat) (r8c : Nat),
 v_1 = .slice r8a r8l r8c ∧
 Q (.slice r8a r8l r8c) H2
set_option maxRecDepth 100000 in
theorem fw_master_Master_ids {m0b : Nat} {H : AH} {Q : Value → AH → Prop} (h : VC_master_Master_ids m0b H Q) : FW Ee F_master_Master_ids [.pointer (some ⟨m0b, 0, none⟩)] H Q := by
  have e : VC_master_Master_ids m0b H Q = wpF Ee ⟨[], []⟩ F_master_Master_ids [.pointer (some ⟨m0b, 0, none⟩)] H Q := by kernel_rfl
  letI : Sy := sy0
  exact wpF_sound (Eq.mp e h)
/-- (*cohort/master.Master).current -/
def VC_master_Master_current (m0b : Nat) (H : AH) (Q : Value → AH → Prop) : Prop :=
 FW Ee F_master_Master_ids [.pointer (some ⟨m0b, 0, none⟩)] H fun v H1 =>
 ∃ (r6a : Option Addr) (r6l : Nat) (r6c : Nat),
 v = .slice r6a r6l r6c ∧
 ∃ (Inv : Nat → Option Addr → Int → AH → Prop),
 (
 ∃ (n_1 : Nat),
 Inv n_1 none 0 H1) ∧
 ∀ (n : Nat),
 ∀ (t2 : Option Addr) (t8 : Int) (H2 : AH),
 Inv n t2 t8 H2 →
 cond (decide (t8 < (((r6l : Nat) : Int)))) (
 grd r6a.isSome (
 (0 : Int) ≤ t8 ∧
 (t8 : Int) < ((r6l : Nat) : Int) ∧
 ∃ (t11 : Int),
 H2.cell ((adr r6a).block) ((adr r6a).off + (t8 : Int).toNat * 1) = some (.int .i64 t11) ∧
 ∃ (t15 : Option Nat),
 H2.cell m0b 1 = some (.map t15) ∧
 ∃ (t17 : Option Addr),
 lookupv Ee H2 T_M_int_P_master_job (.map t15) (.int .i64 t11) false = some (.pointer t17) ∧
 grd t17.isSome (
 grd t17.isSome (
 ∃ (t20 : Int),
 H2.cell ((adr t17).block) ((adr t17).off + 7) = some (.int .i64 t20) ∧
 cond (t20 == 2) (
 ∃ (t25 : Option Nat),
 H2.cell m0b 1 = some (.map t25) ∧
 ∃ (t27 : Option Addr),
 lookupv Ee H2 T_M_int_P_master_job (.map t25) (.int .i64 t11) false = some (.pointer t27) ∧
 Q (.pointer t27) H2) (
 ∀ (t28 : Int),
 t28 = IntKind.i64.wrap (t8 + 1) →
 ∃ (m : Nat),
 m < n ∧
 Inv m t2 t28 H2))))) (
 Q (.pointer none) H2)
set_option maxRecDepth 100000 in
theorem fw_master_Master_current {m0b : Nat} {H : AH} {Q : Value → AH → Prop} (h : VC_master_Master_current m0b H Q) : FW Ee F_master_Master_current [.pointer (some ⟨m0b, 0, none⟩)] H Q := by
  have e : VC_master_Master_current m0b H Q = wpF Ee ⟨[], []⟩ F_master_Master_current [.pointer (some ⟨m0b, 0, none⟩)] H Q := by kernel_rfl
  letI : Sy := sy0
  exact wpF_sound (Eq.mp e h)
/-- (*cohort/master.Master).Life -/
def VC_master_Master_Life (m0b : Nat) (worker1 : Int) (H : AH) (Q : Value → AH → Prop) : Prop :=
 ∃ (t14 : Option Nat),
 H.cell m0b 2 = some (.map t14) ∧
 ∃ (t16 : Int) (t16ok : Bool),
 lookupv Ee H T_M_int_int (.map t14) (.int .i64 worker1) true = some (.tuple ⟨[.int .i64 t16, .bool t16ok]⟩) ∧
 Q (.tuple ⟨[.int .i64 t16, .bool t16ok]⟩) H
set_option maxRecDepth 100000 in
theorem fw_master_Master_Life {m0b : Nat} {worker1 : Int} {H : AH} {Q : Value → AH → Prop} (h : VC_master_Master_Life m0b worker1 H Q) : FW Ee F_master_Master_Life [.pointer (some ⟨m0b, 0, none⟩), .int .i64 worker1] H Q := by
  have e : VC_master_Master_Life m0b worker1 H Q = wpF Ee ⟨[], []⟩ F_master_Master_Life [.pointer (some ⟨m0b, 0, none⟩), .int .i64 worker1] H Q := by kernel_rfl
  letI : Sy := sy0
  exact wpF_sound (Eq.mp e h)
/-- (*cohort/master.Master).start -/
def VC_master_Master_start (m0b : Nat) (H : AH) (Q : Value → AH → Prop) : Prop :=
 ∃ (t8 : Option Nat),
 H.cell m0b 2 = some (.map t8) ∧
 ((
 t8 = none ∧
 cond ((0 : Int) == 0) (
 Q (.tuple ⟨[]⟩) H) (
 FW Ee F_master_Master_current [.pointer (some ⟨m0b, 0, none⟩)] H fun v H1 =>
 ∃ (r12 : Option Addr),
 v = .pointer r12 ∧
 cond (!r12.isNone) (
 grd r12.isSome (
 grd r12.isSome (
 ∃ (t18a : Option Addr) (t18l : Nat) (t18c : Nat),
 H1.cell ((adr r12).block) ((adr r12).off + 15) = some (.slice t18a t18l t18c) ∧
 cond ((((t18l : Nat) : Int)) == 0) (
 FW Ee F_master_Master_begin [.pointer (some ⟨m0b, 0, none⟩), .pointer r12] H1 fun v_1 H2 =>
 v_1 = .tuple ⟨[]⟩ ∧
 Q (.tuple ⟨[]⟩) H2) (
 Q (.tuple ⟨[]⟩) H1)))) (
 FW Ee F_master_Master_ids [.pointer (some ⟨m0b, 0, none⟩)] H1 fun v_2 H3 =>
 ∃ (r25a : Option Addr) (r25l : Nat) (r25c : Nat),
 v_2 = .slice r25a r25l r25c ∧
 ∃ (Inv : Nat → Int → AH → Prop),
 (
 ∃ (n_1 : Nat),
 Inv n_1 0 H3) ∧
 ∀ (n : Nat),
 ∀ (t27 : Int) (H4 : AH),
 Inv n t27 H4 →
 cond (decide (t27 < (((r25l : Nat) : Int)))) (
 grd r25a.isSome (
 (0 : Int) ≤ t27 ∧
 (t27 : Int) < ((r25l : Nat) : Int) ∧
 ∃ (t30 : Int),
 H4.cell ((adr r25a).block) ((adr r25a).off + (t27 : Int).toNat * 1) = some (.int .i64 t30) ∧
 ∃ (t34 : Option Nat),
 H4.cell m0b 1 = some (.map t34) ∧
 ∃ (t36 : Option Addr),
 lookupv Ee H4 T_M_int_P_master_job (.map t34) (.int .i64 t30) false = some (.pointer t36) ∧
 grd t36.isSome (
 grd t36.isSome (
 ∃ (t39 : Int),
 H4.cell ((adr t36).block) ((adr t36).off + 7) = some (.int .i64 t39) ∧
 cond (t39 == 1) (
 ∃ (t45 : Option Nat),
 H4.cell m0b 1 = some (.map t45) ∧
 ∃ (t47 : Option Addr),
 lookupv Ee H4 T_M_int_P_master_job (.map t45) (.int .i64 t30) false = some (.pointer t47) ∧
 FW Ee F_master_Master_begin [.pointer (some ⟨m0b, 0, none⟩), .pointer t47] H4 fun v_3 H5 =>
 v_3 = .tuple ⟨[]⟩ ∧
 Q (.tuple ⟨[]⟩) H5) (
 ∀ (t49 : Int),
 t49 = IntKind.i64.wrap (t27 + 1) →
 ∃ (m : Nat),
 m < n ∧
 Inv m t49 H4))))) (
 Q (.tuple ⟨[]⟩) H4)))) ∨ (
 ∃ (mb : Nat) (es : List MapEntry) (cl : Nat),
 t8 = some mb ∧
 H.get mb = some (.map es cl) ∧
 cond ((((es.length : Nat) : Int)) == 0) (
 Q (.tuple ⟨[]⟩) H) (
 FW Ee F_master_Master_current [.pointer (some ⟨m0b, 0, none⟩)] H fun v_4 H6 =>
 ∃ (r12_1 : Option Addr),
 v_4 = .pointer r12_1 ∧
 cond (!r12_1.isNone) (
 grd r12_1.isSome (
 grd r12_1.isSome (
 ∃ (t18a_1 : Option Addr) (t18l_1 : Nat) (t18c_1 : Nat),
 H6.cell ((adr r12_1).block) ((adr r12_1).off + 15) = some (.slice t18a_1 t18l_1 t18c_1) ∧
 cond ((((t18l_1 : Nat) : Int)) == 0) (
 FW Ee F_master_Master_begin [.pointer (some ⟨m0b, 0, none⟩), .pointer r12_1] H6 fun v_5 H7 =>
 v_5 = .tuple ⟨[]⟩ ∧
 Q (.tuple ⟨[]⟩) H7) (
 Q (.tuple ⟨[]⟩) H6)))) (
 FW Ee F_master_Master_ids [.pointer (some ⟨m0b, 0, none⟩)] H6 fun v_6 H8 =>
 ∃ (r25a_1 : Option Addr) (r25l_1 : Nat) (r25c_1 : Nat),
 v_6 = .slice r25a_1 r25l_1 r25c_1 ∧
 ∃ (Inv_1 : Nat → Int → AH → Prop),
 (
 ∃ (n_3 : Nat),
 Inv_1 n_3 0 H8) ∧
 ∀ (n_2 : Nat),
 ∀ (t27_1 : Int) (H9 : AH),
 Inv_1 n_2 t27_1 H9 →
 cond (decide (t27_1 < (((r25l_1 : Nat) : Int)))) (
 grd r25a_1.isSome (
 (0 : Int) ≤ t27_1 ∧
 (t27_1 : Int) < ((r25l_1 : Nat) : Int) ∧
 ∃ (t30_1 : Int),
 H9.cell ((adr r25a_1).block) ((adr r25a_1).off + (t27_1 : Int).toNat * 1) = some (.int .i64 t30_1) ∧
 ∃ (t34_1 : Option Nat),
 H9.cell m0b 1 = some (.map t34_1) ∧
 ∃ (t36_1 : Option Addr),
 lookupv Ee H9 T_M_int_P_master_job (.map t34_1) (.int .i64 t30_1) false = some (.pointer t36_1) ∧
 grd t36_1.isSome (
 grd t36_1.isSome (
 ∃ (t39_1 : Int),
 H9.cell ((adr t36_1).block) ((adr t36_1).off + 7) = some (.int .i64 t39_1) ∧
 cond (t39_1 == 1) (
 ∃ (t45_1 : Option Nat),
 H9.cell m0b 1 = some (.map t45_1) ∧
 ∃ (t47_1 : Option Addr),
 lookupv Ee H9 T_M_int_P_master_job (.map t45_1) (.int .i64 t30_1) false = some (.pointer t47_1) ∧
 FW Ee F_master_Master_begin [.pointer (some ⟨m0b, 0, none⟩), .pointer t47_1] H9 fun v_7 H10 =>
 v_7 = .tuple ⟨[]⟩ ∧
 Q (.tuple ⟨[]⟩) H10) (
 ∀ (t49_1 : Int),
 t49_1 = IntKind.i64.wrap (t27_1 + 1) →
 ∃ (m_1 : Nat),
 m_1 < n_2 ∧
 Inv_1 m_1 t49_1 H9))))) (
 Q (.tuple ⟨[]⟩) H9)))))
set_option maxRecDepth 100000 in
theorem fw_master_Master_start {m0b : Nat} {H : AH} {Q : Value → AH → Prop} (h : VC_master_Master_start m0b H Q) : FW Ee F_master_Master_start [.pointer (some ⟨m0b, 0, none⟩)] H Q := by
  have e : VC_master_Master_start m0b H Q = wpF Ee ⟨[], []⟩ F_master_Master_start [.pointer (some ⟨m0b, 0, none⟩)] H Q := by kernel_rfl
  letI : Sy := sy0
  exact wpF_sound (Eq.mp e h)
/-- (*cohort/master.Master).lose -/
def VC_master_Master_lose (m0b : Nat) (worker1 : Int) (H : AH) (Q : Value → AH → Prop) : Prop :=
 ∃ (t8 : Option Nat),
 H.cell m0b 2 = some (.map t8) ∧
 ∃ (v : Value) (H1 : AH),
 deletev Ee H [T_M_int_int, T_int] (.map t8) (.int .i64 worker1) = some (v, H1) ∧
 FW Ee F_master_Master_current [.pointer (some ⟨m0b, 0, none⟩)] H1 fun v_1 H2 =>
 ∃ (r11 : Option Addr),
 v_1 = .pointer r11 ∧
 cond (r11.isNone) (
 Q (.tuple ⟨[]⟩) H2) (
 grd r11.isSome (
 grd r11.isSome (
 ∃ (t18a : Option Addr) (t18l : Nat) (t18c : Nat),
 H2.cell ((adr r11).block) ((adr r11).off + 15) = some (.slice t18a t18l t18c) ∧
 FW Ee F_slices_Contains_L_int_int [.slice t18a t18l t18c, .int .i64 worker1] H2 fun v_2 H3 =>
 ∃ (r20 : Bool),
 v_2 = .bool r20 ∧
 cond (!r20) (
 Q (.tuple ⟨[]⟩) H3) (
 ∃ (t26 : Option Nat),
 H3.cell m0b 2 = some (.map t26) ∧
 ((
 t26 = none ∧
 cond ((0 : Int) == 0) (
 ∀ (H4 : AH),
 H4 = H3.new (.map [] 0) →
 grd r11.isSome (
 grd r11.isSome (
 ∃ (H5 : AH),
 storeCellsv H4 ((adr r11).block) ((adr r11).off + 15) [.slice none 0 0] = some H5 ∧
 grd r11.isSome (
 grd r11.isSome (
 ∃ (H6 : AH),
 storeCellsv H5 ((adr r11).block) ((adr r11).off + 16) [.map (some H3.next)] = some H6 ∧
 Q (.tuple ⟨[]⟩) H6))))) (
 FW Ee F_master_Master_begin [.pointer (some ⟨m0b, 0, none⟩), .pointer r11] H3 fun v_3 H7 =>
 v_3 = .tuple ⟨[]⟩ ∧
 Q (.tuple ⟨[]⟩) H7)) ∨ (
 ∃ (mb : Nat) (es : List MapEntry) (cl : Nat),
 t26 = some mb ∧
 H3.get mb = some (.map es cl) ∧
 cond ((((es.length : Nat) : Int)) == 0) (
 ∀ (H8 : AH),
 H8 = H3.new (.map [] 0) →
 grd r11.isSome (
 grd r11.isSome (
 ∃ (H9 : AH),
 storeCellsv H8 ((adr r11).block) ((adr r11).off + 15) [.slice none 0 0] = some H9 ∧
 grd r11.isSome (
 grd r11.isSome (
 ∃ (H10 : AH),
 storeCellsv H9 ((adr r11).block) ((adr r11).off + 16) [.map (some H3.next)] = some H10 ∧
 Q (.tuple ⟨[]⟩) H10))))) (
 FW Ee F_master_Master_begin [.pointer (some ⟨m0b, 0, none⟩), .pointer r11] H3 fun v_4 H11 =>
 v_4 = .tuple ⟨[]⟩ ∧
 Q (.tuple ⟨[]⟩) H11)))))))
set_option maxRecDepth 100000 in
theorem fw_master_Master_lose {m0b : Nat} {worker1 : Int} {H : AH} {Q : Value → AH → Prop} (h : VC_master_Master_lose m0b worker1 H Q) : FW Ee F_master_Master_lose [.pointer (some ⟨m0b, 0, none⟩), .int .i64 worker1] H Q := by
  have e : VC_master_Master_lose m0b worker1 H Q = wpF Ee ⟨[], []⟩ F_master_Master_lose [.pointer (some ⟨m0b, 0, none⟩), .int .i64 worker1] H Q := by kernel_rfl
  letI : Sy := sy0
  exact wpF_sound (Eq.mp e h)
/-- (*cohort/master.Master).join -/
def VC_master_Master_join (m0b : Nat) (worker1 : Int) (life2 : Int) (H : AH) (Q : Value → AH → Prop) : Prop :=
 ∃ (t12 : Option Nat),
 H.cell m0b 2 = some (.map t12) ∧
 ∃ (t14 : Int) (t14ok : Bool),
 lookupv Ee H T_M_int_int (.map t12) (.int .i64 worker1) true = some (.tuple ⟨[.int .i64 t14, .bool t14ok]⟩) ∧
 cond (t14ok) (
 cond (decide (life2 ≤ t14)) (
 Q (.tuple ⟨[]⟩) H) (
 cond (decide (worker1 < 0)) (
 Q (.tuple ⟨[]⟩) H) (
 cond (decide (worker1 ≥ 64)) (
 Q (.tuple ⟨[]⟩) H) (
 cond (t14ok) (
 FW Ee F_master_Master_lose [.pointer (some ⟨m0b, 0, none⟩), .int .i64 worker1] H fun v H1 =>
 v = .tuple ⟨[]⟩ ∧
 ∃ (t38 : Option Nat),
 H1.cell m0b 2 = some (.map t38) ∧
 ∃ (H2 : AH),
 updatev Ee H1 T_M_int_int (.map t38) (.int .i64 worker1) (.int .i64 life2) = some H2 ∧
 FW Ee F_master_Master_start [.pointer (some ⟨m0b, 0, none⟩)] H2 fun v_1 H3 =>
 v_1 = .tuple ⟨[]⟩ ∧
 Q (.tuple ⟨[]⟩) H3) (
 ∃ (t38_1 : Option Nat),
 H.cell m0b 2 = some (.map t38_1) ∧
 ∃ (H4 : AH),
 updatev Ee H T_M_int_int (.map t38_1) (.int .i64 worker1) (.int .i64 life2) = some H4 ∧
 FW Ee F_master_Master_start [.pointer (some ⟨m0b, 0, none⟩)] H4 fun v_2 H5 =>
 v_2 = .tuple ⟨[]⟩ ∧
 Q (.tuple ⟨[]⟩) H5))))) (
 cond (decide (worker1 < 0)) (
 Q (.tuple ⟨[]⟩) H) (
 cond (decide (worker1 ≥ 64)) (
 Q (.tuple ⟨[]⟩) H) (
 cond (t14ok) (
 FW Ee F_master_Master_lose [.pointer (some ⟨m0b, 0, none⟩), .int .i64 worker1] H fun v_3 H6 =>
 v_3 = .tuple ⟨[]⟩ ∧
 ∃ (t38_2 : Option Nat),
 H6.cell m0b 2 = some (.map t38_2) ∧
 ∃ (H7 : AH),
 updatev Ee H6 T_M_int_int (.map t38_2) (.int .i64 worker1) (.int .i64 life2) = some H7 ∧
 FW Ee F_master_Master_start [.pointer (some ⟨m0b, 0, none⟩)] H7 fun v_4 H8 =>
 v_4 = .tuple ⟨[]⟩ ∧
 Q (.tuple ⟨[]⟩) H8) (
 ∃ (t38_3 : Option Nat),
 H.cell m0b 2 = some (.map t38_3) ∧
 ∃ (H9 : AH),
 updatev Ee H T_M_int_int (.map t38_3) (.int .i64 worker1) (.int .i64 life2) = some H9 ∧
 FW Ee F_master_Master_start [.pointer (some ⟨m0b, 0, none⟩)] H9 fun v_5 H10 =>
 v_5 = .tuple ⟨[]⟩ ∧
 Q (.tuple ⟨[]⟩) H10))))
set_option maxRecDepth 100000 in
theorem fw_master_Master_join {m0b : Nat} {worker1 : Int} {life2 : Int} {H : AH} {Q : Value → AH → Prop} (h : VC_master_Master_join m0b worker1 life2 H Q) : FW Ee F_master_Master_join [.pointer (some ⟨m0b, 0, none⟩), .int .i64 worker1, .int .i64 life2] H Q := by
  have e : VC_master_Master_join m0b worker1 life2 H Q = wpF Ee ⟨[], []⟩ F_master_Master_join [.pointer (some ⟨m0b, 0, none⟩), .int .i64 worker1, .int .i64 life2] H Q := by kernel_rfl
  letI : Sy := sy0
  exact wpF_sound (Eq.mp e h)
/-- (*cohort/master.Master).Apply -/
def VC_master_Master_Apply (m0b : Nat) (c1_Kind : Int) (c1_Session : Int) (c1_Seq : Int) (c1_S : List UInt8) (c1_ID : Int) (c1_Worker : Int) (c1_Life : Int) (c1_Report_Job : Int) (c1_Report_Epoch : Int) (c1_Report_Step : Int) (c1_Report_Phase : Int) (c1_Report_Worker : Int) (c1_Report_Err : Int) (c1_Report_Sent : Int) (c1_Report_Active : Int) (c1_Report_Many : Int) (c1_Report_Agg_Has_0 : Bool) (c1_Report_Agg_Has_1 : Bool) (c1_Report_Agg_Has_2 : Bool) (c1_Report_Agg_Has_3 : Bool) (c1_Report_Agg_Has_4 : Bool) (c1_Report_Agg_V_0 : Int) (c1_Report_Agg_V_1 : Int) (c1_Report_Agg_V_2 : Int) (c1_Report_Agg_V_3 : Int) (c1_Report_Agg_V_4 : Int) (c1_Report_Valuesa : Option Addr) (c1_Report_Valuesl : Nat) (c1_Report_Valuesc : Nat) (H : AH) (Q : Value → AH → Prop) : Prop :=
 ∀ (H1 : AH),
 H1 = H.new (.cells [.pointer (some ⟨m0b, 0, none⟩)] 0) →
 ∀ (H2 : AH),
 H2 = H1.new (.cells [.int .i64 c1_Kind, .int .i64 c1_Session, .int .i64 c1_Seq, .string ⟨⟨c1_S⟩⟩, .int .i64 c1_ID, .int .i64 c1_Worker, .int .i64 c1_Life, .int .i64 c1_Report_Job, .int .i64 c1_Report_Epoch, .int .i64 c1_Report_Step, .int .i64 c1_Report_Phase, .int .i64 c1_Report_Worker, .int .i64 c1_Report_Err, .int .i64 c1_Report_Sent, .int .i64 c1_Report_Active, .int .i64 c1_Report_Many, .bool c1_Report_Agg_Has_0, .bool c1_Report_Agg_Has_1, .bool c1_Report_Agg_Has_2, .bool c1_Report_Agg_Has_3, .bool c1_Report_Agg_Has_4, .int .i64 c1_Report_Agg_V_0, .int .i64 c1_Report_Agg_V_1, .int .i64 c1_Report_Agg_V_2, .int .i64 c1_Report_Agg_V_3, .int .i64 c1_Report_Agg_V_4, .slice c1_Report_Valuesa c1_Report_Valuesl c1_Report_Valuesc] 0) →
 ∀ (H3 : AH),
 H3 = H2.new (.cells [.int .i64 0, .int .i64 0] 0) →
 ∃ (t11 : Option Addr),
 H3.cell H.next 0 = some (.pointer t11) ∧
 cond (t11.isNone) (
 ∃ (H4 : AH),
 storeCellsv H3 H2.next 0 [.int .i64 0, .int .i64 0] = some H4 ∧
 ∃ (r4_Err : Int) (r4_ID : Int),
 H4.cell H2.next (0 + 0) = some (.int .i64 r4_Err) ∧
 H4.cell H2.next (0 + 1) = some (.int .i64 r4_ID) ∧
 Q (.tuple ⟨[.agg ⟨[.int .i64 r4_Err, .int .i64 r4_ID]⟩, .int .i64 1]⟩) H4) (
 ∃ (t15 : Int),
 H3.cell H1.next 0 = some (.int .i64 t15) ∧
 cond (t15 == 1) (
 ∃ (t21 : Option Addr),
 H3.cell H.next 0 = some (.pointer t21) ∧
 grd t21.isSome (
 grd t21.isSome (
 ∃ (t24 : Option Addr),
 H3.cell ((adr t21).block) ((adr t21).off) = some (.pointer t24) ∧
 ∃ (t26 : Int),
 H3.cell H1.next 1 = some (.int .i64 t26) ∧
 ∃ (t28 : Int),
 H3.cell H1.next 2 = some (.int .i64 t28) ∧
 FW Ee F_sess_Table_Do [.pointer t24, .int .i64 t26, .int .i64 t28, .func (.func F_master_Master_Apply_1) ⟨[]⟩ ⟨[.pointer (some ⟨H1.next, 0, none⟩), .pointer (some ⟨H.next, 0, none⟩)]⟩] H3 fun v H5 =>
 ∃ (r30_0 : List UInt8) (r30_1 : Bool) (r30_2 : Int),
 v = .tuple ⟨[.string ⟨⟨r30_0⟩⟩, .bool r30_1, .int .i64 r30_2]⟩ ∧
 cond (r30_2 != 0) (
 ∃ (H6 : AH),
 storeCellsv H5 H2.next 0 [.int .i64 0, .int .i64 0] = some H6 ∧
 ∃ (r4_Err_1 : Int) (r4_ID_1 : Int),
 H6.cell H2.next (0 + 0) = some (.int .i64 r4_Err_1) ∧
 H6.cell H2.next (0 + 1) = some (.int .i64 r4_ID_1) ∧
 Q (.tuple ⟨[.agg ⟨[.int .i64 r4_Err_1, .int .i64 r4_ID_1]⟩, .int .i64 r30_2]⟩) H6) (
 FW Ee F_master_replyOf [.string ⟨⟨r30_0⟩⟩] H5 fun v_1 H7 =>
 ∃ (r39_Err : Int) (r39_ID : Int),
 v_1 = .agg ⟨[.int .i64 r39_Err, .int .i64 r39_ID]⟩ ∧
 ∃ (H8 : AH),
 storeCellsv H7 H2.next 0 [.int .i64 r39_Err, .int .i64 r39_ID] = some H8 ∧
 ∃ (r4_Err_2 : Int) (r4_ID_2 : Int),
 H8.cell H2.next (0 + 0) = some (.int .i64 r4_Err_2) ∧
 H8.cell H2.next (0 + 1) = some (.int .i64 r4_ID_2) ∧
 Q (.tuple ⟨[.agg ⟨[.int .i64 r4_Err_2, .int .i64 r4_ID_2]⟩, .int .i64 0]⟩) H8)))) (
 cond (t15 == 2) (
 ∃ (t21_1 : Option Addr),
 H3.cell H.next 0 = some (.pointer t21_1) ∧
 grd t21_1.isSome (
 grd t21_1.isSome (
 ∃ (t24_1 : Option Addr),
 H3.cell ((adr t21_1).block) ((adr t21_1).off) = some (.pointer t24_1) ∧
 ∃ (t26_1 : Int),
 H3.cell H1.next 1 = some (.int .i64 t26_1) ∧
 ∃ (t28_1 : Int),
 H3.cell H1.next 2 = some (.int .i64 t28_1) ∧
 FW Ee F_sess_Table_Do [.pointer t24_1, .int .i64 t26_1, .int .i64 t28_1, .func (.func F_master_Master_Apply_1) ⟨[]⟩ ⟨[.pointer (some ⟨H1.next, 0, none⟩), .pointer (some ⟨H.next, 0, none⟩)]⟩] H3 fun v_2 H9 =>
 ∃ (r30_0_1 : List UInt8) (r30_1_1 : Bool) (r30_2_1 : Int),
 v_2 = .tuple ⟨[.string ⟨⟨r30_0_1⟩⟩, .bool r30_1_1, .int .i64 r30_2_1]⟩ ∧
 cond (r30_2_1 != 0) (
 ∃ (H10 : AH),
 storeCellsv H9 H2.next 0 [.int .i64 0, .int .i64 0] = some H10 ∧
 ∃ (r4_Err_3 : Int) (r4_ID_3 : Int),
 H10.cell H2.next (0 + 0) = some (.int .i64 r4_Err_3) ∧
 H10.cell H2.next (0 + 1) = some (.int .i64 r4_ID_3) ∧
 Q (.tuple ⟨[.agg ⟨[.int .i64 r4_Err_3, .int .i64 r4_ID_3]⟩, .int .i64 r30_2_1]⟩) H10) (
 FW Ee F_master_replyOf [.string ⟨⟨r30_0_1⟩⟩] H9 fun v_3 H11 =>
 ∃ (r39_Err_1 : Int) (r39_ID_1 : Int),
 v_3 = .agg ⟨[.int .i64 r39_Err_1, .int .i64 r39_ID_1]⟩ ∧
 ∃ (H12 : AH),
 storeCellsv H11 H2.next 0 [.int .i64 r39_Err_1, .int .i64 r39_ID_1] = some H12 ∧
 ∃ (r4_Err_4 : Int) (r4_ID_4 : Int),
 H12.cell H2.next (0 + 0) = some (.int .i64 r4_Err_4) ∧
 H12.cell H2.next (0 + 1) = some (.int .i64 r4_ID_4) ∧
 Q (.tuple ⟨[.agg ⟨[.int .i64 r4_Err_4, .int .i64 r4_ID_4]⟩, .int .i64 0]⟩) H12)))) (
 cond (t15 == 3) (
 ∃ (t42 : Option Addr),
 H3.cell H.next 0 = some (.pointer t42) ∧
 ∃ (t44 : Int),
 H3.cell H1.next 5 = some (.int .i64 t44) ∧
 ∃ (t46 : Int),
 H3.cell H1.next 6 = some (.int .i64 t46) ∧
 FW Ee F_master_Master_join [.pointer t42, .int .i64 t44, .int .i64 t46] H3 fun v_4 H13 =>
 v_4 = .tuple ⟨[]⟩ ∧
 ∃ (H14 : AH),
 storeCellsv H13 H2.next 0 [.int .i64 0, .int .i64 0] = some H14 ∧
 ∃ (r4_Err_5 : Int) (r4_ID_5 : Int),
 H14.cell H2.next (0 + 0) = some (.int .i64 r4_Err_5) ∧
 H14.cell H2.next (0 + 1) = some (.int .i64 r4_ID_5) ∧
 Q (.tuple ⟨[.agg ⟨[.int .i64 r4_Err_5, .int .i64 r4_ID_5]⟩, .int .i64 0]⟩) H14) (
 cond (t15 == 4) (
 ∃ (t51 : Option Addr),
 H3.cell H.next 0 = some (.pointer t51) ∧
 grd t51.isSome (
 grd t51.isSome (
 ∃ (t54 : Option Nat),
 H3.cell ((adr t51).block) ((adr t51).off + 2) = some (.map t54) ∧
 ∃ (t56 : Int),
 H3.cell H1.next 5 = some (.int .i64 t56) ∧
 ∃ (t57 : Int) (t57ok : Bool),
 lookupv Ee H3 T_M_int_int (.map t54) (.int .i64 t56) true = some (.tuple ⟨[.int .i64 t57, .bool t57ok]⟩) ∧
 cond (t57ok) (
 ∃ (t64 : Int),
 H3.cell H1.next 6 = some (.int .i64 t64) ∧
 cond (t57 == t64) (
 ∃ (t67 : Option Addr),
 H3.cell H.next 0 = some (.pointer t67) ∧
 ∃ (t69 : Int),
 H3.cell H1.next 5 = some (.int .i64 t69) ∧
 FW Ee F_master_Master_lose [.pointer t67, .int .i64 t69] H3 fun v_5 H15 =>
 v_5 = .tuple ⟨[]⟩ ∧
 ∃ (H16 : AH),
 storeCellsv H15 H2.next 0 [.int .i64 0, .int .i64 0] = some H16 ∧
 ∃ (r4_Err_6 : Int) (r4_ID_6 : Int),
 H16.cell H2.next (0 + 0) = some (.int .i64 r4_Err_6) ∧
 H16.cell H2.next (0 + 1) = some (.int .i64 r4_ID_6) ∧
 Q (.tuple ⟨[.agg ⟨[.int .i64 r4_Err_6, .int .i64 r4_ID_6]⟩, .int .i64 0]⟩) H16) (
 ∃ (H17 : AH),
 storeCellsv H3 H2.next 0 [.int .i64 0, .int .i64 0] = some H17 ∧
 ∃ (r4_Err_7 : Int) (r4_ID_7 : Int),
 H17.cell H2.next (0 + 0) = some (.int .i64 r4_Err_7) ∧
 H17.cell H2.next (0 + 1) = some (.int .i64 r4_ID_7) ∧
 Q (.tuple ⟨[.agg ⟨[.int .i64 r4_Err_7, .int .i64 r4_ID_7]⟩, .int .i64 0]⟩) H17)) (
 ∃ (H18 : AH),
 storeCellsv H3 H2.next 0 [.int .i64 0, .int .i64 0] = some H18 ∧
 ∃ (r4_Err_8 : Int) (r4_ID_8 : Int),
 H18.cell H2.next (0 + 0) = some (.int .i64 r4_Err_8) ∧
 H18.cell H2.next (0 + 1) = some (.int .i64 r4_ID_8) ∧
 Q (.tuple ⟨[.agg ⟨[.int .i64 r4_Err_8, .int .i64 r4_ID_8]⟩, .int .i64 0]⟩) H18)))) (
 cond (t15 == 5) (
 ∃ (t73 : Option Addr),
 H3.cell H.next 0 = some (.pointer t73) ∧
 ∃ (t75_Job : Int) (t75_Epoch : Int) (t75_Step : Int) (t75_Phase : Int) (t75_Worker : Int) (t75_Err : Int) (t75_Sent : Int) (t75_Active : Int) (t75_Many : Int) (t75_Agg_Has_0 : Bool) (t75_Agg_Has_1 : Bool) (t75_Agg_Has_2 : Bool) (t75_Agg_Has_3 : Bool) (t75_Agg_Has_4 : Bool) (t75_Agg_V_0 : Int) (t75_Agg_V_1 : Int) (t75_Agg_V_2 : Int) (t75_Agg_V_3 : Int) (t75_Agg_V_4 : Int) (t75_Valuesa : Option Addr) (t75_Valuesl : Nat) (t75_Valuesc : Nat),
 H3.cell H1.next (7 + 0) = some (.int .i64 t75_Job) ∧
 H3.cell H1.next (7 + 1) = some (.int .i64 t75_Epoch) ∧
 H3.cell H1.next (7 + 2) = some (.int .i64 t75_Step) ∧
 H3.cell H1.next (7 + 3) = some (.int .i64 t75_Phase) ∧
 H3.cell H1.next (7 + 4) = some (.int .i64 t75_Worker) ∧
 H3.cell H1.next (7 + 5) = some (.int .i64 t75_Err) ∧
 H3.cell H1.next (7 + 6) = some (.int .i64 t75_Sent) ∧
 H3.cell H1.next (7 + 7) = some (.int .i64 t75_Active) ∧
 H3.cell H1.next (7 + 8) = some (.int .i64 t75_Many) ∧
 H3.cell H1.next (7 + 9) = some (.bool t75_Agg_Has_0) ∧
 H3.cell H1.next (7 + 10) = some (.bool t75_Agg_Has_1) ∧
 H3.cell H1.next (7 + 11) = some (.bool t75_Agg_Has_2) ∧
 H3.cell H1.next (7 + 12) = some (.bool t75_Agg_Has_3) ∧
 H3.cell H1.next (7 + 13) = some (.bool t75_Agg_Has_4) ∧
 H3.cell H1.next (7 + 14) = some (.int .i64 t75_Agg_V_0) ∧
 H3.cell H1.next (7 + 15) = some (.int .i64 t75_Agg_V_1) ∧
 H3.cell H1.next (7 + 16) = some (.int .i64 t75_Agg_V_2) ∧
 H3.cell H1.next (7 + 17) = some (.int .i64 t75_Agg_V_3) ∧
 H3.cell H1.next (7 + 18) = some (.int .i64 t75_Agg_V_4) ∧
 H3.cell H1.next (7 + 19) = some (.slice t75_Valuesa t75_Valuesl t75_Valuesc) ∧
 FW Ee F_master_Master_report [.pointer t73, .agg ⟨[.int .i64 t75_Job, .int .i64 t75_Epoch, .int .i64 t75_Step, .int .i64 t75_Phase, .int .i64 t75_Worker, .int .i64 t75_Err, .int .i64 t75_Sent, .int .i64 t75_Active, .int .i64 t75_Many, .bool t75_Agg_Has_0, .bool t75_Agg_Has_1, .bool t75_Agg_Has_2, .bool t75_Agg_Has_3, .bool t75_Agg_Has_4, .int .i64 t75_Agg_V_0, .int .i64 t75_Agg_V_1, .int .i64 t75_Agg_V_2, .int .i64 t75_Agg_V_3, .int .i64 t75_Agg_V_4, .slice t75_Valuesa t75_Valuesl t75_Valuesc]⟩] H3 fun v_6 H19 =>
 v_6 = .tuple ⟨[]⟩ ∧
 ∃ (H20 : AH),
 storeCellsv H19 H2.next 0 [.int .i64 0, .int .i64 0] = some H20 ∧
 ∃ (r4_Err_9 : Int) (r4_ID_9 : Int),
 H20.cell H2.next (0 + 0) = some (.int .i64 r4_Err_9) ∧
 H20.cell H2.next (0 + 1) = some (.int .i64 r4_ID_9) ∧
 Q (.tuple ⟨[.agg ⟨[.int .i64 r4_Err_9, .int .i64 r4_ID_9]⟩, .int .i64 0]⟩) H20) (
 ∃ (H21 : AH),
 storeCellsv H3 H2.next 0 [.int .i64 0, .int .i64 0] = some H21 ∧
 ∃ (r4_Err_10 : Int) (r4_ID_10 : Int),
 H21.cell H2.next (0 + 0) = some (.int .i64 r4_Err_10) ∧
 H21.cell H2.next (0 + 1) = some (.int .i64 r4_ID_10) ∧
 Q (.tuple ⟨[.agg ⟨[.int .i64 r4_Err_10, .int .i64 r4_ID_10]⟩, .int .i64 172]⟩) H21))))))
set_option maxRecDepth 100000 in
theorem fw_master_Master_Apply {m0b : Nat} {c1_Kind : Int} {c1_Session : Int} {c1_Seq : Int} {c1_S : List UInt8} {c1_ID : Int} {c1_Worker : Int} {c1_Life : Int} {c1_Report_Job : Int} {c1_Report_Epoch : Int} {c1_Report_Step : Int} {c1_Report_Phase : Int} {c1_Report_Worker : Int} {c1_Report_Err : Int} {c1_Report_Sent : Int} {c1_Report_Active : Int} {c1_Report_Many : Int} {c1_Report_Agg_Has_0 : Bool} {c1_Report_Agg_Has_1 : Bool} {c1_Report_Agg_Has_2 : Bool} {c1_Report_Agg_Has_3 : Bool} {c1_Report_Agg_Has_4 : Bool} {c1_Report_Agg_V_0 : Int} {c1_Report_Agg_V_1 : Int} {c1_Report_Agg_V_2 : Int} {c1_Report_Agg_V_3 : Int} {c1_Report_Agg_V_4 : Int} {c1_Report_Valuesa : Option Addr} {c1_Report_Valuesl : Nat} {c1_Report_Valuesc : Nat} {H : AH} {Q : Value → AH → Prop} (h : VC_master_Master_Apply m0b c1_Kind c1_Session c1_Seq c1_S c1_ID c1_Worker c1_Life c1_Report_Job c1_Report_Epoch c1_Report_Step c1_Report_Phase c1_Report_Worker c1_Report_Err c1_Report_Sent c1_Report_Active c1_Report_Many c1_Report_Agg_Has_0 c1_Report_Agg_Has_1 c1_Report_Agg_Has_2 c1_Report_Agg_Has_3 c1_Report_Agg_Has_4 c1_Report_Agg_V_0 c1_Report_Agg_V_1 c1_Report_Agg_V_2 c1_Report_Agg_V_3 c1_Report_Agg_V_4 c1_Report_Valuesa c1_Report_Valuesl c1_Report_Valuesc H Q) : FW Ee F_master_Master_Apply [.pointer (some ⟨m0b, 0, none⟩), .agg ⟨[.int .i64 c1_Kind, .int .i64 c1_Session, .int .i64 c1_Seq, .string ⟨⟨c1_S⟩⟩, .int .i64 c1_ID, .int .i64 c1_Worker, .int .i64 c1_Life, .int .i64 c1_Report_Job, .int .i64 c1_Report_Epoch, .int .i64 c1_Report_Step, .int .i64 c1_Report_Phase, .int .i64 c1_Report_Worker, .int .i64 c1_Report_Err, .int .i64 c1_Report_Sent, .int .i64 c1_Report_Active, .int .i64 c1_Report_Many, .bool c1_Report_Agg_Has_0, .bool c1_Report_Agg_Has_1, .bool c1_Report_Agg_Has_2, .bool c1_Report_Agg_Has_3, .bool c1_Report_Agg_Has_4, .int .i64 c1_Report_Agg_V_0, .int .i64 c1_Report_Agg_V_1, .int .i64 c1_Report_Agg_V_2, .int .i64 c1_Report_Agg_V_3, .int .i64 c1_Report_Agg_V_4, .slice c1_Report_Valuesa c1_Report_Valuesl c1_Report_Valuesc]⟩] H Q := by
  have e : VC_master_Master_Apply m0b c1_Kind c1_Session c1_Seq c1_S c1_ID c1_Worker c1_Life c1_Report_Job c1_Report_Epoch c1_Report_Step c1_Report_Phase c1_Report_Worker c1_Report_Err c1_Report_Sent c1_Report_Active c1_Report_Many c1_Report_Agg_Has_0 c1_Report_Agg_Has_1 c1_Report_Agg_Has_2 c1_Report_Agg_Has_3 c1_Report_Agg_Has_4 c1_Report_Agg_V_0 c1_Report_Agg_V_1 c1_Report_Agg_V_2 c1_Report_Agg_V_3 c1_Report_Agg_V_4 c1_Report_Valuesa c1_Report_Valuesl c1_Report_Valuesc H Q = wpF Ee ⟨[], []⟩ F_master_Master_Apply [.pointer (some ⟨m0b, 0, none⟩), .agg ⟨[.int .i64 c1_Kind, .int .i64 c1_Session, .int .i64 c1_Seq, .string ⟨⟨c1_S⟩⟩, .int .i64 c1_ID, .int .i64 c1_Worker, .int .i64 c1_Life, .int .i64 c1_Report_Job, .int .i64 c1_Report_Epoch, .int .i64 c1_Report_Step, .int .i64 c1_Report_Phase, .int .i64 c1_Report_Worker, .int .i64 c1_Report_Err, .int .i64 c1_Report_Sent, .int .i64 c1_Report_Active, .int .i64 c1_Report_Many, .bool c1_Report_Agg_Has_0, .bool c1_Report_Agg_Has_1, .bool c1_Report_Agg_Has_2, .bool c1_Report_Agg_Has_3, .bool c1_Report_Agg_Has_4, .int .i64 c1_Report_Agg_V_0, .int .i64 c1_Report_Agg_V_1, .int .i64 c1_Report_Agg_V_2, .int .i64 c1_Report_Agg_V_3, .int .i64 c1_Report_Agg_V_4, .slice c1_Report_Valuesa c1_Report_Valuesl c1_Report_Valuesc]⟩] H Q := by kernel_rfl
  letI : Sy := sy0
  exact wpF_sound (Eq.mp e h)
end Go.Proofs.Cx

namespace Go.Proofs.Cx
open Go Go.Ev
set_option linter.unusedVariables false
set_option maxRecDepth 100000
set_option maxHeartbeats 8000000
/-- cohort/cohortlaw17.there -/
def VC_cohortlaw17_there (life0 : Option Nat) (H : AH) (Q : Value → AH → Prop) : Prop :=
 ∃ (Inv : Nat → Int → Int → AH → Prop),
 (
 ∃ (n_1 : Nat),
 Inv n_1 0 0 H) ∧
 ∀ (n : Nat),
 ∀ (n3 : Int) (k4 : Int) (H1 : AH),
 Inv n n3 k4 H1 →
 cond (decide (k4 < 64)) (
 ∃ (t11 : Int),
 lookupv Ee H1 T_M_int_int (.map life0) (.int .i64 k4) false = some (.int .i64 t11) ∧
 cond (decide (t11 > 0)) (
 ∀ (t14 : Int),
 t14 = IntKind.i64.wrap (n3 + 1) →
 ∀ (t8 : Int),
 t8 = IntKind.i64.wrap (k4 + 1) →
 ∃ (m : Nat),
 m < n ∧
 Inv m t14 t8 H1) (
 ∀ (t8_1 : Int),
 t8_1 = IntKind.i64.wrap (k4 + 1) →
 ∃ (m : Nat),
 m < n ∧
 Inv m n3 t8_1 H1)) (
 Q (.int .i64 n3) H1)
set_option maxRecDepth 100000 in
theorem fw_cohortlaw17_there {life0 : Option Nat} {H : AH} {Q : Value → AH → Prop} (h : VC_cohortlaw17_there life0 H Q) : FW Ee F_cohortlaw17_there [.map life0] H Q := by
  have e : VC_cohortlaw17_there life0 H Q = wpF Ee ⟨[], []⟩ F_cohortlaw17_there [.map life0] H Q := by kernel_rfl
  letI : Sy := sy0
  exact wpF_sound (Eq.mp e h)
/-- cohort/cohortlaw17.MasterLives -/
def VC_cohortlaw17_MasterLives (l0a : Option Addr) (l0l : Nat) (l0c : Nat) (H : AH) (Q : Value → AH → Prop) : Prop :=
 FW Ee F_master_New [] H fun v H1 =>
 ∃ (r12 : Option Addr),
 v = .pointer r12 ∧
 ∀ (H2 : AH),
 H2 = H1.new (.map [] 0) →
 ∃ (Inv : Nat → Bool → Int → AH → Prop),
 (
 ∃ (n_1 : Nat),
 Inv n_1 false 0 H2) ∧
 ∀ (n : Nat),
 ∀ (t2 : Bool) (i5 : Int) (H3 : AH),
 Inv n t2 i5 H3 →
 cond (decide (i5 < (((l0l : Nat) : Int)))) (
 cond (decide (i5 < 100)) (
 grd l0a.isSome (
 (0 : Int) ≤ i5 ∧
 (i5 : Int) < ((l0l : Nat) : Int) ∧
 ∃ (t28 : Int),
 H3.cell ((adr l0a).block) ((adr l0a).off + (i5 : Int).toNat * 8 + 1) = some (.int .i64 t28) ∧
 (70 : Int) ≠ 0 ∧
 ∀ (t29 : Int),
 t29 = (t28 : Int).tmod 70 →
 grd l0a.isSome (
 (0 : Int) ≤ i5 ∧
 (i5 : Int) < ((l0l : Nat) : Int) ∧
 ∃ (t34 : Int),
 H3.cell ((adr l0a).block) ((adr l0a).off + (i5 : Int).toNat * 8) = some (.int .i64 t34) ∧
 ∀ (t35 : Int),
 t35 = iand .i64 t34 3 →
 ∀ (t36 : Int),
 t36 = IntKind.i64.wrap (1 + t35) →
 ∃ (t39 : Int),
 lookupv Ee H3 T_M_int_int (.map (some H1.next)) (.int .i64 t29) false = some (.int .i64 t39) ∧
 grd l0a.isSome (
 (0 : Int) ≤ i5 ∧
 (i5 : Int) < ((l0l : Nat) : Int) ∧
 ∃ (t44 : Int),
 H3.cell ((adr l0a).block) ((adr l0a).off + (i5 : Int).toNat * 8) = some (.int .i64 t44) ∧
 (2 : Int) ≠ 0 ∧
 ∀ (t45 : Int),
 t45 = (t44 : Int).tmod 2 →
 ∃ (J_1 : AH → Prop),
 (
 cond (t45 == 0) (
 FW Ee F_master_Master_Apply [.pointer r12, .agg ⟨[.int .i64 3, .int .i64 0, .int .i64 0, .string ⟨⟨[]⟩⟩, .int .i64 0, .int .i64 t29, .int .i64 t36, .int .i64 0, .int .i64 0, .int .i64 0, .int .i64 0, .int .i64 0, .int .i64 0, .int .i64 0, .int .i64 0, .int .i64 0, .bool false, .bool false, .bool false, .bool false, .bool false, .int .i64 0, .int .i64 0, .int .i64 0, .int .i64 0, .int .i64 0, .slice none 0 0]⟩] H3 fun v_1 H4 =>
 ∃ (r51_0_Err : Int) (r51_0_ID : Int) (r51_1 : Int),
 v_1 = .tuple ⟨[.agg ⟨[.int .i64 r51_0_Err, .int .i64 r51_0_ID]⟩, .int .i64 r51_1]⟩ ∧
 cond (decide (t29 ≥ 0)) (
 cond (decide (t29 < 64)) (
 cond (decide (t36 > t39)) (
 ∃ (H5 : AH),
 updatev Ee H4 T_M_int_int (.map (some H1.next)) (.int .i64 t29) (.int .i64 t36) = some H5 ∧
 J_1 H5) (
 J_1 H4)) (
 J_1 H4)) (
 J_1 H4)) (
 FW Ee F_master_Master_Apply [.pointer r12, .agg ⟨[.int .i64 4, .int .i64 0, .int .i64 0, .string ⟨⟨[]⟩⟩, .int .i64 0, .int .i64 t29, .int .i64 t36, .int .i64 0, .int .i64 0, .int .i64 0, .int .i64 0, .int .i64 0, .int .i64 0, .int .i64 0, .int .i64 0, .int .i64 0, .bool false, .bool false, .bool false, .bool false, .bool false, .int .i64 0, .int .i64 0, .int .i64 0, .int .i64 0, .int .i64 0, .slice none 0 0]⟩] H3 fun v_2 H6 =>
 ∃ (r70_0_Err : Int) (r70_0_ID : Int) (r70_1 : Int),
 v_2 = .tuple ⟨[.agg ⟨[.int .i64 r70_0_Err, .int .i64 r70_0_ID]⟩, .int .i64 r70_1]⟩ ∧
 cond (t39 == t36) (
 ∃ (v_3 : Value) (H7 : AH),
 deletev Ee H6 [T_M_int_int, T_int] (.map (some H1.next)) (.int .i64 t29) = some (v_3, H7) ∧
 J_1 H7) (
 J_1 H6))) ∧
 ∀ (H8 : AH),
 J_1 H8 →
 FW Ee F_master_Master_Life [.pointer r12, .int .i64 t29] H8 fun v_4 H9 =>
 ∃ (r79_0 : Int) (r79_1 : Bool),
 v_4 = .tuple ⟨[.int .i64 r79_0, .bool r79_1]⟩ ∧
 ∃ (t84 : Int),
 lookupv Ee H9 T_M_int_int (.map (some H1.next)) (.int .i64 t29) false = some (.int .i64 t84) ∧
 cond (!(r79_1 == (decide (t84 > 0)))) (
 Q (.bool false) H9) (
 cond (r79_0 != t84) (
 Q (.bool false) H9) (
 FW Ee F_master_Master_Workers [.pointer r12] H9 fun v_5 H10 =>
 ∃ (r96a : Option Addr) (r96l : Nat) (r96c : Nat),
 v_5 = .slice r96a r96l r96c ∧
 FW Ee F_cohortlaw17_there [.map (some H1.next)] H10 fun v_6 H11 =>
 ∃ (r99 : Int),
 v_6 = .int .i64 r99 ∧
 cond ((((r96l : Nat) : Int)) != r99) (
 Q (.bool false) H11) (
 ∀ (t23 : Int),
 t23 = IntKind.i64.wrap (i5 + 1) →
 ∃ (m : Nat),
 m < n ∧
 Inv m t2 t23 H11))))))) (
 FW Ee F_cohortlaw17_awake [] H3 fun v_7 H12 =>
 ∃ (r102 : Bool),
 v_7 = .bool r102 ∧
 Q (.bool r102) H12)) (
 FW Ee F_cohortlaw17_awake [] H3 fun v_8 H13 =>
 ∃ (r102_1 : Bool),
 v_8 = .bool r102_1 ∧
 Q (.bool r102_1) H13)
set_option maxRecDepth 100000 in
theorem fw_cohortlaw17_MasterLives {l0a : Option Addr} {l0l : Nat} {l0c : Nat} {H : AH} {Q : Value → AH → Prop} (h : VC_cohortlaw17_MasterLives l0a l0l l0c H Q) : FW Ee F_cohortlaw17_MasterLives [.slice l0a l0l l0c] H Q := by
  have e : VC_cohortlaw17_MasterLives l0a l0l l0c H Q = wpF Ee ⟨[], [46]⟩ F_cohortlaw17_MasterLives [.slice l0a l0l l0c] H Q := by kernel_rfl
  letI : Sy := sy0
  exact wpF_sound (Eq.mp e h)
end Go.Proofs.Cx

namespace Go.Proofs.Cx
open Go Go.Ev
set_option linter.unusedVariables false
set_option maxRecDepth 100000
set_option maxHeartbeats 8000000
end Go.Proofs.Cx

namespace Go.Proofs.Cx
open Go Go.Ev
set_option linter.unusedVariables false
set_option maxRecDepth 100000
set_option maxHeartbeats 8000000
end Go.Proofs.Cx
