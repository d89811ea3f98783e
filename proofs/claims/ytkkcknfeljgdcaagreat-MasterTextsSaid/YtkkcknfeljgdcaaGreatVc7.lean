/- What calls come to, as formulas: printed by a program. -/
import Derived.Test.YtkkcknfeljgdcaaGreatVc0
namespace Go.Proofs.Cx
open Go Go.Ev
set_option linter.unusedVariables false
set_option maxRecDepth 100000
set_option maxHeartbeats 8000000
/-- cohort/cohortlaw09.Small -/
def VC_cohortlaw09_Small (j0_Program : List UInt8) (j0_Graph_Verticesa : Option Addr) (j0_Graph_Verticesl : Nat) (j0_Graph_Verticesc : Nat) (j0_Paramsa : Option Addr) (j0_Paramsl : Nat) (j0_Paramsc : Nat) (j0_Steps : Int) (j0_Sent : Int) (j0_Parts : Int) (H : AH) (Q : Value → AH → Prop) : Prop :=
 ∀ (H1 : AH),
 H1 = H.new (.cells [.string ⟨⟨j0_Program⟩⟩, .slice j0_Graph_Verticesa j0_Graph_Verticesl j0_Graph_Verticesc, .slice j0_Paramsa j0_Paramsl j0_Paramsc, .int .i64 j0_Steps, .int .i64 j0_Sent, .int .i64 j0_Parts] 0) →
 ∀ (H2 : AH),
 H2 = H1.new (.cells [.string ⟨⟨[]⟩⟩, .slice none 0 0, .slice none 0 0, .int .i64 0, .int .i64 0, .int .i64 0] 0) →
 ∃ (t5a : Option Addr) (t5l : Nat) (t5c : Nat),
 H2.cell H.next 1 = some (.slice t5a t5l t5c) ∧
 ∃ (J_1 : AH → Prop),
 (
 cond (decide ((((t5l : Nat) : Int)) > 30)) (
 ∃ (t10a : Option Addr) (t10l : Nat) (t10c : Nat),
 H2.cell H.next 1 = some (.slice t10a t10l t10c) ∧
 ∃ (t11a : Option Addr) (t11l : Nat) (t11c : Nat),
 slcv H2 3 t10a t10l t10c none (some (.int .i64 30)) none = some (.slice t11a t11l t11c) ∧
 ∃ (H3 : AH),
 storeCellsv H2 H.next 1 [.slice t11a t11l t11c] = some H3 ∧
 J_1 H3) (
 J_1 H2)) ∧
 ∀ (H4 : AH),
 J_1 H4 →
 ∃ (t15 : Int),
 H4.cell H.next 3 = some (.int .i64 t15) ∧
 ∃ (J_2 : AH → Prop),
 (
 cond (decide (t15 > 60)) (
 ∃ (H5 : AH),
 storeCellsv H4 H.next 3 [.int .i64 60] = some H5 ∧
 J_2 H5) (
 J_2 H4)) ∧
 ∀ (H6 : AH),
 J_2 H6 →
 ∃ (t19 : Int),
 H6.cell H.next 4 = some (.int .i64 t19) ∧
 ∃ (J_3 : AH → Prop),
 (
 cond (decide (t19 > 3000)) (
 ∃ (H7 : AH),
 storeCellsv H6 H.next 4 [.int .i64 3000] = some H7 ∧
 J_3 H7) (
 J_3 H6)) ∧
 ∀ (H8 : AH),
 J_3 H8 →
 ∃ (t22_Program : List UInt8) (t22_Graph_Verticesa : Option Addr) (t22_Graph_Verticesl : Nat) (t22_Graph_Verticesc : Nat) (t22_Paramsa : Option Addr) (t22_Paramsl : Nat) (t22_Paramsc : Nat) (t22_Steps : Int) (t22_Sent : Int) (t22_Parts : Int),
 H8.cell H.next (0 + 0) = some (.string ⟨⟨t22_Program⟩⟩) ∧
 H8.cell H.next (0 + 1) = some (.slice t22_Graph_Verticesa t22_Graph_Verticesl t22_Graph_Verticesc) ∧
 H8.cell H.next (0 + 2) = some (.slice t22_Paramsa t22_Paramsl t22_Paramsc) ∧
 H8.cell H.next (0 + 3) = some (.int .i64 t22_Steps) ∧
 H8.cell H.next (0 + 4) = some (.int .i64 t22_Sent) ∧
 H8.cell H.next (0 + 5) = some (.int .i64 t22_Parts) ∧
 ∃ (H9 : AH),
 storeCellsv H8 H1.next 0 [.string ⟨⟨t22_Program⟩⟩, .slice t22_Graph_Verticesa t22_Graph_Verticesl t22_Graph_Verticesc, .slice t22_Paramsa t22_Paramsl t22_Paramsc, .int .i64 t22_Steps, .int .i64 t22_Sent, .int .i64 t22_Parts] = some H9 ∧
 ∃ (r2_Program : List UInt8) (r2_Graph_Verticesa : Option Addr) (r2_Graph_Verticesl : Nat) (r2_Graph_Verticesc : Nat) (r2_Paramsa : Option Addr) (r2_Paramsl : Nat) (r2_Paramsc : Nat) (r2_Steps : Int) (r2_Sent : Int) (r2_Parts : Int),
 H9.cell H1.next (0 + 0) = some (.string ⟨⟨r2_Program⟩⟩) ∧
 H9.cell H1.next (0 + 1) = some (.slice r2_Graph_Verticesa r2_Graph_Verticesl r2_Graph_Verticesc) ∧
 H9.cell H1.next (0 + 2) = some (.slice r2_Paramsa r2_Paramsl r2_Paramsc) ∧
 H9.cell H1.next (0 + 3) = some (.int .i64 r2_Steps) ∧
 H9.cell H1.next (0 + 4) = some (.int .i64 r2_Sent) ∧
 H9.cell H1.next (0 + 5) = some (.int .i64 r2_Parts) ∧
 Q (.agg ⟨[.string ⟨⟨r2_Program⟩⟩, .slice r2_Graph_Verticesa r2_Graph_Verticesl r2_Graph_Verticesc, .slice r2_Paramsa r2_Paramsl r2_Paramsc, .int .i64 r2_Steps, .int .i64 r2_Sent, .int .i64 r2_Parts]⟩) H9
set_option maxRecDepth 100000 in
theorem fw_cohortlaw09_Small {j0_Program : List UInt8} {j0_Graph_Verticesa : Option Addr} {j0_Graph_Verticesl : Nat} {j0_Graph_Verticesc : Nat} {j0_Paramsa : Option Addr} {j0_Paramsl : Nat} {j0_Paramsc : Nat} {j0_Steps : Int} {j0_Sent : Int} {j0_Parts : Int} {H : AH} {Q : Value → AH → Prop} (h : VC_cohortlaw09_Small j0_Program j0_Graph_Verticesa j0_Graph_Verticesl j0_Graph_Verticesc j0_Paramsa j0_Paramsl j0_Paramsc j0_Steps j0_Sent j0_Parts H Q) : FW Ee F_cohortlaw09_Small [.agg ⟨[.string ⟨⟨j0_Program⟩⟩, .slice j0_Graph_Verticesa j0_Graph_Verticesl j0_Graph_Verticesc, .slice j0_Paramsa j0_Paramsl j0_Paramsc, .int .i64 j0_Steps, .int .i64 j0_Sent, .int .i64 j0_Parts]⟩] H Q := by
  have e : VC_cohortlaw09_Small j0_Program j0_Graph_Verticesa j0_Graph_Verticesl j0_Graph_Verticesc j0_Paramsa j0_Paramsl j0_Paramsc j0_Steps j0_Sent j0_Parts H Q = wpF Ee ⟨[], [7, 16, 20]⟩ F_cohortlaw09_Small [.agg ⟨[.string ⟨⟨j0_Program⟩⟩, .slice j0_Graph_Verticesa j0_Graph_Verticesl j0_Graph_Verticesc, .slice j0_Paramsa j0_Paramsl j0_Paramsc, .int .i64 j0_Steps, .int .i64 j0_Sent, .int .i64 j0_Parts]⟩] H Q := by kernel_rfl
  letI : Sy := sy0
  exact wpF_sound (Eq.mp e h)
/-- cohort/cohortlaw17.MasterTexts -/
def VC_cohortlaw17_MasterTexts (r0_Job : Int) (r0_Epoch : Int) (r0_Step : Int) (r0_Phase : Int) (r0_Worker : Int) (r0_Err : Int) (r0_Sent : Int) (r0_Active : Int) (r0_Many : Int) (r0_Agg_Has_0 : Bool) (r0_Agg_Has_1 : Bool) (r0_Agg_Has_2 : Bool) (r0_Agg_Has_3 : Bool) (r0_Agg_Has_4 : Bool) (r0_Agg_V_0 : Int) (r0_Agg_V_1 : Int) (r0_Agg_V_2 : Int) (r0_Agg_V_3 : Int) (r0_Agg_V_4 : Int) (r0_Valuesa : Option Addr) (r0_Valuesl : Nat) (r0_Valuesc : Nat) (x1_Program : List UInt8) (x1_Graph_Verticesa : Option Addr) (x1_Graph_Verticesl : Nat) (x1_Graph_Verticesc : Nat) (x1_Paramsa : Option Addr) (x1_Paramsl : Nat) (x1_Paramsc : Nat) (x1_Steps : Int) (x1_Sent : Int) (x1_Parts : Int) (n2_0 : Int) (n2_1 : Int) (n2_2 : Int) (H : AH) (Q : Value → AH → Prop) : Prop :=
 ∀ (H1 : AH),
 H1 = H.new (.cells [.int .i64 r0_Job, .int .i64 r0_Epoch, .int .i64 r0_Step, .int .i64 r0_Phase, .int .i64 r0_Worker, .int .i64 r0_Err, .int .i64 r0_Sent, .int .i64 r0_Active, .int .i64 r0_Many, .bool r0_Agg_Has_0, .bool r0_Agg_Has_1, .bool r0_Agg_Has_2, .bool r0_Agg_Has_3, .bool r0_Agg_Has_4, .int .i64 r0_Agg_V_0, .int .i64 r0_Agg_V_1, .int .i64 r0_Agg_V_2, .int .i64 r0_Agg_V_3, .int .i64 r0_Agg_V_4, .slice r0_Valuesa r0_Valuesl r0_Valuesc] 0) →
 ∀ (H2 : AH),
 H2 = H1.new (.cells [.string ⟨⟨x1_Program⟩⟩, .slice x1_Graph_Verticesa x1_Graph_Verticesl x1_Graph_Verticesc, .slice x1_Paramsa x1_Paramsl x1_Paramsc, .int .i64 x1_Steps, .int .i64 x1_Sent, .int .i64 x1_Parts] 0) →
 ∀ (H3 : AH),
 H3 = H2.new (.cells [.int .i64 n2_0, .int .i64 n2_1, .int .i64 n2_2] 0) →
 ∀ (H4 : AH),
 H4 = H3.new (.cells [.pointer (some ⟨H.next, 0, none⟩), .pointer (some ⟨H.next, 1, none⟩), .pointer (some ⟨H.next, 2, none⟩), .pointer (some ⟨H.next, 3, none⟩), .pointer (some ⟨H.next, 4, none⟩), .pointer (some ⟨H.next, 6, none⟩), .pointer (some ⟨H.next, 7, none⟩), .pointer (some ⟨H.next, 8, none⟩)] 0) →
 ∃ (Inv : Nat → Int → AH → Prop),
 (
 ∃ (n_1 : Nat),
 Inv n_1 0 H4) ∧
 ∀ (n : Nat),
 ∀ (i8 : Int) (H5 : AH),
 Inv n i8 H5 →
 cond (decide (i8 < (((8 : Nat) : Int)))) (
 ∃ (J_1 : AH → Prop),
 (
 (0 : Int) ≤ i8 ∧
 (i8 : Int) < ((8 : Nat) : Int) ∧
 ∃ (t38 : Option Addr),
 H5.cell H3.next (0 + (i8 : Int).toNat * 1) = some (.pointer t38) ∧
 grd t38.isSome (
 grd t38.isSome (
 ∃ (t40 : Int),
 H5.cell ((adr t38).block) ((adr t38).off) = some (.int .i64 t40) ∧
 cond (decide (t40 < 0)) (
 ∃ (J_2 : AH → Prop),
 (
 (0 : Int) ≤ i8 ∧
 (i8 : Int) < ((8 : Nat) : Int) ∧
 ∃ (t54 : Option Addr),
 H5.cell H3.next (0 + (i8 : Int).toNat * 1) = some (.pointer t54) ∧
 grd t54.isSome (
 grd t54.isSome (
 ∃ (H6 : AH),
 storeCellsv H5 ((adr t54).block) ((adr t54).off) [.int .i64 1] = some H6 ∧
 J_2 H6))) ∧
 ∀ (H7 : AH),
 J_2 H7 →
 J_1 H7) (
 (0 : Int) ≤ i8 ∧
 (i8 : Int) < ((8 : Nat) : Int) ∧
 ∃ (t46 : Option Addr),
 H5.cell H3.next (0 + (i8 : Int).toNat * 1) = some (.pointer t46) ∧
 grd t46.isSome (
 grd t46.isSome (
 ∃ (t48 : Int),
 H5.cell ((adr t46).block) ((adr t46).off) = some (.int .i64 t48) ∧
 ∃ (J_3 : AH → Prop),
 (
 cond (decide (t48 ≥ 2147483648)) (
 (0 : Int) ≤ i8 ∧
 (i8 : Int) < ((8 : Nat) : Int) ∧
 ∃ (t54_1 : Option Addr),
 H5.cell H3.next (0 + (i8 : Int).toNat * 1) = some (.pointer t54_1) ∧
 grd t54_1.isSome (
 grd t54_1.isSome (
 ∃ (H8 : AH),
 storeCellsv H5 ((adr t54_1).block) ((adr t54_1).off) [.int .i64 1] = some H8 ∧
 J_3 H8))) (
 J_3 H5)) ∧
 ∀ (H9 : AH),
 J_3 H9 →
 J_1 H9)))))) ∧
 ∀ (H10 : AH),
 J_1 H10 →
 ∀ (t34 : Int),
 t34 = IntKind.i64.wrap (i8 + 1) →
 ∃ (m : Nat),
 m < n ∧
 Inv m t34 H10) (
 ∃ (t57 : Int),
 H5.cell H.next 5 = some (.int .i64 t57) ∧
 cond (decide (t57 < 0)) (
 ∃ (J_4 : AH → Prop),
 (
 ∃ (H11 : AH),
 storeCellsv H5 H.next 5 [.int .i64 0] = some H11 ∧
 J_4 H11) ∧
 ∀ (H12 : AH),
 J_4 H12 →
 ∃ (t66a : Option Addr) (t66l : Nat) (t66c : Nat),
 H12.cell H.next 19 = some (.slice t66a t66l t66c) ∧
 ∃ (J_5 : AH → Prop),
 (
 cond (decide ((((t66l : Nat) : Int)) > 256)) (
 ∃ (t70a : Option Addr) (t70l : Nat) (t70c : Nat),
 H12.cell H.next 19 = some (.slice t70a t70l t70c) ∧
 ∃ (t71a : Option Addr) (t71l : Nat) (t71c : Nat),
 slcv H12 2 t70a t70l t70c none (some (.int .i64 256)) none = some (.slice t71a t71l t71c) ∧
 ∃ (H13 : AH),
 storeCellsv H12 H.next 19 [.slice t71a t71l t71c] = some H13 ∧
 J_5 H13) (
 J_5 H12)) ∧
 ∀ (H14 : AH),
 J_5 H14 →
 ∃ (Inv_1 : Nat → Int → AH → Prop),
 (
 ∃ (n_3 : Nat),
 Inv_1 n_3 0 H14) ∧
 ∀ (n_2 : Nat),
 ∀ (k9 : Int) (H15 : AH),
 Inv_1 n_2 k9 H15 →
 cond (decide (k9 < 5)) (
 ∃ (J_6 : AH → Prop),
 (
 (0 : Int) ≤ k9 ∧
 (k9 : Int) < ((5 : Nat) : Int) ∧
 ∃ (t81 : Bool),
 H15.cell H.next (9 + (k9 : Int).toNat * 1) = some (.bool t81) ∧
 ∃ (J_7 : AH → Prop),
 (
 cond (!t81) (
 (0 : Int) ≤ k9 ∧
 (k9 : Int) < ((5 : Nat) : Int) ∧
 ∃ (H16 : AH),
 storeCellsv H15 H.next (14 + (k9 : Int).toNat * 1) [.int .i64 0] = some H16 ∧
 J_7 H16) (
 J_7 H15)) ∧
 ∀ (H17 : AH),
 J_7 H17 →
 J_6 H17) ∧
 ∀ (H18 : AH),
 J_6 H18 →
 ∀ (t76 : Int),
 t76 = IntKind.i64.wrap (k9 + 1) →
 ∃ (m_1 : Nat),
 m_1 < n_2 ∧
 Inv_1 m_1 t76 H18) (
 FW Ee F_wire_NewWriter [] H15 fun v H19 =>
 ∃ (r87 : Option Addr),
 v = .pointer r87 ∧
 ∃ (t89_Job : Int) (t89_Epoch : Int) (t89_Step : Int) (t89_Phase : Int) (t89_Worker : Int) (t89_Err : Int) (t89_Sent : Int) (t89_Active : Int) (t89_Many : Int) (t89_Agg_Has_0 : Bool) (t89_Agg_Has_1 : Bool) (t89_Agg_Has_2 : Bool) (t89_Agg_Has_3 : Bool) (t89_Agg_Has_4 : Bool) (t89_Agg_V_0 : Int) (t89_Agg_V_1 : Int) (t89_Agg_V_2 : Int) (t89_Agg_V_3 : Int) (t89_Agg_V_4 : Int) (t89_Valuesa : Option Addr) (t89_Valuesl : Nat) (t89_Valuesc : Nat),
 H19.cell H.next (0 + 0) = some (.int .i64 t89_Job) ∧
 H19.cell H.next (0 + 1) = some (.int .i64 t89_Epoch) ∧
 H19.cell H.next (0 + 2) = some (.int .i64 t89_Step) ∧
 H19.cell H.next (0 + 3) = some (.int .i64 t89_Phase) ∧
 H19.cell H.next (0 + 4) = some (.int .i64 t89_Worker) ∧
 H19.cell H.next (0 + 5) = some (.int .i64 t89_Err) ∧
 H19.cell H.next (0 + 6) = some (.int .i64 t89_Sent) ∧
 H19.cell H.next (0 + 7) = some (.int .i64 t89_Active) ∧
 H19.cell H.next (0 + 8) = some (.int .i64 t89_Many) ∧
 H19.cell H.next (0 + 9) = some (.bool t89_Agg_Has_0) ∧
 H19.cell H.next (0 + 10) = some (.bool t89_Agg_Has_1) ∧
 H19.cell H.next (0 + 11) = some (.bool t89_Agg_Has_2) ∧
 H19.cell H.next (0 + 12) = some (.bool t89_Agg_Has_3) ∧
 H19.cell H.next (0 + 13) = some (.bool t89_Agg_Has_4) ∧
 H19.cell H.next (0 + 14) = some (.int .i64 t89_Agg_V_0) ∧
 H19.cell H.next (0 + 15) = some (.int .i64 t89_Agg_V_1) ∧
 H19.cell H.next (0 + 16) = some (.int .i64 t89_Agg_V_2) ∧
 H19.cell H.next (0 + 17) = some (.int .i64 t89_Agg_V_3) ∧
 H19.cell H.next (0 + 18) = some (.int .i64 t89_Agg_V_4) ∧
 H19.cell H.next (0 + 19) = some (.slice t89_Valuesa t89_Valuesl t89_Valuesc) ∧
 FW Ee F_master_PutReport [.pointer r87, .agg ⟨[.int .i64 t89_Job, .int .i64 t89_Epoch, .int .i64 t89_Step, .int .i64 t89_Phase, .int .i64 t89_Worker, .int .i64 t89_Err, .int .i64 t89_Sent, .int .i64 t89_Active, .int .i64 t89_Many, .bool t89_Agg_Has_0, .bool t89_Agg_Has_1, .bool t89_Agg_Has_2, .bool t89_Agg_Has_3, .bool t89_Agg_Has_4, .int .i64 t89_Agg_V_0, .int .i64 t89_Agg_V_1, .int .i64 t89_Agg_V_2, .int .i64 t89_Agg_V_3, .int .i64 t89_Agg_V_4, .slice t89_Valuesa t89_Valuesl t89_Valuesc]⟩] H19 fun v_1 H20 =>
 v_1 = .tuple ⟨[]⟩ ∧
 FW Ee F_wire_Writer_All [.pointer r87] H20 fun v_2 H21 =>
 ∃ (r92 : List UInt8),
 v_2 = .string ⟨⟨r92⟩⟩ ∧
 (r92 : List UInt8).length + ([120] : List UInt8).length < 4611686018427387904 ∧
 FW Ee F_wire_NewReader [.string ⟨⟨r92 ++ [120]⟩⟩] H21 fun v_3 H22 =>
 ∃ (r94 : Option Addr),
 v_3 = .pointer r94 ∧
 FW Ee F_master_TakeReport [.pointer r94] H22 fun v_4 H23 =>
 ∃ (r96_Job : Int) (r96_Epoch : Int) (r96_Step : Int) (r96_Phase : Int) (r96_Worker : Int) (r96_Err : Int) (r96_Sent : Int) (r96_Active : Int) (r96_Many : Int) (r96_Agg_Has_0 : Bool) (r96_Agg_Has_1 : Bool) (r96_Agg_Has_2 : Bool) (r96_Agg_Has_3 : Bool) (r96_Agg_Has_4 : Bool) (r96_Agg_V_0 : Int) (r96_Agg_V_1 : Int) (r96_Agg_V_2 : Int) (r96_Agg_V_3 : Int) (r96_Agg_V_4 : Int) (r96_Valuesa : Option Addr) (r96_Valuesl : Nat) (r96_Valuesc : Nat),
 v_4 = .agg ⟨[.int .i64 r96_Job, .int .i64 r96_Epoch, .int .i64 r96_Step, .int .i64 r96_Phase, .int .i64 r96_Worker, .int .i64 r96_Err, .int .i64 r96_Sent, .int .i64 r96_Active, .int .i64 r96_Many, .bool r96_Agg_Has_0, .bool r96_Agg_Has_1, .bool r96_Agg_Has_2, .bool r96_Agg_Has_3, .bool r96_Agg_Has_4, .int .i64 r96_Agg_V_0, .int .i64 r96_Agg_V_1, .int .i64 r96_Agg_V_2, .int .i64 r96_Agg_V_3, .int .i64 r96_Agg_V_4, .slice r96_Valuesa r96_Valuesl r96_Valuesc]⟩ ∧
 ∀ (H24 : AH),
 H24 = H23.new (.cells [.int .i64 0, .int .i64 0, .int .i64 0, .int .i64 0, .int .i64 0, .int .i64 0, .int .i64 0, .int .i64 0, .int .i64 0, .bool false, .bool false, .bool false, .bool false, .bool false, .int .i64 0, .int .i64 0, .int .i64 0, .int .i64 0, .int .i64 0, .slice none 0 0] 0) →
 ∃ (H25 : AH),
 storeCellsv H24 H23.next 0 [.int .i64 r96_Job, .int .i64 r96_Epoch, .int .i64 r96_Step, .int .i64 r96_Phase, .int .i64 r96_Worker, .int .i64 r96_Err, .int .i64 r96_Sent, .int .i64 r96_Active, .int .i64 r96_Many, .bool r96_Agg_Has_0, .bool r96_Agg_Has_1, .bool r96_Agg_Has_2, .bool r96_Agg_Has_3, .bool r96_Agg_Has_4, .int .i64 r96_Agg_V_0, .int .i64 r96_Agg_V_1, .int .i64 r96_Agg_V_2, .int .i64 r96_Agg_V_3, .int .i64 r96_Agg_V_4, .slice r96_Valuesa r96_Valuesl r96_Valuesc] = some H25 ∧
 FW Ee F_wire_NewWriter [] H25 fun v_5 H26 =>
 ∃ (r97 : Option Addr),
 v_5 = .pointer r97 ∧
 ∃ (t99_Job : Int) (t99_Epoch : Int) (t99_Step : Int) (t99_Phase : Int) (t99_Worker : Int) (t99_Err : Int) (t99_Sent : Int) (t99_Active : Int) (t99_Many : Int) (t99_Agg_Has_0 : Bool) (t99_Agg_Has_1 : Bool) (t99_Agg_Has_2 : Bool) (t99_Agg_Has_3 : Bool) (t99_Agg_Has_4 : Bool) (t99_Agg_V_0 : Int) (t99_Agg_V_1 : Int) (t99_Agg_V_2 : Int) (t99_Agg_V_3 : Int) (t99_Agg_V_4 : Int) (t99_Valuesa : Option Addr) (t99_Valuesl : Nat) (t99_Valuesc : Nat),
 H26.cell H23.next (0 + 0) = some (.int .i64 t99_Job) ∧
 H26.cell H23.next (0 + 1) = some (.int .i64 t99_Epoch) ∧
 H26.cell H23.next (0 + 2) = some (.int .i64 t99_Step) ∧
 H26.cell H23.next (0 + 3) = some (.int .i64 t99_Phase) ∧
 H26.cell H23.next (0 + 4) = some (.int .i64 t99_Worker) ∧
 H26.cell H23.next (0 + 5) = some (.int .i64 t99_Err) ∧
 H26.cell H23.next (0 + 6) = some (.int .i64 t99_Sent) ∧
 H26.cell H23.next (0 + 7) = some (.int .i64 t99_Active) ∧
 H26.cell H23.next (0 + 8) = some (.int .i64 t99_Many) ∧
 H26.cell H23.next (0 + 9) = some (.bool t99_Agg_Has_0) ∧
 H26.cell H23.next (0 + 10) = some (.bool t99_Agg_Has_1) ∧
 H26.cell H23.next (0 + 11) = some (.bool t99_Agg_Has_2) ∧
 H26.cell H23.next (0 + 12) = some (.bool t99_Agg_Has_3) ∧
 H26.cell H23.next (0 + 13) = some (.bool t99_Agg_Has_4) ∧
 H26.cell H23.next (0 + 14) = some (.int .i64 t99_Agg_V_0) ∧
 H26.cell H23.next (0 + 15) = some (.int .i64 t99_Agg_V_1) ∧
 H26.cell H23.next (0 + 16) = some (.int .i64 t99_Agg_V_2) ∧
 H26.cell H23.next (0 + 17) = some (.int .i64 t99_Agg_V_3) ∧
 H26.cell H23.next (0 + 18) = some (.int .i64 t99_Agg_V_4) ∧
 H26.cell H23.next (0 + 19) = some (.slice t99_Valuesa t99_Valuesl t99_Valuesc) ∧
 FW Ee F_master_PutReport [.pointer r97, .agg ⟨[.int .i64 t99_Job, .int .i64 t99_Epoch, .int .i64 t99_Step, .int .i64 t99_Phase, .int .i64 t99_Worker, .int .i64 t99_Err, .int .i64 t99_Sent, .int .i64 t99_Active, .int .i64 t99_Many, .bool t99_Agg_Has_0, .bool t99_Agg_Has_1, .bool t99_Agg_Has_2, .bool t99_Agg_Has_3, .bool t99_Agg_Has_4, .int .i64 t99_Agg_V_0, .int .i64 t99_Agg_V_1, .int .i64 t99_Agg_V_2, .int .i64 t99_Agg_V_3, .int .i64 t99_Agg_V_4, .slice t99_Valuesa t99_Valuesl t99_Valuesc]⟩] H26 fun v_6 H27 =>
 v_6 = .tuple ⟨[]⟩ ∧
 FW Ee F_cohortlaw17_awake [] H27 fun v_7 H28 =>
 ∃ (r101 : Bool),
 v_7 = .bool r101 ∧
 cond (!r101) (
 Q (.bool false) H28) (
 FW Ee F_wire_Writer_All [.pointer r97] H28 fun v_8 H29 =>
 ∃ (r105 : List UInt8),
 v_8 = .string ⟨⟨r105⟩⟩ ∧
 FW Ee F_wire_Writer_All [.pointer r87] H29 fun v_9 H30 =>
 ∃ (r107 : List UInt8),
 v_9 = .string ⟨⟨r107⟩⟩ ∧
 cond (!((r105 : List UInt8) == r107)) (
 Q (.bool false) H30) (
 FW Ee F_wire_Reader_Left [.pointer r94] H30 fun v_10 H31 =>
 ∃ (r112 : Int),
 v_10 = .int .i64 r112 ∧
 cond (r112 != 1) (
 Q (.bool false) H31) (
 ∃ (t117 : Int),
 H31.cell H23.next 0 = some (.int .i64 t117) ∧
 ∃ (t119 : Int),
 H31.cell H.next 0 = some (.int .i64 t119) ∧
 cond (t117 != t119) (
 Q (.bool false) H31) (
 ∃ (t124 : Int),
 H31.cell H23.next 5 = some (.int .i64 t124) ∧
 ∃ (t126 : Int),
 H31.cell H.next 5 = some (.int .i64 t126) ∧
 cond (t124 != t126) (
 Q (.bool false) H31) (
 ∃ (t131_Has_0 : Bool) (t131_Has_1 : Bool) (t131_Has_2 : Bool) (t131_Has_3 : Bool) (t131_Has_4 : Bool) (t131_V_0 : Int) (t131_V_1 : Int) (t131_V_2 : Int) (t131_V_3 : Int) (t131_V_4 : Int),
 H31.cell H23.next (9 + 0) = some (.bool t131_Has_0) ∧
 H31.cell H23.next (9 + 1) = some (.bool t131_Has_1) ∧
 H31.cell H23.next (9 + 2) = some (.bool t131_Has_2) ∧
 H31.cell H23.next (9 + 3) = some (.bool t131_Has_3) ∧
 H31.cell H23.next (9 + 4) = some (.bool t131_Has_4) ∧
 H31.cell H23.next (9 + 5) = some (.int .i64 t131_V_0) ∧
 H31.cell H23.next (9 + 6) = some (.int .i64 t131_V_1) ∧
 H31.cell H23.next (9 + 7) = some (.int .i64 t131_V_2) ∧
 H31.cell H23.next (9 + 8) = some (.int .i64 t131_V_3) ∧
 H31.cell H23.next (9 + 9) = some (.int .i64 t131_V_4) ∧
 ∃ (t133_Has_0 : Bool) (t133_Has_1 : Bool) (t133_Has_2 : Bool) (t133_Has_3 : Bool) (t133_Has_4 : Bool) (t133_V_0 : Int) (t133_V_1 : Int) (t133_V_2 : Int) (t133_V_3 : Int) (t133_V_4 : Int),
 H31.cell H.next (9 + 0) = some (.bool t133_Has_0) ∧
 H31.cell H.next (9 + 1) = some (.bool t133_Has_1) ∧
 H31.cell H.next (9 + 2) = some (.bool t133_Has_2) ∧
 H31.cell H.next (9 + 3) = some (.bool t133_Has_3) ∧
 H31.cell H.next (9 + 4) = some (.bool t133_Has_4) ∧
 H31.cell H.next (9 + 5) = some (.int .i64 t133_V_0) ∧
 H31.cell H.next (9 + 6) = some (.int .i64 t133_V_1) ∧
 H31.cell H.next (9 + 7) = some (.int .i64 t133_V_2) ∧
 H31.cell H.next (9 + 8) = some (.int .i64 t133_V_3) ∧
 H31.cell H.next (9 + 9) = some (.int .i64 t133_V_4) ∧
 ∃ (eq : Bool),
 binv Ee .neq T_api_Aggregate (.agg ⟨[.bool t131_Has_0, .bool t131_Has_1, .bool t131_Has_2, .bool t131_Has_3, .bool t131_Has_4, .int .i64 t131_V_0, .int .i64 t131_V_1, .int .i64 t131_V_2, .int .i64 t131_V_3, .int .i64 t131_V_4]⟩) (.agg ⟨[.bool t133_Has_0, .bool t133_Has_1, .bool t133_Has_2, .bool t133_Has_3, .bool t133_Has_4, .int .i64 t133_V_0, .int .i64 t133_V_1, .int .i64 t133_V_2, .int .i64 t133_V_3, .int .i64 t133_V_4]⟩) = some (.bool eq) ∧
 cond (eq) (
 Q (.bool false) H31) (
 ∃ (t138a : Option Addr) (t138l : Nat) (t138c : Nat),
 H31.cell H23.next 19 = some (.slice t138a t138l t138c) ∧
 ∃ (t141a : Option Addr) (t141l : Nat) (t141c : Nat),
 H31.cell H.next 19 = some (.slice t141a t141l t141c) ∧
 cond ((((t138l : Nat) : Int)) != (((t141l : Nat) : Int))) (
 Q (.bool false) H31) (
 ∃ (t145_Program : List UInt8) (t145_Graph_Verticesa : Option Addr) (t145_Graph_Verticesl : Nat) (t145_Graph_Verticesc : Nat) (t145_Paramsa : Option Addr) (t145_Paramsl : Nat) (t145_Paramsc : Nat) (t145_Steps : Int) (t145_Sent : Int) (t145_Parts : Int),
 H31.cell H1.next (0 + 0) = some (.string ⟨⟨t145_Program⟩⟩) ∧
 H31.cell H1.next (0 + 1) = some (.slice t145_Graph_Verticesa t145_Graph_Verticesl t145_Graph_Verticesc) ∧
 H31.cell H1.next (0 + 2) = some (.slice t145_Paramsa t145_Paramsl t145_Paramsc) ∧
 H31.cell H1.next (0 + 3) = some (.int .i64 t145_Steps) ∧
 H31.cell H1.next (0 + 4) = some (.int .i64 t145_Sent) ∧
 H31.cell H1.next (0 + 5) = some (.int .i64 t145_Parts) ∧
 FW Ee F_cohortlaw09_Small [.agg ⟨[.string ⟨⟨t145_Program⟩⟩, .slice t145_Graph_Verticesa t145_Graph_Verticesl t145_Graph_Verticesc, .slice t145_Paramsa t145_Paramsl t145_Paramsc, .int .i64 t145_Steps, .int .i64 t145_Sent, .int .i64 t145_Parts]⟩] H31 fun v_11 H32 =>
 ∃ (r146_Program : List UInt8) (r146_Graph_Verticesa : Option Addr) (r146_Graph_Verticesl : Nat) (r146_Graph_Verticesc : Nat) (r146_Paramsa : Option Addr) (r146_Paramsl : Nat) (r146_Paramsc : Nat) (r146_Steps : Int) (r146_Sent : Int) (r146_Parts : Int),
 v_11 = .agg ⟨[.string ⟨⟨r146_Program⟩⟩, .slice r146_Graph_Verticesa r146_Graph_Verticesl r146_Graph_Verticesc, .slice r146_Paramsa r146_Paramsl r146_Paramsc, .int .i64 r146_Steps, .int .i64 r146_Sent, .int .i64 r146_Parts]⟩ ∧
 ∀ (H33 : AH),
 H33 = H32.new (.cells [.string ⟨⟨[]⟩⟩, .slice none 0 0, .slice none 0 0, .int .i64 0, .int .i64 0, .int .i64 0] 0) →
 ∃ (H34 : AH),
 storeCellsv H33 H32.next 0 [.string ⟨⟨r146_Program⟩⟩, .slice r146_Graph_Verticesa r146_Graph_Verticesl r146_Graph_Verticesc, .slice r146_Paramsa r146_Paramsl r146_Paramsc, .int .i64 r146_Steps, .int .i64 r146_Sent, .int .i64 r146_Parts] = some H34 ∧
 ∃ (t147_Program : List UInt8) (t147_Graph_Verticesa : Option Addr) (t147_Graph_Verticesl : Nat) (t147_Graph_Verticesc : Nat) (t147_Paramsa : Option Addr) (t147_Paramsl : Nat) (t147_Paramsc : Nat) (t147_Steps : Int) (t147_Sent : Int) (t147_Parts : Int),
 H34.cell H32.next (0 + 0) = some (.string ⟨⟨t147_Program⟩⟩) ∧
 H34.cell H32.next (0 + 1) = some (.slice t147_Graph_Verticesa t147_Graph_Verticesl t147_Graph_Verticesc) ∧
 H34.cell H32.next (0 + 2) = some (.slice t147_Paramsa t147_Paramsl t147_Paramsc) ∧
 H34.cell H32.next (0 + 3) = some (.int .i64 t147_Steps) ∧
 H34.cell H32.next (0 + 4) = some (.int .i64 t147_Sent) ∧
 H34.cell H32.next (0 + 5) = some (.int .i64 t147_Parts) ∧
 FW Ee F_cohortlaw09_Ref [.agg ⟨[.string ⟨⟨t147_Program⟩⟩, .slice t147_Graph_Verticesa t147_Graph_Verticesl t147_Graph_Verticesc, .slice t147_Paramsa t147_Paramsl t147_Paramsc, .int .i64 t147_Steps, .int .i64 t147_Sent, .int .i64 t147_Parts]⟩] H34 fun v_12 H35 =>
 ∃ (r148_Program : List UInt8) (r148_Grapha : Option Addr) (r148_Graphl : Nat) (r148_Graphc : Nat) (r148_Paramsa : Option Addr) (r148_Paramsl : Nat) (r148_Paramsc : Nat) (r148_Steps : Int) (r148_Sent : Int) (r148_Parts : Int),
 v_12 = .agg ⟨[.string ⟨⟨r148_Program⟩⟩, .slice r148_Grapha r148_Graphl r148_Graphc, .slice r148_Paramsa r148_Paramsl r148_Paramsc, .int .i64 r148_Steps, .int .i64 r148_Sent, .int .i64 r148_Parts]⟩ ∧
 FW Ee F_cohortref09_Check [.agg ⟨[.string ⟨⟨r148_Program⟩⟩, .slice r148_Grapha r148_Graphl r148_Graphc, .slice r148_Paramsa r148_Paramsl r148_Paramsc, .int .i64 r148_Steps, .int .i64 r148_Sent, .int .i64 r148_Parts]⟩] H35 fun v_13 H36 =>
 ∃ (r149 : Int),
 v_13 = .int .i64 r149 ∧
 cond (r149 != 0) (
 Q (.bool true) H36) (
 (0 : Int) ≤ 0 ∧
 (0 : Int) < ((3 : Nat) : Int) ∧
 ∃ (t152 : Int),
 H36.cell H2.next (0 + (0 : Int).toNat * 1) = some (.int .i64 t152) ∧
 ∀ (t153 : Int),
 t153 = iand .i64 t152 63 →
 (0 : Int) ≤ 1 ∧
 (1 : Int) < ((3 : Nat) : Int) ∧
 ∃ (t155 : Int),
 H36.cell H2.next (0 + (1 : Int).toNat * 1) = some (.int .i64 t155) ∧
 ∀ (t156 : Int),
 t156 = iand .i64 t155 63 →
 (0 : Int) ≤ 2 ∧
 (2 : Int) < ((3 : Nat) : Int) ∧
 ∃ (t158 : Int),
 H36.cell H2.next (0 + (2 : Int).toNat * 1) = some (.int .i64 t158) ∧
 ∀ (t159 : Int),
 t159 = iand .i64 t158 63 →
 (0 : Int) ≤ 0 ∧
 (0 : Int) < ((3 : Nat) : Int) ∧
 ∃ (t161 : Int),
 H36.cell H2.next (0 + (0 : Int).toNat * 1) = some (.int .i64 t161) ∧
 ∀ (t162 : Int),
 t162 = iand .i64 t161 7 →
 ∀ (H37 : AH),
 H37 = H36.new (.cells [.int .i64 t162] 0) →
 (0 : Int) ≤ 1 ∧
 (1 : Int) < ((3 : Nat) : Int) ∧
 ∃ (t165 : Int),
 H37.cell H2.next (0 + (1 : Int).toNat * 1) = some (.int .i64 t165) ∧
 ∀ (t166 : Int),
 t166 = iand .i64 t165 7 →
 (0 : Int) ≤ 2 ∧
 (2 : Int) < ((3 : Nat) : Int) ∧
 ∃ (t168 : Int),
 H37.cell H2.next (0 + (2 : Int).toNat * 1) = some (.int .i64 t168) ∧
 ∀ (t169 : Int),
 t169 = iand .i64 t168 7 →
 ∀ (H38 : AH),
 H38 = H37.new (.cells [.int .i64 t166, .int .i64 t169] 0) →
 ∃ (t171_Program : List UInt8) (t171_Graph_Verticesa : Option Addr) (t171_Graph_Verticesl : Nat) (t171_Graph_Verticesc : Nat) (t171_Paramsa : Option Addr) (t171_Paramsl : Nat) (t171_Paramsc : Nat) (t171_Steps : Int) (t171_Sent : Int) (t171_Parts : Int),
 H38.cell H32.next (0 + 0) = some (.string ⟨⟨t171_Program⟩⟩) ∧
 H38.cell H32.next (0 + 1) = some (.slice t171_Graph_Verticesa t171_Graph_Verticesl t171_Graph_Verticesc) ∧
 H38.cell H32.next (0 + 2) = some (.slice t171_Paramsa t171_Paramsl t171_Paramsc) ∧
 H38.cell H32.next (0 + 3) = some (.int .i64 t171_Steps) ∧
 H38.cell H32.next (0 + 4) = some (.int .i64 t171_Sent) ∧
 H38.cell H32.next (0 + 5) = some (.int .i64 t171_Parts) ∧
 ∃ (t173_Has_0 : Bool) (t173_Has_1 : Bool) (t173_Has_2 : Bool) (t173_Has_3 : Bool) (t173_Has_4 : Bool) (t173_V_0 : Int) (t173_V_1 : Int) (t173_V_2 : Int) (t173_V_3 : Int) (t173_V_4 : Int),
 H38.cell H.next (9 + 0) = some (.bool t173_Has_0) ∧
 H38.cell H.next (9 + 1) = some (.bool t173_Has_1) ∧
 H38.cell H.next (9 + 2) = some (.bool t173_Has_2) ∧
 H38.cell H.next (9 + 3) = some (.bool t173_Has_3) ∧
 H38.cell H.next (9 + 4) = some (.bool t173_Has_4) ∧
 H38.cell H.next (9 + 5) = some (.int .i64 t173_V_0) ∧
 H38.cell H.next (9 + 6) = some (.int .i64 t173_V_1) ∧
 H38.cell H.next (9 + 7) = some (.int .i64 t173_V_2) ∧
 H38.cell H.next (9 + 8) = some (.int .i64 t173_V_3) ∧
 H38.cell H.next (9 + 9) = some (.int .i64 t173_V_4) ∧
 (0 : Int) ≤ 0 ∧
 (0 : Int) < ((3 : Nat) : Int) ∧
 ∃ (t175 : Int),
 H38.cell H2.next (0 + (0 : Int).toNat * 1) = some (.int .i64 t175) ∧
 (2 : Int) ≠ 0 ∧
 ∀ (t176 : Int),
 t176 = (t175 : Int).tmod 2 →
 ∀ (H39 : AH),
 H39 = H38.new (.cells [.int .i64 0, .int .i64 0, .int .i64 0, .int .i64 0, .slice none 0 0, .slice none 0 0, .string ⟨⟨[]⟩⟩, .slice none 0 0, .slice none 0 0, .int .i64 0, .int .i64 0, .int .i64 0, .bool false, .bool false, .bool false, .bool false, .bool false, .int .i64 0, .int .i64 0, .int .i64 0, .int .i64 0, .int .i64 0, .int .i64 0, .int .i64 0, .int .i64 0, .bool false] 0) →
 ∃ (H40 : AH),
 storeCellsv H39 H38.next 0 [.int .i64 t153, .int .i64 t156, .int .i64 t159, .int .i64 2, .slice (some ⟨H36.next, 0, none⟩) 1 2, .slice (some ⟨H37.next, 0, none⟩) 2 4, .string ⟨⟨t171_Program⟩⟩, .slice t171_Graph_Verticesa t171_Graph_Verticesl t171_Graph_Verticesc, .slice t171_Paramsa t171_Paramsl t171_Paramsc, .int .i64 t171_Steps, .int .i64 t171_Sent, .int .i64 t171_Parts, .bool t173_Has_0, .bool t173_Has_1, .bool t173_Has_2, .bool t173_Has_3, .bool t173_Has_4, .int .i64 t173_V_0, .int .i64 t173_V_1, .int .i64 t173_V_2, .int .i64 t173_V_3, .int .i64 t173_V_4, .int .i64 5, .int .i64 4, .int .i64 1, .bool (t176 == 0)] = some H40 ∧
 FW Ee F_wire_NewWriter [] H40 fun v_14 H41 =>
 ∃ (r179 : Option Addr),
 v_14 = .pointer r179 ∧
 ∃ (t181_Job : Int) (t181_Epoch : Int) (t181_Step : Int) (t181_Phase : Int) (t181_Partsa : Option Addr) (t181_Partsl : Nat) (t181_Partsc : Nat) (t181_Assigneda : Option Addr) (t181_Assignedl : Nat) (t181_Assignedc : Nat) (t181_Spec_Program : List UInt8) (t181_Spec_Graph_Verticesa : Option Addr) (t181_Spec_Graph_Verticesl : Nat) (t181_Spec_Graph_Verticesc : Nat) (t181_Spec_Paramsa : Option Addr) (t181_Spec_Paramsl : Nat) (t181_Spec_Paramsc : Nat) (t181_Spec_Steps : Int) (t181_Spec_Sent : Int) (t181_Spec_Parts : Int) (t181_Before_Has_0 : Bool) (t181_Before_Has_1 : Bool) (t181_Before_Has_2 : Bool) (t181_Before_Has_3 : Bool) (t181_Before_Has_4 : Bool) (t181_Before_V_0 : Int) (t181_Before_V_1 : Int) (t181_Before_V_2 : Int) (t181_Before_V_3 : Int) (t181_Before_V_4 : Int) (t181_Many : Int) (t181_From : Int) (t181_FromEpoch : Int) (t181_Keep : Bool),
 H41.cell H38.next (0 + 0) = some (.int .i64 t181_Job) ∧
 H41.cell H38.next (0 + 1) = some (.int .i64 t181_Epoch) ∧
 H41.cell H38.next (0 + 2) = some (.int .i64 t181_Step) ∧
 H41.cell H38.next (0 + 3) = some (.int .i64 t181_Phase) ∧
 H41.cell H38.next (0 + 4) = some (.slice t181_Partsa t181_Partsl t181_Partsc) ∧
 H41.cell H38.next (0 + 5) = some (.slice t181_Assigneda t181_Assignedl t181_Assignedc) ∧
 H41.cell H38.next (0 + 6) = some (.string ⟨⟨t181_Spec_Program⟩⟩) ∧
 H41.cell H38.next (0 + 7) = some (.slice t181_Spec_Graph_Verticesa t181_Spec_Graph_Verticesl t181_Spec_Graph_Verticesc) ∧
 H41.cell H38.next (0 + 8) = some (.slice t181_Spec_Paramsa t181_Spec_Paramsl t181_Spec_Paramsc) ∧
 H41.cell H38.next (0 + 9) = some (.int .i64 t181_Spec_Steps) ∧
 H41.cell H38.next (0 + 10) = some (.int .i64 t181_Spec_Sent) ∧
 H41.cell H38.next (0 + 11) = some (.int .i64 t181_Spec_Parts) ∧
 H41.cell H38.next (0 + 12) = some (.bool t181_Before_Has_0) ∧
 H41.cell H38.next (0 + 13) = some (.bool t181_Before_Has_1) ∧
 H41.cell H38.next (0 + 14) = some (.bool t181_Before_Has_2) ∧
 H41.cell H38.next (0 + 15) = some (.bool t181_Before_Has_3) ∧
 H41.cell H38.next (0 + 16) = some (.bool t181_Before_Has_4) ∧
 H41.cell H38.next (0 + 17) = some (.int .i64 t181_Before_V_0) ∧
 H41.cell H38.next (0 + 18) = some (.int .i64 t181_Before_V_1) ∧
 H41.cell H38.next (0 + 19) = some (.int .i64 t181_Before_V_2) ∧
 H41.cell H38.next (0 + 20) = some (.int .i64 t181_Before_V_3) ∧
 H41.cell H38.next (0 + 21) = some (.int .i64 t181_Before_V_4) ∧
 H41.cell H38.next (0 + 22) = some (.int .i64 t181_Many) ∧
 H41.cell H38.next (0 + 23) = some (.int .i64 t181_From) ∧
 H41.cell H38.next (0 + 24) = some (.int .i64 t181_FromEpoch) ∧
 H41.cell H38.next (0 + 25) = some (.bool t181_Keep) ∧
 FW Ee F_master_PutTask [.pointer r179, .agg ⟨[.int .i64 t181_Job, .int .i64 t181_Epoch, .int .i64 t181_Step, .int .i64 t181_Phase, .slice t181_Partsa t181_Partsl t181_Partsc, .slice t181_Assigneda t181_Assignedl t181_Assignedc, .string ⟨⟨t181_Spec_Program⟩⟩, .slice t181_Spec_Graph_Verticesa t181_Spec_Graph_Verticesl t181_Spec_Graph_Verticesc, .slice t181_Spec_Paramsa t181_Spec_Paramsl t181_Spec_Paramsc, .int .i64 t181_Spec_Steps, .int .i64 t181_Spec_Sent, .int .i64 t181_Spec_Parts, .bool t181_Before_Has_0, .bool t181_Before_Has_1, .bool t181_Before_Has_2, .bool t181_Before_Has_3, .bool t181_Before_Has_4, .int .i64 t181_Before_V_0, .int .i64 t181_Before_V_1, .int .i64 t181_Before_V_2, .int .i64 t181_Before_V_3, .int .i64 t181_Before_V_4, .int .i64 t181_Many, .int .i64 t181_From, .int .i64 t181_FromEpoch, .bool t181_Keep]⟩] H41 fun v_15 H42 =>
 v_15 = .tuple ⟨[]⟩ ∧
 FW Ee F_wire_Writer_All [.pointer r179] H42 fun v_16 H43 =>
 ∃ (r184 : List UInt8),
 v_16 = .string ⟨⟨r184⟩⟩ ∧
 (r184 : List UInt8).length + ([120] : List UInt8).length < 4611686018427387904 ∧
 FW Ee F_wire_NewReader [.string ⟨⟨r184 ++ [120]⟩⟩] H43 fun v_17 H44 =>
 ∃ (r186 : Option Addr),
 v_17 = .pointer r186 ∧
 FW Ee F_master_TakeTask [.pointer r186] H44 fun v_18 H45 =>
 ∃ (r188_Job : Int) (r188_Epoch : Int) (r188_Step : Int) (r188_Phase : Int) (r188_Partsa : Option Addr) (r188_Partsl : Nat) (r188_Partsc : Nat) (r188_Assigneda : Option Addr) (r188_Assignedl : Nat) (r188_Assignedc : Nat) (r188_Spec_Program : List UInt8) (r188_Spec_Graph_Verticesa : Option Addr) (r188_Spec_Graph_Verticesl : Nat) (r188_Spec_Graph_Verticesc : Nat) (r188_Spec_Paramsa : Option Addr) (r188_Spec_Paramsl : Nat) (r188_Spec_Paramsc : Nat) (r188_Spec_Steps : Int) (r188_Spec_Sent : Int) (r188_Spec_Parts : Int) (r188_Before_Has_0 : Bool) (r188_Before_Has_1 : Bool) (r188_Before_Has_2 : Bool) (r188_Before_Has_3 : Bool) (r188_Before_Has_4 : Bool) (r188_Before_V_0 : Int) (r188_Before_V_1 : Int) (r188_Before_V_2 : Int) (r188_Before_V_3 : Int) (r188_Before_V_4 : Int) (r188_Many : Int) (r188_From : Int) (r188_FromEpoch : Int) (r188_Keep : Bool),
 v_18 = .agg ⟨[.int .i64 r188_Job, .int .i64 r188_Epoch, .int .i64 r188_Step, .int .i64 r188_Phase, .slice r188_Partsa r188_Partsl r188_Partsc, .slice r188_Assigneda r188_Assignedl r188_Assignedc, .string ⟨⟨r188_Spec_Program⟩⟩, .slice r188_Spec_Graph_Verticesa r188_Spec_Graph_Verticesl r188_Spec_Graph_Verticesc, .slice r188_Spec_Paramsa r188_Spec_Paramsl r188_Spec_Paramsc, .int .i64 r188_Spec_Steps, .int .i64 r188_Spec_Sent, .int .i64 r188_Spec_Parts, .bool r188_Before_Has_0, .bool r188_Before_Has_1, .bool r188_Before_Has_2, .bool r188_Before_Has_3, .bool r188_Before_Has_4, .int .i64 r188_Before_V_0, .int .i64 r188_Before_V_1, .int .i64 r188_Before_V_2, .int .i64 r188_Before_V_3, .int .i64 r188_Before_V_4, .int .i64 r188_Many, .int .i64 r188_From, .int .i64 r188_FromEpoch, .bool r188_Keep]⟩ ∧
 ∀ (H46 : AH),
 H46 = H45.new (.cells [.int .i64 0, .int .i64 0, .int .i64 0, .int .i64 0, .slice none 0 0, .slice none 0 0, .string ⟨⟨[]⟩⟩, .slice none 0 0, .slice none 0 0, .int .i64 0, .int .i64 0, .int .i64 0, .bool false, .bool false, .bool false, .bool false, .bool false, .int .i64 0, .int .i64 0, .int .i64 0, .int .i64 0, .int .i64 0, .int .i64 0, .int .i64 0, .int .i64 0, .bool false] 0) →
 ∃ (H47 : AH),
 storeCellsv H46 H45.next 0 [.int .i64 r188_Job, .int .i64 r188_Epoch, .int .i64 r188_Step, .int .i64 r188_Phase, .slice r188_Partsa r188_Partsl r188_Partsc, .slice r188_Assigneda r188_Assignedl r188_Assignedc, .string ⟨⟨r188_Spec_Program⟩⟩, .slice r188_Spec_Graph_Verticesa r188_Spec_Graph_Verticesl r188_Spec_Graph_Verticesc, .slice r188_Spec_Paramsa r188_Spec_Paramsl r188_Spec_Paramsc, .int .i64 r188_Spec_Steps, .int .i64 r188_Spec_Sent, .int .i64 r188_Spec_Parts, .bool r188_Before_Has_0, .bool r188_Before_Has_1, .bool r188_Before_Has_2, .bool r188_Before_Has_3, .bool r188_Before_Has_4, .int .i64 r188_Before_V_0, .int .i64 r188_Before_V_1, .int .i64 r188_Before_V_2, .int .i64 r188_Before_V_3, .int .i64 r188_Before_V_4, .int .i64 r188_Many, .int .i64 r188_From, .int .i64 r188_FromEpoch, .bool r188_Keep] = some H47 ∧
 FW Ee F_wire_NewWriter [] H47 fun v_19 H48 =>
 ∃ (r189 : Option Addr),
 v_19 = .pointer r189 ∧
 ∃ (t191_Job : Int) (t191_Epoch : Int) (t191_Step : Int) (t191_Phase : Int) (t191_Partsa : Option Addr) (t191_Partsl : Nat) (t191_Partsc : Nat) (t191_Assigneda : Option Addr) (t191_Assignedl : Nat) (t191_Assignedc : Nat) (t191_Spec_Program : List UInt8) (t191_Spec_Graph_Verticesa : Option Addr) (t191_Spec_Graph_Verticesl : Nat) (t191_Spec_Graph_Verticesc : Nat) (t191_Spec_Paramsa : Option Addr) (t191_Spec_Paramsl : Nat) (t191_Spec_Paramsc : Nat) (t191_Spec_Steps : Int) (t191_Spec_Sent : Int) (t191_Spec_Parts : Int) (t191_Before_Has_0 : Bool) (t191_Before_Has_1 : Bool) (t191_Before_Has_2 : Bool) (t191_Before_Has_3 : Bool) (t191_Before_Has_4 : Bool) (t191_Before_V_0 : Int) (t191_Before_V_1 : Int) (t191_Before_V_2 : Int) (t191_Before_V_3 : Int) (t191_Before_V_4 : Int) (t191_Many : Int) (t191_From : Int) (t191_FromEpoch : Int) (t191_Keep : Bool),
 H48.cell H45.next (0 + 0) = some (.int .i64 t191_Job) ∧
 H48.cell H45.next (0 + 1) = some (.int .i64 t191_Epoch) ∧
 H48.cell H45.next (0 + 2) = some (.int .i64 t191_Step) ∧
 H48.cell H45.next (0 + 3) = some (.int .i64 t191_Phase) ∧
 H48.cell H45.next (0 + 4) = some (.slice t191_Partsa t191_Partsl t191_Partsc) ∧
 H48.cell H45.next (0 + 5) = some (.slice t191_Assigneda t191_Assignedl t191_Assignedc) ∧
 H48.cell H45.next (0 + 6) = some (.string ⟨⟨t191_Spec_Program⟩⟩) ∧
 H48.cell H45.next (0 + 7) = some (.slice t191_Spec_Graph_Verticesa t191_Spec_Graph_Verticesl t191_Spec_Graph_Verticesc) ∧
 H48.cell H45.next (0 + 8) = some (.slice t191_Spec_Paramsa t191_Spec_Paramsl t191_Spec_Paramsc) ∧
 H48.cell H45.next (0 + 9) = some (.int .i64 t191_Spec_Steps) ∧
 H48.cell H45.next (0 + 10) = some (.int .i64 t191_Spec_Sent) ∧
 H48.cell H45.next (0 + 11) = some (.int .i64 t191_Spec_Parts) ∧
 H48.cell H45.next (0 + 12) = some (.bool t191_Before_Has_0) ∧
 H48.cell H45.next (0 + 13) = some (.bool t191_Before_Has_1) ∧
 H48.cell H45.next (0 + 14) = some (.bool t191_Before_Has_2) ∧
 H48.cell H45.next (0 + 15) = some (.bool t191_Before_Has_3) ∧
 H48.cell H45.next (0 + 16) = some (.bool t191_Before_Has_4) ∧
 H48.cell H45.next (0 + 17) = some (.int .i64 t191_Before_V_0) ∧
 H48.cell H45.next (0 + 18) = some (.int .i64 t191_Before_V_1) ∧
 H48.cell H45.next (0 + 19) = some (.int .i64 t191_Before_V_2) ∧
 H48.cell H45.next (0 + 20) = some (.int .i64 t191_Before_V_3) ∧
 H48.cell H45.next (0 + 21) = some (.int .i64 t191_Before_V_4) ∧
 H48.cell H45.next (0 + 22) = some (.int .i64 t191_Many) ∧
 H48.cell H45.next (0 + 23) = some (.int .i64 t191_From) ∧
 H48.cell H45.next (0 + 24) = some (.int .i64 t191_FromEpoch) ∧
 H48.cell H45.next (0 + 25) = some (.bool t191_Keep) ∧
 FW Ee F_master_PutTask [.pointer r189, .agg ⟨[.int .i64 t191_Job, .int .i64 t191_Epoch, .int .i64 t191_Step, .int .i64 t191_Phase, .slice t191_Partsa t191_Partsl t191_Partsc, .slice t191_Assigneda t191_Assignedl t191_Assignedc, .string ⟨⟨t191_Spec_Program⟩⟩, .slice t191_Spec_Graph_Verticesa t191_Spec_Graph_Verticesl t191_Spec_Graph_Verticesc, .slice t191_Spec_Paramsa t191_Spec_Paramsl t191_Spec_Paramsc, .int .i64 t191_Spec_Steps, .int .i64 t191_Spec_Sent, .int .i64 t191_Spec_Parts, .bool t191_Before_Has_0, .bool t191_Before_Has_1, .bool t191_Before_Has_2, .bool t191_Before_Has_3, .bool t191_Before_Has_4, .int .i64 t191_Before_V_0, .int .i64 t191_Before_V_1, .int .i64 t191_Before_V_2, .int .i64 t191_Before_V_3, .int .i64 t191_Before_V_4, .int .i64 t191_Many, .int .i64 t191_From, .int .i64 t191_FromEpoch, .bool t191_Keep]⟩] H48 fun v_20 H49 =>
 v_20 = .tuple ⟨[]⟩ ∧
 FW Ee F_wire_Writer_All [.pointer r189] H49 fun v_21 H50 =>
 ∃ (r194 : List UInt8),
 v_21 = .string ⟨⟨r194⟩⟩ ∧
 FW Ee F_wire_Writer_All [.pointer r179] H50 fun v_22 H51 =>
 ∃ (r196 : List UInt8),
 v_22 = .string ⟨⟨r196⟩⟩ ∧
 cond ((r194 : List UInt8) == r196) (
 FW Ee F_wire_Reader_Left [.pointer r186] H51 fun v_23 H52 =>
 ∃ (r200 : Int),
 v_23 = .int .i64 r200 ∧
 cond (r200 == 1) (
 ∃ (t205 : Int),
 H52.cell H45.next 0 = some (.int .i64 t205) ∧
 ∃ (t207 : Int),
 H52.cell H38.next 0 = some (.int .i64 t207) ∧
 cond (t205 == t207) (
 ∃ (t212 : Int),
 H52.cell H45.next 2 = some (.int .i64 t212) ∧
 ∃ (t214 : Int),
 H52.cell H38.next 2 = some (.int .i64 t214) ∧
 cond (t212 == t214) (
 ∃ (t219 : Bool),
 H52.cell H45.next 25 = some (.bool t219) ∧
 ∃ (t221 : Bool),
 H52.cell H38.next 25 = some (.bool t221) ∧
 cond (t219 == t221) (
 ∃ (t226a : Option Addr) (t226l : Nat) (t226c : Nat),
 H52.cell H45.next 5 = some (.slice t226a t226l t226c) ∧
 cond ((((t226l : Nat) : Int)) == 2) (
 ∃ (t232a : Option Addr) (t232l : Nat) (t232c : Nat),
 H52.cell H45.next 4 = some (.slice t232a t232l t232c) ∧
 grd t232a.isSome (
 (0 : Int) ≤ 0 ∧
 (0 : Int) < ((t232l : Nat) : Int) ∧
 ∃ (t234 : Int),
 H52.cell ((adr t232a).block) ((adr t232a).off + (0 : Int).toNat * 1) = some (.int .i64 t234) ∧
 ∃ (t236a : Option Addr) (t236l : Nat) (t236c : Nat),
 H52.cell H38.next 4 = some (.slice t236a t236l t236c) ∧
 grd t236a.isSome (
 (0 : Int) ≤ 0 ∧
 (0 : Int) < ((t236l : Nat) : Int) ∧
 ∃ (t238 : Int),
 H52.cell ((adr t236a).block) ((adr t236a).off + (0 : Int).toNat * 1) = some (.int .i64 t238) ∧
 cond (t234 == t238) (
 ∃ (t243_Has_0 : Bool) (t243_Has_1 : Bool) (t243_Has_2 : Bool) (t243_Has_3 : Bool) (t243_Has_4 : Bool) (t243_V_0 : Int) (t243_V_1 : Int) (t243_V_2 : Int) (t243_V_3 : Int) (t243_V_4 : Int),
 H52.cell H45.next (12 + 0) = some (.bool t243_Has_0) ∧
 H52.cell H45.next (12 + 1) = some (.bool t243_Has_1) ∧
 H52.cell H45.next (12 + 2) = some (.bool t243_Has_2) ∧
 H52.cell H45.next (12 + 3) = some (.bool t243_Has_3) ∧
 H52.cell H45.next (12 + 4) = some (.bool t243_Has_4) ∧
 H52.cell H45.next (12 + 5) = some (.int .i64 t243_V_0) ∧
 H52.cell H45.next (12 + 6) = some (.int .i64 t243_V_1) ∧
 H52.cell H45.next (12 + 7) = some (.int .i64 t243_V_2) ∧
 H52.cell H45.next (12 + 8) = some (.int .i64 t243_V_3) ∧
 H52.cell H45.next (12 + 9) = some (.int .i64 t243_V_4) ∧
 ∃ (t245_Has_0 : Bool) (t245_Has_1 : Bool) (t245_Has_2 : Bool) (t245_Has_3 : Bool) (t245_Has_4 : Bool) (t245_V_0 : Int) (t245_V_1 : Int) (t245_V_2 : Int) (t245_V_3 : Int) (t245_V_4 : Int),
 H52.cell H38.next (12 + 0) = some (.bool t245_Has_0) ∧
 H52.cell H38.next (12 + 1) = some (.bool t245_Has_1) ∧
 H52.cell H38.next (12 + 2) = some (.bool t245_Has_2) ∧
 H52.cell H38.next (12 + 3) = some (.bool t245_Has_3) ∧
 H52.cell H38.next (12 + 4) = some (.bool t245_Has_4) ∧
 H52.cell H38.next (12 + 5) = some (.int .i64 t245_V_0) ∧
 H52.cell H38.next (12 + 6) = some (.int .i64 t245_V_1) ∧
 H52.cell H38.next (12 + 7) = some (.int .i64 t245_V_2) ∧
 H52.cell H38.next (12 + 8) = some (.int .i64 t245_V_3) ∧
 H52.cell H38.next (12 + 9) = some (.int .i64 t245_V_4) ∧
 ∃ (eq_1 : Bool),
 binv Ee .eql T_api_Aggregate (.agg ⟨[.bool t243_Has_0, .bool t243_Has_1, .bool t243_Has_2, .bool t243_Has_3, .bool t243_Has_4, .int .i64 t243_V_0, .int .i64 t243_V_1, .int .i64 t243_V_2, .int .i64 t243_V_3, .int .i64 t243_V_4]⟩) (.agg ⟨[.bool t245_Has_0, .bool t245_Has_1, .bool t245_Has_2, .bool t245_Has_3, .bool t245_Has_4, .int .i64 t245_V_0, .int .i64 t245_V_1, .int .i64 t245_V_2, .int .i64 t245_V_3, .int .i64 t245_V_4]⟩) = some (.bool eq_1) ∧
 Q (.bool eq_1) H52) (
 Q (.bool false) H52)))) (
 Q (.bool false) H52)) (
 Q (.bool false) H52)) (
 Q (.bool false) H52)) (
 Q (.bool false) H52)) (
 Q (.bool false) H52)) (
 Q (.bool false) H51))))))))))) (
 ∃ (t61 : Int),
 H5.cell H.next 5 = some (.int .i64 t61) ∧
 ∃ (J_8 : AH → Prop),
 (
 cond (decide (t61 ≥ 2147483648)) (
 ∃ (H53 : AH),
 storeCellsv H5 H.next 5 [.int .i64 0] = some H53 ∧
 J_8 H53) (
 J_8 H5)) ∧
 ∀ (H54 : AH),
 J_8 H54 →
 ∃ (t66a_1 : Option Addr) (t66l_1 : Nat) (t66c_1 : Nat),
 H54.cell H.next 19 = some (.slice t66a_1 t66l_1 t66c_1) ∧
 ∃ (J_9 : AH → Prop),
 (
 cond (decide ((((t66l_1 : Nat) : Int)) > 256)) (
 ∃ (t70a_1 : Option Addr) (t70l_1 : Nat) (t70c_1 : Nat),
 H54.cell H.next 19 = some (.slice t70a_1 t70l_1 t70c_1) ∧
 ∃ (t71a_1 : Option Addr) (t71l_1 : Nat) (t71c_1 : Nat),
 slcv H54 2 t70a_1 t70l_1 t70c_1 none (some (.int .i64 256)) none = some (.slice t71a_1 t71l_1 t71c_1) ∧
 ∃ (H55 : AH),
 storeCellsv H54 H.next 19 [.slice t71a_1 t71l_1 t71c_1] = some H55 ∧
 J_9 H55) (
 J_9 H54)) ∧
 ∀ (H56 : AH),
 J_9 H56 →
 ∃ (Inv_2 : Nat → Int → AH → Prop),
 (
 ∃ (n_5 : Nat),
 Inv_2 n_5 0 H56) ∧
 ∀ (n_4 : Nat),
 ∀ (k9_1 : Int) (H57 : AH),
 Inv_2 n_4 k9_1 H57 →
 cond (decide (k9_1 < 5)) (
 ∃ (J_10 : AH → Prop),
 (
 (0 : Int) ≤ k9_1 ∧
 (k9_1 : Int) < ((5 : Nat) : Int) ∧
 ∃ (t81_1 : Bool),
 H57.cell H.next (9 + (k9_1 : Int).toNat * 1) = some (.bool t81_1) ∧
 ∃ (J_11 : AH → Prop),
 (
 cond (!t81_1) (
 (0 : Int) ≤ k9_1 ∧
 (k9_1 : Int) < ((5 : Nat) : Int) ∧
 ∃ (H58 : AH),
 storeCellsv H57 H.next (14 + (k9_1 : Int).toNat * 1) [.int .i64 0] = some H58 ∧
 J_11 H58) (
 J_11 H57)) ∧
 ∀ (H59 : AH),
 J_11 H59 →
 J_10 H59) ∧
 ∀ (H60 : AH),
 J_10 H60 →
 ∀ (t76_1 : Int),
 t76_1 = IntKind.i64.wrap (k9_1 + 1) →
 ∃ (m_2 : Nat),
 m_2 < n_4 ∧
 Inv_2 m_2 t76_1 H60) (
 FW Ee F_wire_NewWriter [] H57 fun v_24 H61 =>
 ∃ (r87_1 : Option Addr),
 v_24 = .pointer r87_1 ∧
 ∃ (t89_Job_1 : Int) (t89_Epoch_1 : Int) (t89_Step_1 : Int) (t89_Phase_1 : Int) (t89_Worker_1 : Int) (t89_Err_1 : Int) (t89_Sent_1 : Int) (t89_Active_1 : Int) (t89_Many_1 : Int) (t89_Agg_Has_0_1 : Bool) (t89_Agg_Has_1_1 : Bool) (t89_Agg_Has_2_1 : Bool) (t89_Agg_Has_3_1 : Bool) (t89_Agg_Has_4_1 : Bool) (t89_Agg_V_0_1 : Int) (t89_Agg_V_1_1 : Int) (t89_Agg_V_2_1 : Int) (t89_Agg_V_3_1 : Int) (t89_Agg_V_4_1 : Int) (t89_Valuesa_1 : Option Addr) (t89_Valuesl_1 : Nat) (t89_Valuesc_1 : Nat),
 H61.cell H.next (0 + 0) = some (.int .i64 t89_Job_1) ∧
 H61.cell H.next (0 + 1) = some (.int .i64 t89_Epoch_1) ∧
 H61.cell H.next (0 + 2) = some (.int .i64 t89_Step_1) ∧
 H61.cell H.next (0 + 3) = some (.int .i64 t89_Phase_1) ∧
 H61.cell H.next (0 + 4) = some (.int .i64 t89_Worker_1) ∧
 H61.cell H.next (0 + 5) = some (.int .i64 t89_Err_1) ∧
 H61.cell H.next (0 + 6) = some (.int .i64 t89_Sent_1) ∧
 H61.cell H.next (0 + 7) = some (.int .i64 t89_Active_1) ∧
 H61.cell H.next (0 + 8) = some (.int .i64 t89_Many_1) ∧
 H61.cell H.next (0 + 9) = some (.bool t89_Agg_Has_0_1) ∧
 H61.cell H.next (0 + 10) = some (.bool t89_Agg_Has_1_1) ∧
 H61.cell H.next (0 + 11) = some (.bool t89_Agg_Has_2_1) ∧
 H61.cell H.next (0 + 12) = some (.bool t89_Agg_Has_3_1) ∧
 H61.cell H.next (0 + 13) = some (.bool t89_Agg_Has_4_1) ∧
 H61.cell H.next (0 + 14) = some (.int .i64 t89_Agg_V_0_1) ∧
 H61.cell H.next (0 + 15) = some (.int .i64 t89_Agg_V_1_1) ∧
 H61.cell H.next (0 + 16) = some (.int .i64 t89_Agg_V_2_1) ∧
 H61.cell H.next (0 + 17) = some (.int .i64 t89_Agg_V_3_1) ∧
 H61.cell H.next (0 + 18) = some (.int .i64 t89_Agg_V_4_1) ∧
 H61.cell H.next (0 + 19) = some (.slice t89_Valuesa_1 t89_Valuesl_1 t89_Valuesc_1) ∧
 FW Ee F_master_PutReport [.pointer r87_1, .agg ⟨[.int .i64 t89_Job_1, .int .i64 t89_Epoch_1, .int .i64 t89_Step_1, .int .i64 t89_Phase_1, .int .i64 t89_Worker_1, .int .i64 t89_Err_1, .int .i64 t89_Sent_1, .int .i64 t89_Active_1, .int .i64 t89_Many_1, .bool t89_Agg_Has_0_1, .bool t89_Agg_Has_1_1, .bool t89_Agg_Has_2_1, .bool t89_Agg_Has_3_1, .bool t89_Agg_Has_4_1, .int .i64 t89_Agg_V_0_1, .int .i64 t89_Agg_V_1_1, .int .i64 t89_Agg_V_2_1, .int .i64 t89_Agg_V_3_1, .int .i64 t89_Agg_V_4_1, .slice t89_Valuesa_1 t89_Valuesl_1 t89_Valuesc_1]⟩] H61 fun v_25 H62 =>
 v_25 = .tuple ⟨[]⟩ ∧
 FW Ee F_wire_Writer_All [.pointer r87_1] H62 fun v_26 H63 =>
 ∃ (r92_1 : List UInt8),
 v_26 = .string ⟨⟨r92_1⟩⟩ ∧
 (r92_1 : List UInt8).length + ([120] : List UInt8).length < 4611686018427387904 ∧
 FW Ee F_wire_NewReader [.string ⟨⟨r92_1 ++ [120]⟩⟩] H63 fun v_27 H64 =>
 ∃ (r94_1 : Option Addr),
 v_27 = .pointer r94_1 ∧
 FW Ee F_master_TakeReport [.pointer r94_1] H64 fun v_28 H65 =>
 ∃ (r96_Job_1 : Int) (r96_Epoch_1 : Int) (r96_Step_1 : Int) (r96_Phase_1 : Int) (r96_Worker_1 : Int) (r96_Err_1 : Int) (r96_Sent_1 : Int) (r96_Active_1 : Int) (r96_Many_1 : Int) (r96_Agg_Has_0_1 : Bool) (r96_Agg_Has_1_1 : Bool) (r96_Agg_Has_2_1 : Bool) (r96_Agg_Has_3_1 : Bool) (r96_Agg_Has_4_1 : Bool) (r96_Agg_V_0_1 : Int) (r96_Agg_V_1_1 : Int) (r96_Agg_V_2_1 : Int) (r96_Agg_V_3_1 : Int) (r96_Agg_V_4_1 : Int) (r96_Valuesa_1 : Option Addr) (r96_Valuesl_1 : Nat) (r96_Valuesc_1 : Nat),
 v_28 = .agg ⟨[.int .i64 r96_Job_1, .int .i64 r96_Epoch_1, .int .i64 r96_Step_1, .int .i64 r96_Phase_1, .int .i64 r96_Worker_1, .int .i64 r96_Err_1, .int .i64 r96_Sent_1, .int .i64 r96_Active_1, .int .i64 r96_Many_1, .bool r96_Agg_Has_0_1, .bool r96_Agg_Has_1_1, .bool r96_Agg_Has_2_1, .bool r96_Agg_Has_3_1, .bool r96_Agg_Has_4_1, .int .i64 r96_Agg_V_0_1, .int .i64 r96_Agg_V_1_1, .int .i64 r96_Agg_V_2_1, .int .i64 r96_Agg_V_3_1, .int .i64 r96_Agg_V_4_1, .slice r96_Valuesa_1 r96_Valuesl_1 r96_Valuesc_1]⟩ ∧
 ∀ (H66 : AH),
 H66 = H65.new (.cells [.int .i64 0, .int .i64 0, .int .i64 0, .int .i64 0, .int .i64 0, .int .i64 0, .int .i64 0, .int .i64 0, .int .i64 0, .bool false, .bool false, .bool false, .bool false, .bool false, .int .i64 0, .int .i64 0, .int .i64 0, .int .i64 0, .int .i64 0, .slice none 0 0] 0) →
 ∃ (H67 : AH),
 storeCellsv H66 H65.next 0 [.int .i64 r96_Job_1, .int .i64 r96_Epoch_1, .int .i64 r96_Step_1, .int .i64 r96_Phase_1, .int .i64 r96_Worker_1, .int .i64 r96_Err_1, .int .i64 r96_Sent_1, .int .i64 r96_Active_1, .int .i64 r96_Many_1, .bool r96_Agg_Has_0_1, .bool r96_Agg_Has_1_1, .bool r96_Agg_Has_2_1, .bool r96_Agg_Has_3_1, .bool r96_Agg_Has_4_1, .int .i64 r96_Agg_V_0_1, .int .i64 r96_Agg_V_1_1, .int .i64 r96_Agg_V_2_1, .int .i64 r96_Agg_V_3_1, .int .i64 r96_Agg_V_4_1, .slice r96_Valuesa_1 r96_Valuesl_1 r96_Valuesc_1] = some H67 ∧
 FW Ee F_wire_NewWriter [] H67 fun v_29 H68 =>
 ∃ (r97_1 : Option Addr),
 v_29 = .pointer r97_1 ∧
 ∃ (t99_Job_1 : Int) (t99_Epoch_1 : Int) (t99_Step_1 : Int) (t99_Phase_1 : Int) (t99_Worker_1 : Int) (t99_Err_1 : Int) (t99_Sent_1 : Int) (t99_Active_1 : Int) (t99_Many_1 : Int) (t99_Agg_Has_0_1 : Bool) (t99_Agg_Has_1_1 : Bool) (t99_Agg_Has_2_1 : Bool) (t99_Agg_Has_3_1 : Bool) (t99_Agg_Has_4_1 : Bool) (t99_Agg_V_0_1 : Int) (t99_Agg_V_1_1 : Int) (t99_Agg_V_2_1 : Int) (t99_Agg_V_3_1 : Int) (t99_Agg_V_4_1 : Int) (t99_Valuesa_1 : Option Addr) (t99_Valuesl_1 : Nat) (t99_Valuesc_1 : Nat),
 H68.cell H65.next (0 + 0) = some (.int .i64 t99_Job_1) ∧
 H68.cell H65.next (0 + 1) = some (.int .i64 t99_Epoch_1) ∧
 H68.cell H65.next (0 + 2) = some (.int .i64 t99_Step_1) ∧
 H68.cell H65.next (0 + 3) = some (.int .i64 t99_Phase_1) ∧
 H68.cell H65.next (0 + 4) = some (.int .i64 t99_Worker_1) ∧
 H68.cell H65.next (0 + 5) = some (.int .i64 t99_Err_1) ∧
 H68.cell H65.next (0 + 6) = some (.int .i64 t99_Sent_1) ∧
 H68.cell H65.next (0 + 7) = some (.int .i64 t99_Active_1) ∧
 H68.cell H65.next (0 + 8) = some (.int .i64 t99_Many_1) ∧
 H68.cell H65.next (0 + 9) = some (.bool t99_Agg_Has_0_1) ∧
 H68.cell H65.next (0 + 10) = some (.bool t99_Agg_Has_1_1) ∧
 H68.cell H65.next (0 + 11) = some (.bool t99_Agg_Has_2_1) ∧
 H68.cell H65.next (0 + 12) = some (.bool t99_Agg_Has_3_1) ∧
 H68.cell H65.next (0 + 13) = some (.bool t99_Agg_Has_4_1) ∧
 H68.cell H65.next (0 + 14) = some (.int .i64 t99_Agg_V_0_1) ∧
 H68.cell H65.next (0 + 15) = some (.int .i64 t99_Agg_V_1_1) ∧
 H68.cell H65.next (0 + 16) = some (.int .i64 t99_Agg_V_2_1) ∧
 H68.cell H65.next (0 + 17) = some (.int .i64 t99_Agg_V_3_1) ∧
 H68.cell H65.next (0 + 18) = some (.int .i64 t99_Agg_V_4_1) ∧
 H68.cell H65.next (0 + 19) = some (.slice t99_Valuesa_1 t99_Valuesl_1 t99_Valuesc_1) ∧
 FW Ee F_master_PutReport [.pointer r97_1, .agg ⟨[.int .i64 t99_Job_1, .int .i64 t99_Epoch_1, .int .i64 t99_Step_1, .int .i64 t99_Phase_1, .int .i64 t99_Worker_1, .int .i64 t99_Err_1, .int .i64 t99_Sent_1, .int .i64 t99_Active_1, .int .i64 t99_Many_1, .bool t99_Agg_Has_0_1, .bool t99_Agg_Has_1_1, .bool t99_Agg_Has_2_1, .bool t99_Agg_Has_3_1, .bool t99_Agg_Has_4_1, .int .i64 t99_Agg_V_0_1, .int .i64 t99_Agg_V_1_1, .int .i64 t99_Agg_V_2_1, .int .i64 t99_Agg_V_3_1, .int .i64 t99_Agg_V_4_1, .slice t99_Valuesa_1 t99_Valuesl_1 t99_Valuesc_1]⟩] H68 fun v_30 H69 =>
 v_30 = .tuple ⟨[]⟩ ∧
 FW Ee F_cohortlaw17_awake [] H69 fun v_31 H70 =>
 ∃ (r101_1 : Bool),
 v_31 = .bool r101_1 ∧
 cond (!r101_1) (
 Q (.bool false) H70) (
 FW Ee F_wire_Writer_All [.pointer r97_1] H70 fun v_32 H71 =>
 ∃ (r105_1 : List UInt8),
 v_32 = .string ⟨⟨r105_1⟩⟩ ∧
 FW Ee F_wire_Writer_All [.pointer r87_1] H71 fun v_33 H72 =>
 ∃ (r107_1 : List UInt8),
 v_33 = .string ⟨⟨r107_1⟩⟩ ∧
 cond (!((r105_1 : List UInt8) == r107_1)) (
 Q (.bool false) H72) (
 FW Ee F_wire_Reader_Left [.pointer r94_1] H72 fun v_34 H73 =>
 ∃ (r112_1 : Int),
 v_34 = .int .i64 r112_1 ∧
 cond (r112_1 != 1) (
 Q (.bool false) H73) (
 ∃ (t117_1 : Int),
 H73.cell H65.next 0 = some (.int .i64 t117_1) ∧
 ∃ (t119_1 : Int),
 H73.cell H.next 0 = some (.int .i64 t119_1) ∧
 cond (t117_1 != t119_1) (
 Q (.bool false) H73) (
 ∃ (t124_1 : Int),
 H73.cell H65.next 5 = some (.int .i64 t124_1) ∧
 ∃ (t126_1 : Int),
 H73.cell H.next 5 = some (.int .i64 t126_1) ∧
 cond (t124_1 != t126_1) (
 Q (.bool false) H73) (
 ∃ (t131_Has_0_1 : Bool) (t131_Has_1_1 : Bool) (t131_Has_2_1 : Bool) (t131_Has_3_1 : Bool) (t131_Has_4_1 : Bool) (t131_V_0_1 : Int) (t131_V_1_1 : Int) (t131_V_2_1 : Int) (t131_V_3_1 : Int) (t131_V_4_1 : Int),
 H73.cell H65.next (9 + 0) = some (.bool t131_Has_0_1) ∧
 H73.cell H65.next (9 + 1) = some (.bool t131_Has_1_1) ∧
 H73.cell H65.next (9 + 2) = some (.bool t131_Has_2_1) ∧
 H73.cell H65.next (9 + 3) = some (.bool t131_Has_3_1) ∧
 H73.cell H65.next (9 + 4) = some (.bool t131_Has_4_1) ∧
 H73.cell H65.next (9 + 5) = some (.int .i64 t131_V_0_1) ∧
 H73.cell H65.next (9 + 6) = some (.int .i64 t131_V_1_1) ∧
 H73.cell H65.next (9 + 7) = some (.int .i64 t131_V_2_1) ∧
 H73.cell H65.next (9 + 8) = some (.int .i64 t131_V_3_1) ∧
 H73.cell H65.next (9 + 9) = some (.int .i64 t131_V_4_1) ∧
 ∃ (t133_Has_0_1 : Bool) (t133_Has_1_1 : Bool) (t133_Has_2_1 : Bool) (t133_Has_3_1 : Bool) (t133_Has_4_1 : Bool) (t133_V_0_1 : Int) (t133_V_1_1 : Int) (t133_V_2_1 : Int) (t133_V_3_1 : Int) (t133_V_4_1 : Int),
 H73.cell H.next (9 + 0) = some (.bool t133_Has_0_1) ∧
 H73.cell H.next (9 + 1) = some (.bool t133_Has_1_1) ∧
 H73.cell H.next (9 + 2) = some (.bool t133_Has_2_1) ∧
 H73.cell H.next (9 + 3) = some (.bool t133_Has_3_1) ∧
 H73.cell H.next (9 + 4) = some (.bool t133_Has_4_1) ∧
 H73.cell H.next (9 + 5) = some (.int .i64 t133_V_0_1) ∧
 H73.cell H.next (9 + 6) = some (.int .i64 t133_V_1_1) ∧
 H73.cell H.next (9 + 7) = some (.int .i64 t133_V_2_1) ∧
 H73.cell H.next (9 + 8) = some (.int .i64 t133_V_3_1) ∧
 H73.cell H.next (9 + 9) = some (.int .i64 t133_V_4_1) ∧
 ∃ (eq_2 : Bool),
 binv Ee .neq T_api_Aggregate (.agg ⟨[.bool t131_Has_0_1, .bool t131_Has_1_1, .bool t131_Has_2_1, .bool t131_Has_3_1, .bool t131_Has_4_1, .int .i64 t131_V_0_1, .int .i64 t131_V_1_1, .int .i64 t131_V_2_1, .int .i64 t131_V_3_1, .int .i64 t131_V_4_1]⟩) (.agg ⟨[.bool t133_Has_0_1, .bool t133_Has_1_1, .bool t133_Has_2_1, .bool t133_Has_3_1, .bool t133_Has_4_1, .int .i64 t133_V_0_1, .int .i64 t133_V_1_1, .int .i64 t133_V_2_1, .int .i64 t133_V_3_1, .int .i64 t133_V_4_1]⟩) = some (.bool eq_2) ∧
 cond (eq_2) (
 Q (.bool false) H73) (
 ∃ (t138a_1 : Option Addr) (t138l_1 : Nat) (t138c_1 : Nat),
 H73.cell H65.next 19 = some (.slice t138a_1 t138l_1 t138c_1) ∧
 ∃ (t141a_1 : Option Addr) (t141l_1 : Nat) (t141c_1 : Nat),
 H73.cell H.next 19 = some (.slice t141a_1 t141l_1 t141c_1) ∧
 cond ((((t138l_1 : Nat) : Int)) != (((t141l_1 : Nat) : Int))) (
 Q (.bool false) H73) (
 ∃ (t145_Program_1 : List UInt8) (t145_Graph_Verticesa_1 : Option Addr) (t145_Graph_Verticesl_1 : Nat) (t145_Graph_Verticesc_1 : Nat) (t145_Paramsa_1 : Option Addr) (t145_Paramsl_1 : Nat) (t145_Paramsc_1 : Nat) (t145_Steps_1 : Int) (t145_Sent_1 : Int) (t145_Parts_1 : Int),
 H73.cell H1.next (0 + 0) = some (.string ⟨⟨t145_Program_1⟩⟩) ∧
 H73.cell H1.next (0 + 1) = some (.slice t145_Graph_Verticesa_1 t145_Graph_Verticesl_1 t145_Graph_Verticesc_1) ∧
 H73.cell H1.next (0 + 2) = some (.slice t145_Paramsa_1 t145_Paramsl_1 t145_Paramsc_1) ∧
 H73.cell H1.next (0 + 3) = some (.int .i64 t145_Steps_1) ∧
 H73.cell H1.next (0 + 4) = some (.int .i64 t145_Sent_1) ∧
 H73.cell H1.next (0 + 5) = some (.int .i64 t145_Parts_1) ∧
 FW Ee F_cohortlaw09_Small [.agg ⟨[.string ⟨⟨t145_Program_1⟩⟩, .slice t145_Graph_Verticesa_1 t145_Graph_Verticesl_1 t145_Graph_Verticesc_1, .slice t145_Paramsa_1 t145_Paramsl_1 t145_Paramsc_1, .int .i64 t145_Steps_1, .int .i64 t145_Sent_1, .int .i64 t145_Parts_1]⟩] H73 fun v_35 H74 =>
 ∃ (r146_Program_1 : List UInt8) (r146_Graph_Verticesa_1 : Option Addr) (r146_Graph_Verticesl_1 : Nat) (r146_Graph_Verticesc_1 : Nat) (r146_Paramsa_1 : Option Addr) (r146_Paramsl_1 : Nat) (r146_Paramsc_1 : Nat) (r146_Steps_1 : Int) (r146_Sent_1 : Int) (r146_Parts_1 : Int),
 v_35 = .agg ⟨[.string ⟨⟨r146_Program_1⟩⟩, .slice r146_Graph_Verticesa_1 r146_Graph_Verticesl_1 r146_Graph_Verticesc_1, .slice r146_Paramsa_1 r146_Paramsl_1 r146_Paramsc_1, .int .i64 r146_Steps_1, .int .i64 r146_Sent_1, .int .i64 r146_Parts_1]⟩ ∧
 ∀ (H75 : AH),
 H75 = H74.new (.cells [.string ⟨⟨[]⟩⟩, .slice none 0 0, .slice none 0 0, .int .i64 0, .int .i64 0, .int .i64 0] 0) →
 ∃ (H76 : AH),
 storeCellsv H75 H74.next 0 [.string ⟨⟨r146_Program_1⟩⟩, .slice r146_Graph_Verticesa_1 r146_Graph_Verticesl_1 r146_Graph_Verticesc_1, .slice r146_Paramsa_1 r146_Paramsl_1 r146_Paramsc_1, .int .i64 r146_Steps_1, .int .i64 r146_Sent_1, .int .i64 r146_Parts_1] = some H76 ∧
 ∃ (t147_Program_1 : List UInt8) (t147_Graph_Verticesa_1 : Option Addr) (t147_Graph_Verticesl_1 : Nat) (t147_Graph_Verticesc_1 : Nat) (t147_Paramsa_1 : Option Addr) (t147_Paramsl_1 : Nat) (t147_Paramsc_1 : Nat) (t147_Steps_1 : Int) (t147_Sent_1 : Int) (t147_Parts_1 : Int),
 H76.cell H74.next (0 + 0) = some (.string ⟨⟨t147_Program_1⟩⟩) ∧
 H76.cell H74.next (0 + 1) = some (.slice t147_Graph_Verticesa_1 t147_Graph_Verticesl_1 t147_Graph_Verticesc_1) ∧
 H76.cell H74.next (0 + 2) = some (.slice t147_Paramsa_1 t147_Paramsl_1 t147_Paramsc_1) ∧
 H76.cell H74.next (0 + 3) = some (.int .i64 t147_Steps_1) ∧
 H76.cell H74.next (0 + 4) = some (.int .i64 t147_Sent_1) ∧
 H76.cell H74.next (0 + 5) = some (.int .i64 t147_Parts_1) ∧
 FW Ee F_cohortlaw09_Ref [.agg ⟨[.string ⟨⟨t147_Program_1⟩⟩, .slice t147_Graph_Verticesa_1 t147_Graph_Verticesl_1 t147_Graph_Verticesc_1, .slice t147_Paramsa_1 t147_Paramsl_1 t147_Paramsc_1, .int .i64 t147_Steps_1, .int .i64 t147_Sent_1, .int .i64 t147_Parts_1]⟩] H76 fun v_36 H77 =>
 ∃ (r148_Program_1 : List UInt8) (r148_Grapha_1 : Option Addr) (r148_Graphl_1 : Nat) (r148_Graphc_1 : Nat) (r148_Paramsa_1 : Option Addr) (r148_Paramsl_1 : Nat) (r148_Paramsc_1 : Nat) (r148_Steps_1 : Int) (r148_Sent_1 : Int) (r148_Parts_1 : Int),
 v_36 = .agg ⟨[.string ⟨⟨r148_Program_1⟩⟩, .slice r148_Grapha_1 r148_Graphl_1 r148_Graphc_1, .slice r148_Paramsa_1 r148_Paramsl_1 r148_Paramsc_1, .int .i64 r148_Steps_1, .int .i64 r148_Sent_1, .int .i64 r148_Parts_1]⟩ ∧
 FW Ee F_cohortref09_Check [.agg ⟨[.string ⟨⟨r148_Program_1⟩⟩, .slice r148_Grapha_1 r148_Graphl_1 r148_Graphc_1, .slice r148_Paramsa_1 r148_Paramsl_1 r148_Paramsc_1, .int .i64 r148_Steps_1, .int .i64 r148_Sent_1, .int .i64 r148_Parts_1]⟩] H77 fun v_37 H78 =>
 ∃ (r149_1 : Int),
 v_37 = .int .i64 r149_1 ∧
 cond (r149_1 != 0) (
 Q (.bool true) H78) (
 (0 : Int) ≤ 0 ∧
 (0 : Int) < ((3 : Nat) : Int) ∧
 ∃ (t152_1 : Int),
 H78.cell H2.next (0 + (0 : Int).toNat * 1) = some (.int .i64 t152_1) ∧
 ∀ (t153_1 : Int),
 t153_1 = iand .i64 t152_1 63 →
 (0 : Int) ≤ 1 ∧
 (1 : Int) < ((3 : Nat) : Int) ∧
 ∃ (t155_1 : Int),
 H78.cell H2.next (0 + (1 : Int).toNat * 1) = some (.int .i64 t155_1) ∧
 ∀ (t156_1 : Int),
 t156_1 = iand .i64 t155_1 63 →
 (0 : Int) ≤ 2 ∧
 (2 : Int) < ((3 : Nat) : Int) ∧
 ∃ (t158_1 : Int),
 H78.cell H2.next (0 + (2 : Int).toNat * 1) = some (.int .i64 t158_1) ∧
 ∀ (t159_1 : Int),
 t159_1 = iand .i64 t158_1 63 →
 (0 : Int) ≤ 0 ∧
 (0 : Int) < ((3 : Nat) : Int) ∧
 ∃ (t161_1 : Int),
 H78.cell H2.next (0 + (0 : Int).toNat * 1) = some (.int .i64 t161_1) ∧
 ∀ (t162_1 : Int),
 t162_1 = iand .i64 t161_1 7 →
 ∀ (H79 : AH),
 H79 = H78.new (.cells [.int .i64 t162_1] 0) →
 (0 : Int) ≤ 1 ∧
 (1 : Int) < ((3 : Nat) : Int) ∧
 ∃ (t165_1 : Int),
 H79.cell H2.next (0 + (1 : Int).toNat * 1) = some (.int .i64 t165_1) ∧
 ∀ (t166_1 : Int),
 t166_1 = iand .i64 t165_1 7 →
 (0 : Int) ≤ 2 ∧
 (2 : Int) < ((3 : Nat) : Int) ∧
 ∃ (t168_1 : Int),
 H79.cell H2.next (0 + (2 : Int).toNat * 1) = some (.int .i64 t168_1) ∧
 ∀ (t169_1 : Int),
 t169_1 = iand .i64 t168_1 7 →
 ∀ (H80 : AH),
 H80 = H79.new (.cells [.int .i64 t166_1, .int .i64 t169_1] 0) →
 ∃ (t171_Program_1 : List UInt8) (t171_Graph_Verticesa_1 : Option Addr) (t171_Graph_Verticesl_1 : Nat) (t171_Graph_Verticesc_1 : Nat) (t171_Paramsa_1 : Option Addr) (t171_Paramsl_1 : Nat) (t171_Paramsc_1 : Nat) (t171_Steps_1 : Int) (t171_Sent_1 : Int) (t171_Parts_1 : Int),
 H80.cell H74.next (0 + 0) = some (.string ⟨⟨t171_Program_1⟩⟩) ∧
 H80.cell H74.next (0 + 1) = some (.slice t171_Graph_Verticesa_1 t171_Graph_Verticesl_1 t171_Graph_Verticesc_1) ∧
 H80.cell H74.next (0 + 2) = some (.slice t171_Paramsa_1 t171_Paramsl_1 t171_Paramsc_1) ∧
 H80.cell H74.next (0 + 3) = some (.int .i64 t171_Steps_1) ∧
 H80.cell H74.next (0 + 4) = some (.int .i64 t171_Sent_1) ∧
 H80.cell H74.next (0 + 5) = some (.int .i64 t171_Parts_1) ∧
 ∃ (t173_Has_0_1 : Bool) (t173_Has_1_1 : Bool) (t173_Has_2_1 : Bool) (t173_Has_3_1 : Bool) (t173_Has_4_1 : Bool) (t173_V_0_1 : Int) (t173_V_1_1 : Int) (t173_V_2_1 : Int) (t173_V_3_1 : Int) (t173_V_4_1 : Int),
 H80.cell H.next (9 + 0) = some (.bool t173_Has_0_1) ∧
 H80.cell H.next (9 + 1) = some (.bool t173_Has_1_1) ∧
 H80.cell H.next (9 + 2) = some (.bool t173_Has_2_1) ∧
 H80.cell H.next (9 + 3) = some (.bool t173_Has_3_1) ∧
 H80.cell H.next (9 + 4) = some (.bool t173_Has_4_1) ∧
 H80.cell H.next (9 + 5) = some (.int .i64 t173_V_0_1) ∧
 H80.cell H.next (9 + 6) = some (.int .i64 t173_V_1_1) ∧
 H80.cell H.next (9 + 7) = some (.int .i64 t173_V_2_1) ∧
 H80.cell H.next (9 + 8) = some (.int .i64 t173_V_3_1) ∧
 H80.cell H.next (9 + 9) = some (.int .i64 t173_V_4_1) ∧
 (0 : Int) ≤ 0 ∧
 (0 : Int) < ((3 : Nat) : Int) ∧
 ∃ (t175_1 : Int),
 H80.cell H2.next (0 + (0 : Int).toNat * 1) = some (.int .i64 t175_1) ∧
 (2 : Int) ≠ 0 ∧
 ∀ (t176_1 : Int),
 t176_1 = (t175_1 : Int).tmod 2 →
 ∀ (H81 : AH),
 H81 = H80.new (.cells [.int .i64 0, .int .i64 0, .int .i64 0, .int .i64 0, .slice none 0 0, .slice none 0 0, .string ⟨⟨[]⟩⟩, .slice none 0 0, .slice none 0 0, .int .i64 0, .int .i64 0, .int .i64 0, .bool false, .bool false, .bool false, .bool false, .bool false, .int .i64 0, .int .i64 0, .int .i64 0, .int .i64 0, .int .i64 0, .int .i64 0, .int .i64 0, .int .i64 0, .bool false] 0) →
 ∃ (H82 : AH),
 storeCellsv H81 H80.next 0 [.int .i64 t153_1, .int .i64 t156_1, .int .i64 t159_1, .int .i64 2, .slice (some ⟨H78.next, 0, none⟩) 1 2, .slice (some ⟨H79.next, 0, none⟩) 2 4, .string ⟨⟨t171_Program_1⟩⟩, .slice t171_Graph_Verticesa_1 t171_Graph_Verticesl_1 t171_Graph_Verticesc_1, .slice t171_Paramsa_1 t171_Paramsl_1 t171_Paramsc_1, .int .i64 t171_Steps_1, .int .i64 t171_Sent_1, .int .i64 t171_Parts_1, .bool t173_Has_0_1, .bool t173_Has_1_1, .bool t173_Has_2_1, .bool t173_Has_3_1, .bool t173_Has_4_1, .int .i64 t173_V_0_1, .int .i64 t173_V_1_1, .int .i64 t173_V_2_1, .int .i64 t173_V_3_1, .int .i64 t173_V_4_1, .int .i64 5, .int .i64 4, .int .i64 1, .bool (t176_1 == 0)] = some H82 ∧
 FW Ee F_wire_NewWriter [] H82 fun v_38 H83 =>
 ∃ (r179_1 : Option Addr),
 v_38 = .pointer r179_1 ∧
 ∃ (t181_Job_1 : Int) (t181_Epoch_1 : Int) (t181_Step_1 : Int) (t181_Phase_1 : Int) (t181_Partsa_1 : Option Addr) (t181_Partsl_1 : Nat) (t181_Partsc_1 : Nat) (t181_Assigneda_1 : Option Addr) (t181_Assignedl_1 : Nat) (t181_Assignedc_1 : Nat) (t181_Spec_Program_1 : List UInt8) (t181_Spec_Graph_Verticesa_1 : Option Addr) (t181_Spec_Graph_Verticesl_1 : Nat) (t181_Spec_Graph_Verticesc_1 : Nat) (t181_Spec_Paramsa_1 : Option Addr) (t181_Spec_Paramsl_1 : Nat) (t181_Spec_Paramsc_1 : Nat) (t181_Spec_Steps_1 : Int) (t181_Spec_Sent_1 : Int) (t181_Spec_Parts_1 : Int) (t181_Before_Has_0_1 : Bool) (t181_Before_Has_1_1 : Bool) (t181_Before_Has_2_1 : Bool) (t181_Before_Has_3_1 : Bool) (t181_Before_Has_4_1 : Bool) (t181_Before_V_0_1 : Int) (t181_Before_V_1_1 : Int) (t181_Before_V_2_1 : Int) (t181_Before_V_3_1 : Int) (t181_Before_V_4_1 : Int) (t181_Many_1 : Int) (t181_From_1 : Int) (t181_FromEpoch_1 : Int) (t181_Keep_1 : Bool),
 H83.cell H80.next (0 + 0) = some (.int .i64 t181_Job_1) ∧
 H83.cell H80.next (0 + 1) = some (.int .i64 t181_Epoch_1) ∧
 H83.cell H80.next (0 + 2) = some (.int .i64 t181_Step_1) ∧
 H83.cell H80.next (0 + 3) = some (.int .i64 t181_Phase_1) ∧
 H83.cell H80.next (0 + 4) = some (.slice t181_Partsa_1 t181_Partsl_1 t181_Partsc_1) ∧
 H83.cell H80.next (0 + 5) = some (.slice t181_Assigneda_1 t181_Assignedl_1 t181_Assignedc_1) ∧
 H83.cell H80.next (0 + 6) = some (.string ⟨⟨t181_Spec_Program_1⟩⟩) ∧
 H83.cell H80.next (0 + 7) = some (.slice t181_Spec_Graph_Verticesa_1 t181_Spec_Graph_Verticesl_1 t181_Spec_Graph_Verticesc_1) ∧
 H83.cell H80.next (0 + 8) = some (.slice t181_Spec_Paramsa_1 t181_Spec_Paramsl_1 t181_Spec_Paramsc_1) ∧
 H83.cell H80.next (0 + 9) = some (.int .i64 t181_Spec_Steps_1) ∧
 H83.cell H80.next (0 + 10) = some (.int .i64 t181_Spec_Sent_1) ∧
 H83.cell H80.next (0 + 11) = some (.int .i64 t181_Spec_Parts_1) ∧
 H83.cell H80.next (0 + 12) = some (.bool t181_Before_Has_0_1) ∧
 H83.cell H80.next (0 + 13) = some (.bool t181_Before_Has_1_1) ∧
 H83.cell H80.next (0 + 14) = some (.bool t181_Before_Has_2_1) ∧
 H83.cell H80.next (0 + 15) = some (.bool t181_Before_Has_3_1) ∧
 H83.cell H80.next (0 + 16) = some (.bool t181_Before_Has_4_1) ∧
 H83.cell H80.next (0 + 17) = some (.int .i64 t181_Before_V_0_1) ∧
 H83.cell H80.next (0 + 18) = some (.int .i64 t181_Before_V_1_1) ∧
 H83.cell H80.next (0 + 19) = some (.int .i64 t181_Before_V_2_1) ∧
 H83.cell H80.next (0 + 20) = some (.int .i64 t181_Before_V_3_1) ∧
 H83.cell H80.next (0 + 21) = some (.int .i64 t181_Before_V_4_1) ∧
 H83.cell H80.next (0 + 22) = some (.int .i64 t181_Many_1) ∧
 H83.cell H80.next (0 + 23) = some (.int .i64 t181_From_1) ∧
 H83.cell H80.next (0 + 24) = some (.int .i64 t181_FromEpoch_1) ∧
 H83.cell H80.next (0 + 25) = some (.bool t181_Keep_1) ∧
 FW Ee F_master_PutTask [.pointer r179_1, .agg ⟨[.int .i64 t181_Job_1, .int .i64 t181_Epoch_1, .int .i64 t181_Step_1, .int .i64 t181_Phase_1, .slice t181_Partsa_1 t181_Partsl_1 t181_Partsc_1, .slice t181_Assigneda_1 t181_Assignedl_1 t181_Assignedc_1, .string ⟨⟨t181_Spec_Program_1⟩⟩, .slice t181_Spec_Graph_Verticesa_1 t181_Spec_Graph_Verticesl_1 t181_Spec_Graph_Verticesc_1, .slice t181_Spec_Paramsa_1 t181_Spec_Paramsl_1 t181_Spec_Paramsc_1, .int .i64 t181_Spec_Steps_1, .int .i64 t181_Spec_Sent_1, .int .i64 t181_Spec_Parts_1, .bool t181_Before_Has_0_1, .bool t181_Before_Has_1_1, .bool t181_Before_Has_2_1, .bool t181_Before_Has_3_1, .bool t181_Before_Has_4_1, .int .i64 t181_Before_V_0_1, .int .i64 t181_Before_V_1_1, .int .i64 t181_Before_V_2_1, .int .i64 t181_Before_V_3_1, .int .i64 t181_Before_V_4_1, .int .i64 t181_Many_1, .int .i64 t181_From_1, .int .i64 t181_FromEpoch_1, .bool t181_Keep_1]⟩] H83 fun v_39 H84 =>
 v_39 = .tuple ⟨[]⟩ ∧
 FW Ee F_wire_Writer_All [.pointer r179_1] H84 fun v_40 H85 =>
 ∃ (r184_1 : List UInt8),
 v_40 = .string ⟨⟨r184_1⟩⟩ ∧
 (r184_1 : List UInt8).length + ([120] : List UInt8).length < 4611686018427387904 ∧
 FW Ee F_wire_NewReader [.string ⟨⟨r184_1 ++ [120]⟩⟩] H85 fun v_41 H86 =>
 ∃ (r186_1 : Option Addr),
 v_41 = .pointer r186_1 ∧
 FW Ee F_master_TakeTask [.pointer r186_1] H86 fun v_42 H87 =>
 ∃ (r188_Job_1 : Int) (r188_Epoch_1 : Int) (r188_Step_1 : Int) (r188_Phase_1 : Int) (r188_Partsa_1 : Option Addr) (r188_Partsl_1 : Nat) (r188_Partsc_1 : Nat) (r188_Assigneda_1 : Option Addr) (r188_Assignedl_1 : Nat) (r188_Assignedc_1 : Nat) (r188_Spec_Program_1 : List UInt8) (r188_Spec_Graph_Verticesa_1 : Option Addr) (r188_Spec_Graph_Verticesl_1 : Nat) (r188_Spec_Graph_Verticesc_1 : Nat) (r188_Spec_Paramsa_1 : Option Addr) (r188_Spec_Paramsl_1 : Nat) (r188_Spec_Paramsc_1 : Nat) (r188_Spec_Steps_1 : Int) (r188_Spec_Sent_1 : Int) (r188_Spec_Parts_1 : Int) (r188_Before_Has_0_1 : Bool) (r188_Before_Has_1_1 : Bool) (r188_Before_Has_2_1 : Bool) (r188_Before_Has_3_1 : Bool) (r188_Before_Has_4_1 : Bool) (r188_Before_V_0_1 : Int) (r188_Before_V_1_1 : Int) (r188_Before_V_2_1 : Int) (r188_Before_V_3_1 : Int) (r188_Before_V_4_1 : Int) (r188_Many_1 : Int) (r188_From_1 : Int) (r188_FromEpoch_1 : Int) (r188_Keep_1 : Bool),
 v_42 = .agg ⟨[.int .i64 r188_Job_1, .int .i64 r188_Epoch_1, .int .i64 r188_Step_1, .int .i64 r188_Phase_1, .slice r188_Partsa_1 r188_Partsl_1 r188_Partsc_1, .slice r188_Assigneda_1 r188_Assignedl_1 r188_Assignedc_1, .string ⟨⟨r188_Spec_Program_1⟩⟩, .slice r188_Spec_Graph_Verticesa_1 r188_Spec_Graph_Verticesl_1 r188_Spec_Graph_Verticesc_1, .slice r188_Spec_Paramsa_1 r188_Spec_Paramsl_1 r188_Spec_Paramsc_1, .int .i64 r188_Spec_Steps_1, .int .i64 r188_Spec_Sent_1, .int .i64 r188_Spec_Parts_1, .bool r188_Before_Has_0_1, .bool r188_Before_Has_1_1, .bool r188_Before_Has_2_1, .bool r188_Before_Has_3_1, .bool r188_Before_Has_4_1, .int .i64 r188_Before_V_0_1, .int .i64 r188_Before_V_1_1, .int .i64 r188_Before_V_2_1, .int .i64 r188_Before_V_3_1, .int .i64 r188_Before_V_4_1, .int .i64 r188_Many_1, .int .i64 r188_From_1, .int .i64 r188_FromEpoch_1, .bool r188_Keep_1]⟩ ∧
 ∀ (H88 : AH),
 H88 = H87.new (.cells [.int .i64 0, .int .i64 0, .int .i64 0, .int .i64 0, .slice none 0 0, .slice none 0 0, .string ⟨⟨[]⟩⟩, .slice none 0 0, .slice none 0 0, .int .i64 0, .int .i64 0, .int .i64 0, .bool false, .bool false, .bool false, .bool false, .bool false, .int .i64 0, .int .i64 0, .int .i64 0, .int .i64 0, .int .i64 0, .int .i64 0, .int .i64 0, .int .i64 0, .bool false] 0) →
 ∃ (H89 : AH),
 storeCellsv H88 H87.next 0 [.int .i64 r188_Job_1, .int .i64 r188_Epoch_1, .int .i64 r188_Step_1, .int .i64 r188_Phase_1, .slice r188_Partsa_1 r188_Partsl_1 r188_Partsc_1, .slice r188_Assigneda_1 r188_Assignedl_1 r188_Assignedc_1, .string ⟨⟨r188_Spec_Program_1⟩⟩, .slice r188_Spec_Graph_Verticesa_1 r188_Spec_Graph_Verticesl_1 r188_Spec_Graph_Verticesc_1, .slice r188_Spec_Paramsa_1 r188_Spec_Paramsl_1 r188_Spec_Paramsc_1, .int .i64 r188_Spec_Steps_1, .int .i64 r188_Spec_Sent_1, .int .i64 r188_Spec_Parts_1, .bool r188_Before_Has_0_1, .bool r188_Before_Has_1_1, .bool r188_Before_Has_2_1, .bool r188_Before_Has_3_1, .bool r188_Before_Has_4_1, .int .i64 r188_Before_V_0_1, .int .i64 r188_Before_V_1_1, .int .i64 r188_Before_V_2_1, .int .i64 r188_Before_V_3_1, .int .i64 r188_Before_V_4_1, .int .i64 r188_Many_1, .int .i64 r188_From_1, .int .i64 r188_FromEpoch_1, .bool r188_Keep_1] = some H89 ∧
 FW Ee F_wire_NewWriter [] H89 fun v_43 H90 =>
 ∃ (r189_1 : Option Addr),
 v_43 = .pointer r189_1 ∧
 ∃ (t191_Job_1 : Int) (t191_Epoch_1 : Int) (t191_Step_1 : Int) (t191_Phase_1 : Int) (t191_Partsa_1 : Option Addr) (t191_Partsl_1 : Nat) (t191_Partsc_1 : Nat) (t191_Assigneda_1 : Option Addr) (t191_Assignedl_1 : Nat) (t191_Assignedc_1 : Nat) (t191_Spec_Program_1 : List UInt8) (t191_Spec_Graph_Verticesa_1 : Option Addr) (t191_Spec_Graph_Verticesl_1 : Nat) (t191_Spec_Graph_Verticesc_1 : Nat) (t191_Spec_Paramsa_1 : Option Addr) (t191_Spec_Paramsl_1 : Nat) (t191_Spec_Paramsc_1 : Nat) (t191_Spec_Steps_1 : Int) (t191_Spec_Sent_1 : Int) (t191_Spec_Parts_1 : Int) (t191_Before_Has_0_1 : Bool) (t191_Before_Has_1_1 : Bool) (t191_Before_Has_2_1 : Bool) (t191_Before_Has_3_1 : Bool) (t191_Before_Has_4_1 : Bool) (t191_Before_V_0_1 : Int) (t191_Before_V_1_1 : Int) (t191_Before_V_2_1 : Int) (t191_Before_V_3_1 : Int) (t191_Before_V_4_1 : Int) (t191_Many_1 : Int) (t191_From_1 : Int) (t191_FromEpoch_1 : Int) (t191_Keep_1 : Bool),
 H90.cell H87.next (0 + 0) = some (.int .i64 t191_Job_1) ∧
 H90.cell H87.next (0 + 1) = some (.int .i64 t191_Epoch_1) ∧
 H90.cell H87.next (0 + 2) = some (.int .i64 t191_Step_1) ∧
 H90.cell H87.next (0 + 3) = some (.int .i64 t191_Phase_1) ∧
 H90.cell H87.next (0 + 4) = some (.slice t191_Partsa_1 t191_Partsl_1 t191_Partsc_1) ∧
 H90.cell H87.next (0 + 5) = some (.slice t191_Assigneda_1 t191_Assignedl_1 t191_Assignedc_1) ∧
 H90.cell H87.next (0 + 6) = some (.string ⟨⟨t191_Spec_Program_1⟩⟩) ∧
 H90.cell H87.next (0 + 7) = some (.slice t191_Spec_Graph_Verticesa_1 t191_Spec_Graph_Verticesl_1 t191_Spec_Graph_Verticesc_1) ∧
 H90.cell H87.next (0 + 8) = some (.slice t191_Spec_Paramsa_1 t191_Spec_Paramsl_1 t191_Spec_Paramsc_1) ∧
 H90.cell H87.next (0 + 9) = some (.int .i64 t191_Spec_Steps_1) ∧
 H90.cell H87.next (0 + 10) = some (.int .i64 t191_Spec_Sent_1) ∧
 H90.cell H87.next (0 + 11) = some (.int .i64 t191_Spec_Parts_1) ∧
 H90.cell H87.next (0 + 12) = some (.bool t191_Before_Has_0_1) ∧
 H90.cell H87.next (0 + 13) = some (.bool t191_Before_Has_1_1) ∧
 H90.cell H87.next (0 + 14) = some (.bool t191_Before_Has_2_1) ∧
 H90.cell H87.next (0 + 15) = some (.bool t191_Before_Has_3_1) ∧
 H90.cell H87.next (0 + 16) = some (.bool t191_Before_Has_4_1) ∧
 H90.cell H87.next (0 + 17) = some (.int .i64 t191_Before_V_0_1) ∧
 H90.cell H87.next (0 + 18) = some (.int .i64 t191_Before_V_1_1) ∧
 H90.cell H87.next (0 + 19) = some (.int .i64 t191_Before_V_2_1) ∧
 H90.cell H87.next (0 + 20) = some (.int .i64 t191_Before_V_3_1) ∧
 H90.cell H87.next (0 + 21) = some (.int .i64 t191_Before_V_4_1) ∧
 H90.cell H87.next (0 + 22) = some (.int .i64 t191_Many_1) ∧
 H90.cell H87.next (0 + 23) = some (.int .i64 t191_From_1) ∧
 H90.cell H87.next (0 + 24) = some (.int .i64 t191_FromEpoch_1) ∧
 H90.cell H87.next (0 + 25) = some (.bool t191_Keep_1) ∧
 FW Ee F_master_PutTask [.pointer r189_1, .agg ⟨[.int .i64 t191_Job_1, .int .i64 t191_Epoch_1, .int .i64 t191_Step_1, .int .i64 t191_Phase_1, .slice t191_Partsa_1 t191_Partsl_1 t191_Partsc_1, .slice t191_Assigneda_1 t191_Assignedl_1 t191_Assignedc_1, .string ⟨⟨t191_Spec_Program_1⟩⟩, .slice t191_Spec_Graph_Verticesa_1 t191_Spec_Graph_Verticesl_1 t191_Spec_Graph_Verticesc_1, .slice t191_Spec_Paramsa_1 t191_Spec_Paramsl_1 t191_Spec_Paramsc_1, .int .i64 t191_Spec_Steps_1, .int .i64 t191_Spec_Sent_1, .int .i64 t191_Spec_Parts_1, .bool t191_Before_Has_0_1, .bool t191_Before_Has_1_1, .bool t191_Before_Has_2_1, .bool t191_Before_Has_3_1, .bool t191_Before_Has_4_1, .int .i64 t191_Before_V_0_1, .int .i64 t191_Before_V_1_1, .int .i64 t191_Before_V_2_1, .int .i64 t191_Before_V_3_1, .int .i64 t191_Before_V_4_1, .int .i64 t191_Many_1, .int .i64 t191_From_1, .int .i64 t191_FromEpoch_1, .bool t191_Keep_1]⟩] H90 fun v_44 H91 =>
 v_44 = .tuple ⟨[]⟩ ∧
 FW Ee F_wire_Writer_All [.pointer r189_1] H91 fun v_45 H92 =>
 ∃ (r194_1 : List UInt8),
 v_45 = .string ⟨⟨r194_1⟩⟩ ∧
 FW Ee F_wire_Writer_All [.pointer r179_1] H92 fun v_46 H93 =>
 ∃ (r196_1 : List UInt8),
 v_46 = .string ⟨⟨r196_1⟩⟩ ∧
 cond ((r194_1 : List UInt8) == r196_1) (
 FW Ee F_wire_Reader_Left [.pointer r186_1] H93 fun v_47 H94 =>
 ∃ (r200_1 : Int),
 v_47 = .int .i64 r200_1 ∧
 cond (r200_1 == 1) (
 ∃ (t205_1 : Int),
 H94.cell H87.next 0 = some (.int .i64 t205_1) ∧
 ∃ (t207_1 : Int),
 H94.cell H80.next 0 = some (.int .i64 t207_1) ∧
 cond (t205_1 == t207_1) (
 ∃ (t212_1 : Int),
 H94.cell H87.next 2 = some (.int .i64 t212_1) ∧
 ∃ (t214_1 : Int),
 H94.cell H80.next 2 = some (.int .i64 t214_1) ∧
 cond (t212_1 == t214_1) (
 ∃ (t219_1 : Bool),
 H94.cell H87.next 25 = some (.bool t219_1) ∧
 ∃ (t221_1 : Bool),
 H94.cell H80.next 25 = some (.bool t221_1) ∧
 cond (t219_1 == t221_1) (
 ∃ (t226a_1 : Option Addr) (t226l_1 : Nat) (t226c_1 : Nat),
 H94.cell H87.next 5 = some (.slice t226a_1 t226l_1 t226c_1) ∧
 cond ((((t226l_1 : Nat) : Int)) == 2) (
 ∃ (t232a_1 : Option Addr) (t232l_1 : Nat) (t232c_1 : Nat),
 H94.cell H87.next 4 = some (.slice t232a_1 t232l_1 t232c_1) ∧
 grd t232a_1.isSome (
 (0 : Int) ≤ 0 ∧
 (0 : Int) < ((t232l_1 : Nat) : Int) ∧
 ∃ (t234_1 : Int),
 H94.cell ((adr t232a_1).block) ((adr t232a_1).off + (0 : Int).toNat * 1) = some (.int .i64 t234_1) ∧
 ∃ (t236a_1 : Option Addr) (t236l_1 : Nat) (t236c_1 : Nat),
 H94.cell H80.next 4 = some (.slice t236a_1 t236l_1 t236c_1) ∧
 grd t236a_1.isSome (
 (0 : Int) ≤ 0 ∧
 (0 : Int) < ((t236l_1 : Nat) : Int) ∧
 ∃ (t238_1 : Int),
 H94.cell ((adr t236a_1).block) ((adr t236a_1).off + (0 : Int).toNat * 1) = some (.int .i64 t238_1) ∧
 cond (t234_1 == t238_1) (
 ∃ (t243_Has_0_1 : Bool) (t243_Has_1_1 : Bool) (t243_Has_2_1 : Bool) (t243_Has_3_1 : Bool) (t243_Has_4_1 : Bool) (t243_V_0_1 : Int) (t243_V_1_1 : Int) (t243_V_2_1 : Int) (t243_V_3_1 : Int) (t243_V_4_1 : Int),
 H94.cell H87.next (12 + 0) = some (.bool t243_Has_0_1) ∧
 H94.cell H87.next (12 + 1) = some (.bool t243_Has_1_1) ∧
 H94.cell H87.next (12 + 2) = some (.bool t243_Has_2_1) ∧
 H94.cell H87.next (12 + 3) = some (.bool t243_Has_3_1) ∧
 H94.cell H87.next (12 + 4) = some (.bool t243_Has_4_1) ∧
 H94.cell H87.next (12 + 5) = some (.int .i64 t243_V_0_1) ∧
 H94.cell H87.next (12 + 6) = some (.int .i64 t243_V_1_1) ∧
 H94.cell H87.next (12 + 7) = some (.int .i64 t243_V_2_1) ∧
 H94.cell H87.next (12 + 8) = some (.int .i64 t243_V_3_1) ∧
 H94.cell H87.next (12 + 9) = some (.int .i64 t243_V_4_1) ∧
 ∃ (t245_Has_0_1 : Bool) (t245_Has_1_1 : Bool) (t245_Has_2_1 : Bool) (t245_Has_3_1 : Bool) (t245_Has_4_1 : Bool) (t245_V_0_1 : Int) (t245_V_1_1 : Int) (t245_V_2_1 : Int) (t245_V_3_1 : Int) (t245_V_4_1 : Int),
 H94.cell H80.next (12 + 0) = some (.bool t245_Has_0_1) ∧
 H94.cell H80.next (12 + 1) = some (.bool t245_Has_1_1) ∧
 H94.cell H80.next (12 + 2) = some (.bool t245_Has_2_1) ∧
 H94.cell H80.next (12 + 3) = some (.bool t245_Has_3_1) ∧
 H94.cell H80.next (12 + 4) = some (.bool t245_Has_4_1) ∧
 H94.cell H80.next (12 + 5) = some (.int .i64 t245_V_0_1) ∧
 H94.cell H80.next (12 + 6) = some (.int .i64 t245_V_1_1) ∧
 H94.cell H80.next (12 + 7) = some (.int .i64 t245_V_2_1) ∧
 H94.cell H80.next (12 + 8) = some (.int .i64 t245_V_3_1) ∧
 H94.cell H80.next (12 + 9) = some (.int .i64 t245_V_4_1) ∧
 ∃ (eq_3 : Bool),
 binv Ee .eql T_api_Aggregate (.agg ⟨[.bool t243_Has_0_1, .bool t243_Has_1_1, .bool t243_Has_2_1, .bool t243_Has_3_1, .bool t243_Has_4_1, .int .i64 t243_V_0_1, .int .i64 t243_V_1_1, .int .i64 t243_V_2_1, .int .i64 t243_V_3_1, .int .i64 t243_V_4_1]⟩) (.agg ⟨[.bool t245_Has_0_1, .bool t245_Has_1_1, .bool t245_Has_2_1, .bool t245_Has_3_1, .bool t245_Has_4_1, .int .i64 t245_V_0_1, .int .i64 t245_V_1_1, .int .i64 t245_V_2_1, .int .i64 t245_V_3_1, .int .i64 t245_V_4_1]⟩) = some (.bool eq_3) ∧
 Q (.bool eq_3) H94) (
 Q (.bool false) H94)))) (
 Q (.bool false) H94)) (
 Q (.bool false) H94)) (
 Q (.bool false) H94)) (
 Q (.bool false) H94)) (
 Q (.bool false) H94)) (
 Q (.bool false) H93))))))))))))
set_option maxRecDepth 100000 in
theorem fw_cohortlaw17_MasterTexts {r0_Job : Int} {r0_Epoch : Int} {r0_Step : Int} {r0_Phase : Int} {r0_Worker : Int} {r0_Err : Int} {r0_Sent : Int} {r0_Active : Int} {r0_Many : Int} {r0_Agg_Has_0 : Bool} {r0_Agg_Has_1 : Bool} {r0_Agg_Has_2 : Bool} {r0_Agg_Has_3 : Bool} {r0_Agg_Has_4 : Bool} {r0_Agg_V_0 : Int} {r0_Agg_V_1 : Int} {r0_Agg_V_2 : Int} {r0_Agg_V_3 : Int} {r0_Agg_V_4 : Int} {r0_Valuesa : Option Addr} {r0_Valuesl : Nat} {r0_Valuesc : Nat} {x1_Program : List UInt8} {x1_Graph_Verticesa : Option Addr} {x1_Graph_Verticesl : Nat} {x1_Graph_Verticesc : Nat} {x1_Paramsa : Option Addr} {x1_Paramsl : Nat} {x1_Paramsc : Nat} {x1_Steps : Int} {x1_Sent : Int} {x1_Parts : Int} {n2_0 : Int} {n2_1 : Int} {n2_2 : Int} {H : AH} {Q : Value → AH → Prop} (h : VC_cohortlaw17_MasterTexts r0_Job r0_Epoch r0_Step r0_Phase r0_Worker r0_Err r0_Sent r0_Active r0_Many r0_Agg_Has_0 r0_Agg_Has_1 r0_Agg_Has_2 r0_Agg_Has_3 r0_Agg_Has_4 r0_Agg_V_0 r0_Agg_V_1 r0_Agg_V_2 r0_Agg_V_3 r0_Agg_V_4 r0_Valuesa r0_Valuesl r0_Valuesc x1_Program x1_Graph_Verticesa x1_Graph_Verticesl x1_Graph_Verticesc x1_Paramsa x1_Paramsl x1_Paramsc x1_Steps x1_Sent x1_Parts n2_0 n2_1 n2_2 H Q) : FW Ee F_cohortlaw17_MasterTexts [.agg ⟨[.int .i64 r0_Job, .int .i64 r0_Epoch, .int .i64 r0_Step, .int .i64 r0_Phase, .int .i64 r0_Worker, .int .i64 r0_Err, .int .i64 r0_Sent, .int .i64 r0_Active, .int .i64 r0_Many, .bool r0_Agg_Has_0, .bool r0_Agg_Has_1, .bool r0_Agg_Has_2, .bool r0_Agg_Has_3, .bool r0_Agg_Has_4, .int .i64 r0_Agg_V_0, .int .i64 r0_Agg_V_1, .int .i64 r0_Agg_V_2, .int .i64 r0_Agg_V_3, .int .i64 r0_Agg_V_4, .slice r0_Valuesa r0_Valuesl r0_Valuesc]⟩, .agg ⟨[.string ⟨⟨x1_Program⟩⟩, .slice x1_Graph_Verticesa x1_Graph_Verticesl x1_Graph_Verticesc, .slice x1_Paramsa x1_Paramsl x1_Paramsc, .int .i64 x1_Steps, .int .i64 x1_Sent, .int .i64 x1_Parts]⟩, .agg ⟨[.int .i64 n2_0, .int .i64 n2_1, .int .i64 n2_2]⟩] H Q := by
  have e : VC_cohortlaw17_MasterTexts r0_Job r0_Epoch r0_Step r0_Phase r0_Worker r0_Err r0_Sent r0_Active r0_Many r0_Agg_Has_0 r0_Agg_Has_1 r0_Agg_Has_2 r0_Agg_Has_3 r0_Agg_Has_4 r0_Agg_V_0 r0_Agg_V_1 r0_Agg_V_2 r0_Agg_V_3 r0_Agg_V_4 r0_Valuesa r0_Valuesl r0_Valuesc x1_Program x1_Graph_Verticesa x1_Graph_Verticesl x1_Graph_Verticesc x1_Paramsa x1_Paramsl x1_Paramsc x1_Steps x1_Sent x1_Parts n2_0 n2_1 n2_2 H Q = wpF Ee ⟨[1, 3], [50, 63, 68, 82]⟩ F_cohortlaw17_MasterTexts [.agg ⟨[.int .i64 r0_Job, .int .i64 r0_Epoch, .int .i64 r0_Step, .int .i64 r0_Phase, .int .i64 r0_Worker, .int .i64 r0_Err, .int .i64 r0_Sent, .int .i64 r0_Active, .int .i64 r0_Many, .bool r0_Agg_Has_0, .bool r0_Agg_Has_1, .bool r0_Agg_Has_2, .bool r0_Agg_Has_3, .bool r0_Agg_Has_4, .int .i64 r0_Agg_V_0, .int .i64 r0_Agg_V_1, .int .i64 r0_Agg_V_2, .int .i64 r0_Agg_V_3, .int .i64 r0_Agg_V_4, .slice r0_Valuesa r0_Valuesl r0_Valuesc]⟩, .agg ⟨[.string ⟨⟨x1_Program⟩⟩, .slice x1_Graph_Verticesa x1_Graph_Verticesl x1_Graph_Verticesc, .slice x1_Paramsa x1_Paramsl x1_Paramsc, .int .i64 x1_Steps, .int .i64 x1_Sent, .int .i64 x1_Parts]⟩, .agg ⟨[.int .i64 n2_0, .int .i64 n2_1, .int .i64 n2_2]⟩] H Q := by kernel_rfl
  letI : Sy := sy0
  exact wpF_sound (Eq.mp e h)
end Go.Proofs.Cx
