/- What calls come to, as formulas: printed by a program. What calls come to, as formulas: printed by a program. What calls come to, as formulas: printed by a program. What calls come to, as formulas: printed by a program. -/
import Derived.Test.YtkkcknfeljgdcaaGreatVc0
namespace Go.Proofs.Cx
open Go Go.Ev
set_option linter.unusedVariables false
set_option maxRecDepth 100000
set_option maxHeartbeats 8000000
end Go.Proofs.Cx

namespace Go.Proofs.Cx
open Go Go.Ev
set_option linter.unusedVariables false
set_option maxRecDepth 100000
set_option maxHeartbeats 8000000
end Go.Proofs.Cx

namespace Go.Proofs.Cx
open Go Go.Ev
set_option linter.unusedVariables false
set_option maxRecDepth 100000
set_option maxHeartbeats 8000000
/-- slices.Index[[]int,int] -/
def VC_slices_Index_L_int_int (s0a : Option Addr) (s0l : Nat) (s0c : Nat) (v1 : Int) (H : AH) (Q : Value → AH → Prop) : Prop :=
 ∃ (Inv : Nat → Int → Int → AH → Prop),
 (
 ∃ (n_1 : Nat),
 Inv n_1 0 0 H) ∧
 ∀ (n : Nat),
 ∀ (t4 : Int) (t8 : Int) (H1 : AH),
 Inv n t4 t8 H1 →
 cond (decide (t8 < (((s0l : Nat) : Int)))) (
 grd s0a.isSome (
 (0 : Int) ≤ t8 ∧
 (t8 : Int) < ((s0l : Nat) : Int) ∧
 ∃ (t15 : Int),
 H1.cell ((adr s0a).block) ((adr s0a).off + (t8 : Int).toNat * 1) = some (.int .i64 t15) ∧
 cond (v1 == t15) (
 Q (.int .i64 t8) H1) (
 ∀ (t18 : Int),
 t18 = IntKind.i64.wrap (t8 + 1) →
 ∃ (m : Nat),
 m < n ∧
 Inv m t4 t18 H1))) (
 Q (.int .i64 (-1)) H1)
set_option maxRecDepth 100000 in
theorem fw_slices_Index_L_int_int {s0a : Option Addr} {s0l : Nat} {s0c : Nat} {v1 : Int} {H : AH} {Q : Value → AH → Prop} (h : VC_slices_Index_L_int_int s0a s0l s0c v1 H Q) : FW Ee F_slices_Index_L_int_int [.slice s0a s0l s0c, .int .i64 v1] H Q := by
  have e : VC_slices_Index_L_int_int s0a s0l s0c v1 H Q = wpF Ee ⟨[], []⟩ F_slices_Index_L_int_int [.slice s0a s0l s0c, .int .i64 v1] H Q := by kernel_rfl
  letI : Sy := sy0
  exact wpF_sound (Eq.mp e h)
/-- cohort/plan.Parts -/
def VC_plan_Parts (assigned0a : Option Addr) (assigned0l : Nat) (assigned0c : Nat) (worker1 : Int) (H : AH) (Q : Value → AH → Prop) : Prop :=
 ∃ (Inv : Nat → Option Addr → Nat → Nat → Int → AH → Prop),
 (
 ∃ (n_1 : Nat),
 Inv n_1 none 0 0 0 H) ∧
 ∀ (n : Nat),
 ∀ (out5a : Option Addr) (out5l : Nat) (out5c : Nat) (t10 : Int) (H1 : AH),
 Inv n out5a out5l out5c t10 H1 →
 cond (decide (t10 < (((assigned0l : Nat) : Int)))) (
 grd assigned0a.isSome (
 (0 : Int) ≤ t10 ∧
 (t10 : Int) < ((assigned0l : Nat) : Int) ∧
 ∃ (t14 : Int),
 H1.cell ((adr assigned0a).block) ((adr assigned0a).off + (t10 : Int).toNat * 1) = some (.int .i64 t14) ∧
 cond (t14 == worker1) (
 ∀ (H2 : AH),
 H2 = H1.new (.cells [.int .i64 t10] 0) →
 ∃ (t21a : Option Addr) (t21l : Nat) (t21c : Nat) (H3 : AH),
 apnd H2 1 8 out5a out5l out5c (.slice (some ⟨H1.next, 0, none⟩) 1 2) = some (.slice t21a t21l t21c, H3) ∧
 ∀ (t22 : Int),
 t22 = IntKind.i64.wrap (t10 + 1) →
 ∃ (m : Nat),
 m < n ∧
 Inv m t21a t21l t21c t22 H3) (
 ∀ (t22_1 : Int),
 t22_1 = IntKind.i64.wrap (t10 + 1) →
 ∃ (m : Nat),
 m < n ∧
 Inv m out5a out5l out5c t22_1 H1))) (
 Q (.slice out5a out5l out5c) H1)
set_option maxRecDepth 100000 in
theorem fw_plan_Parts {assigned0a : Option Addr} {assigned0l : Nat} {assigned0c : Nat} {worker1 : Int} {H : AH} {Q : Value → AH → Prop} (h : VC_plan_Parts assigned0a assigned0l assigned0c worker1 H Q) : FW Ee F_plan_Parts [.slice assigned0a assigned0l assigned0c, .int .i64 worker1] H Q := by
  have e : VC_plan_Parts assigned0a assigned0l assigned0c worker1 H Q = wpF Ee ⟨[], []⟩ F_plan_Parts [.slice assigned0a assigned0l assigned0c, .int .i64 worker1] H Q := by kernel_rfl
  letI : Sy := sy0
  exact wpF_sound (Eq.mp e h)
/-- slices.Contains[[]int,int] -/
def VC_slices_Contains_L_int_int (s0a : Option Addr) (s0l : Nat) (s0c : Nat) (v1 : Int) (H : AH) (Q : Value → AH → Prop) : Prop :=
 FW Ee F_slices_Index_L_int_int [.slice s0a s0l s0c, .int .i64 v1] H fun v H1 =>
 ∃ (r7 : Int),
 v = .int .i64 r7 ∧
 Q (.bool (decide (r7 ≥ 0))) H1
set_option maxRecDepth 100000 in
theorem fw_slices_Contains_L_int_int {s0a : Option Addr} {s0l : Nat} {s0c : Nat} {v1 : Int} {H : AH} {Q : Value → AH → Prop} (h : VC_slices_Contains_L_int_int s0a s0l s0c v1 H Q) : FW Ee F_slices_Contains_L_int_int [.slice s0a s0l s0c, .int .i64 v1] H Q := by
  have e : VC_slices_Contains_L_int_int s0a s0l s0c v1 H Q = wpF Ee ⟨[], []⟩ F_slices_Contains_L_int_int [.slice s0a s0l s0c, .int .i64 v1] H Q := by kernel_rfl
  letI : Sy := sy0
  exact wpF_sound (Eq.mp e h)
/-- slices.Clone[[]int,int] -/
def VC_slices_Clone_L_int_int (s0a : Option Addr) (s0l : Nat) (s0c : Nat) (H : AH) (Q : Value → AH → Prop) : Prop :=
 ∃ (eq : Bool),
 binv Ee .eql T_L_int (.slice s0a s0l s0c) (.slice none 0 0) = some (.bool eq) ∧
 cond (eq) (
 Q (.slice none 0 0) H) (
 ∀ (H1 : AH),
 H1 = H.new (.cells [] 0) →
 ∃ (t7a : Option Addr) (t7l : Nat) (t7c : Nat) (H2 : AH),
 apnd H1 1 8 (some ⟨H.next, 0, none⟩) 0 0 (.slice s0a s0l s0c) = some (.slice t7a t7l t7c, H2) ∧
 Q (.slice t7a t7l t7c) H2)
set_option maxRecDepth 100000 in
theorem fw_slices_Clone_L_int_int {s0a : Option Addr} {s0l : Nat} {s0c : Nat} {H : AH} {Q : Value → AH → Prop} (h : VC_slices_Clone_L_int_int s0a s0l s0c H Q) : FW Ee F_slices_Clone_L_int_int [.slice s0a s0l s0c] H Q := by
  have e : VC_slices_Clone_L_int_int s0a s0l s0c H Q = wpF Ee ⟨[], []⟩ F_slices_Clone_L_int_int [.slice s0a s0l s0c] H Q := by kernel_rfl
  letI : Sy := sy0
  exact wpF_sound (Eq.mp e h)
/-- slices.Clone[[]int64,int64] -/
def VC_slices_Clone_L_int64_int64 (s0a : Option Addr) (s0l : Nat) (s0c : Nat) (H : AH) (Q : Value → AH → Prop) : Prop :=
 ∃ (eq : Bool),
 binv Ee .eql T_L_int64 (.slice s0a s0l s0c) (.slice none 0 0) = some (.bool eq) ∧
 cond (eq) (
 Q (.slice none 0 0) H) (
 ∀ (H1 : AH),
 H1 = H.new (.cells [] 0) →
 ∃ (t7a : Option Addr) (t7l : Nat) (t7c : Nat) (H2 : AH),
 apnd H1 1 8 (some ⟨H.next, 0, none⟩) 0 0 (.slice s0a s0l s0c) = some (.slice t7a t7l t7c, H2) ∧
 Q (.slice t7a t7l t7c) H2)
set_option maxRecDepth 100000 in
theorem fw_slices_Clone_L_int64_int64 {s0a : Option Addr} {s0l : Nat} {s0c : Nat} {H : AH} {Q : Value → AH → Prop} (h : VC_slices_Clone_L_int64_int64 s0a s0l s0c H Q) : FW Ee F_slices_Clone_L_int64_int64 [.slice s0a s0l s0c] H Q := by
  have e : VC_slices_Clone_L_int64_int64 s0a s0l s0c H Q = wpF Ee ⟨[], []⟩ F_slices_Clone_L_int64_int64 [.slice s0a s0l s0c] H Q := by kernel_rfl
  letI : Sy := sy0
  exact wpF_sound (Eq.mp e h)
/-- slices.Clone[[]cohort/api.Vertex,cohort/api.Vertex] -/
def VC_slices_Clone_L_api_Vertex_api_Vertex (s0a : Option Addr) (s0l : Nat) (s0c : Nat) (H : AH) (Q : Value → AH → Prop) : Prop :=
 ∃ (eq : Bool),
 binv Ee .eql T_L_api_Vertex (.slice s0a s0l s0c) (.slice none 0 0) = some (.bool eq) ∧
 cond (eq) (
 Q (.slice none 0 0) H) (
 ∀ (H1 : AH),
 H1 = H.new (.cells [] 0) →
 ∃ (t7a : Option Addr) (t7l : Nat) (t7c : Nat) (H2 : AH),
 apnd H1 3 40 (some ⟨H.next, 0, none⟩) 0 0 (.slice s0a s0l s0c) = some (.slice t7a t7l t7c, H2) ∧
 Q (.slice t7a t7l t7c) H2)
set_option maxRecDepth 100000 in
theorem fw_slices_Clone_L_api_Vertex_api_Vertex {s0a : Option Addr} {s0l : Nat} {s0c : Nat} {H : AH} {Q : Value → AH → Prop} (h : VC_slices_Clone_L_api_Vertex_api_Vertex s0a s0l s0c H Q) : FW Ee F_slices_Clone_L_api_Vertex_api_Vertex [.slice s0a s0l s0c] H Q := by
  have e : VC_slices_Clone_L_api_Vertex_api_Vertex s0a s0l s0c H Q = wpF Ee ⟨[], []⟩ F_slices_Clone_L_api_Vertex_api_Vertex [.slice s0a s0l s0c] H Q := by kernel_rfl
  letI : Sy := sy0
  exact wpF_sound (Eq.mp e h)
/-- slices.Clone[[]cohort/api.Edge,cohort/api.Edge] -/
def VC_slices_Clone_L_api_Edge_api_Edge (s0a : Option Addr) (s0l : Nat) (s0c : Nat) (H : AH) (Q : Value → AH → Prop) : Prop :=
 ∃ (eq : Bool),
 binv Ee .eql T_L_api_Edge (.slice s0a s0l s0c) (.slice none 0 0) = some (.bool eq) ∧
 cond (eq) (
 Q (.slice none 0 0) H) (
 ∀ (H1 : AH),
 H1 = H.new (.cells [] 0) →
 ∃ (t7a : Option Addr) (t7l : Nat) (t7c : Nat) (H2 : AH),
 apnd H1 2 16 (some ⟨H.next, 0, none⟩) 0 0 (.slice s0a s0l s0c) = some (.slice t7a t7l t7c, H2) ∧
 Q (.slice t7a t7l t7c) H2)
set_option maxRecDepth 100000 in
theorem fw_slices_Clone_L_api_Edge_api_Edge {s0a : Option Addr} {s0l : Nat} {s0c : Nat} {H : AH} {Q : Value → AH → Prop} (h : VC_slices_Clone_L_api_Edge_api_Edge s0a s0l s0c H Q) : FW Ee F_slices_Clone_L_api_Edge_api_Edge [.slice s0a s0l s0c] H Q := by
  have e : VC_slices_Clone_L_api_Edge_api_Edge s0a s0l s0c H Q = wpF Ee ⟨[], []⟩ F_slices_Clone_L_api_Edge_api_Edge [.slice s0a s0l s0c] H Q := by kernel_rfl
  letI : Sy := sy0
  exact wpF_sound (Eq.mp e h)
/-- cohort/graph.Clone -/
def VC_graph_Clone (g0_Verticesa : Option Addr) (g0_Verticesl : Nat) (g0_Verticesc : Nat) (H : AH) (Q : Value → AH → Prop) : Prop :=
 ∀ (H1 : AH),
 H1 = H.new (.cells [.slice g0_Verticesa g0_Verticesl g0_Verticesc] 0) →
 ∀ (H2 : AH),
 H2 = H1.new (.cells [.slice none 0 0] 0) →
 ∃ (t7a : Option Addr) (t7l : Nat) (t7c : Nat),
 H2.cell H.next 0 = some (.slice t7a t7l t7c) ∧
 FW Ee F_slices_Clone_L_api_Vertex_api_Vertex [.slice t7a t7l t7c] H2 fun v H3 =>
 ∃ (r8a : Option Addr) (r8l : Nat) (r8c : Nat),
 v = .slice r8a r8l r8c ∧
 ∀ (H4 : AH),
 H4 = H3.new (.cells [.slice none 0 0] 0) →
 ∃ (H5 : AH),
 storeCellsv H4 H3.next 0 [.slice r8a r8l r8c] = some H5 ∧
 ∃ (t11a : Option Addr) (t11l : Nat) (t11c : Nat),
 H5.cell H3.next 0 = some (.slice t11a t11l t11c) ∧
 ∃ (Inv : Nat → Int → AH → Prop),
 (
 ∃ (n_1 : Nat),
 Inv n_1 0 H5) ∧
 ∀ (n : Nat),
 ∀ (t13 : Int) (H6 : AH),
 Inv n t13 H6 →
 cond (decide (t13 < (((t11l : Nat) : Int)))) (
 grd t11a.isSome (
 (0 : Int) ≤ t13 ∧
 (t13 : Int) < ((t11l : Nat) : Int) ∧
 ∃ (t17_ID : Int) (t17_Value : Int) (t17_Edgesa : Option Addr) (t17_Edgesl : Nat) (t17_Edgesc : Nat),
 H6.cell ((adr t11a).block) ((adr t11a).off + (t13 : Int).toNat * 3 + 0) = some (.int .i64 t17_ID) ∧
 H6.cell ((adr t11a).block) ((adr t11a).off + (t13 : Int).toNat * 3 + 1) = some (.int .i64 t17_Value) ∧
 H6.cell ((adr t11a).block) ((adr t11a).off + (t13 : Int).toNat * 3 + 2) = some (.slice t17_Edgesa t17_Edgesl t17_Edgesc) ∧
 ∀ (H7 : AH),
 H7 = H6.new (.cells [.int .i64 0, .int .i64 0, .slice none 0 0] 0) →
 ∃ (H8 : AH),
 storeCellsv H7 H6.next 0 [.int .i64 t17_ID, .int .i64 t17_Value, .slice t17_Edgesa t17_Edgesl t17_Edgesc] = some H8 ∧
 ∃ (t19a : Option Addr) (t19l : Nat) (t19c : Nat),
 H8.cell H3.next 0 = some (.slice t19a t19l t19c) ∧
 ∃ (t22a : Option Addr) (t22l : Nat) (t22c : Nat),
 H8.cell H6.next 2 = some (.slice t22a t22l t22c) ∧
 FW Ee F_slices_Clone_L_api_Edge_api_Edge [.slice t22a t22l t22c] H8 fun v_1 H9 =>
 ∃ (r23a : Option Addr) (r23l : Nat) (r23c : Nat),
 v_1 = .slice r23a r23l r23c ∧
 grd t19a.isSome (
 (0 : Int) ≤ t13 ∧
 (t13 : Int) < ((t19l : Nat) : Int) ∧
 ∃ (H10 : AH),
 storeCellsv H9 ((adr t19a).block) ((adr t19a).off + (t13 : Int).toNat * 3 + 2) [.slice r23a r23l r23c] = some H10 ∧
 H9.cell H3.next 0 = some (.slice t19a t19l t19c) ∧
 ∀ (t26 : Int),
 t26 = IntKind.i64.wrap (t13 + 1) →
 ∃ (m : Nat),
 m < n ∧
 Inv m t26 H10))) (
 ∃ (t27_Verticesa : Option Addr) (t27_Verticesl : Nat) (t27_Verticesc : Nat),
 H6.cell H3.next (0 + 0) = some (.slice t27_Verticesa t27_Verticesl t27_Verticesc) ∧
 ∃ (H11 : AH),
 storeCellsv H6 H1.next 0 [.slice t27_Verticesa t27_Verticesl t27_Verticesc] = some H11 ∧
 ∃ (r2_Verticesa : Option Addr) (r2_Verticesl : Nat) (r2_Verticesc : Nat),
 H11.cell H1.next (0 + 0) = some (.slice r2_Verticesa r2_Verticesl r2_Verticesc) ∧
 Q (.agg ⟨[.slice r2_Verticesa r2_Verticesl r2_Verticesc]⟩) H11)
set_option maxRecDepth 100000 in
theorem fw_graph_Clone {g0_Verticesa : Option Addr} {g0_Verticesl : Nat} {g0_Verticesc : Nat} {H : AH} {Q : Value → AH → Prop} (h : VC_graph_Clone g0_Verticesa g0_Verticesl g0_Verticesc H Q) : FW Ee F_graph_Clone [.agg ⟨[.slice g0_Verticesa g0_Verticesl g0_Verticesc]⟩] H Q := by
  have e : VC_graph_Clone g0_Verticesa g0_Verticesl g0_Verticesc H Q = wpF Ee ⟨[], []⟩ F_graph_Clone [.agg ⟨[.slice g0_Verticesa g0_Verticesl g0_Verticesc]⟩] H Q := by kernel_rfl
  letI : Sy := sy0
  exact wpF_sound (Eq.mp e h)
/-- cohort/master.clone -/
def VC_master_clone (j0_Program : List UInt8) (j0_Graph_Verticesa : Option Addr) (j0_Graph_Verticesl : Nat) (j0_Graph_Verticesc : Nat) (j0_Paramsa : Option Addr) (j0_Paramsl : Nat) (j0_Paramsc : Nat) (j0_Steps : Int) (j0_Sent : Int) (j0_Parts : Int) (H : AH) (Q : Value → AH → Prop) : Prop :=
 ∀ (H1 : AH),
 H1 = H.new (.cells [.string ⟨⟨j0_Program⟩⟩, .slice j0_Graph_Verticesa j0_Graph_Verticesl j0_Graph_Verticesc, .slice j0_Paramsa j0_Paramsl j0_Paramsc, .int .i64 j0_Steps, .int .i64 j0_Sent, .int .i64 j0_Parts] 0) →
 ∀ (H2 : AH),
 H2 = H1.new (.cells [.string ⟨⟨[]⟩⟩, .slice none 0 0, .slice none 0 0, .int .i64 0, .int .i64 0, .int .i64 0] 0) →
 ∃ (t4_Verticesa : Option Addr) (t4_Verticesl : Nat) (t4_Verticesc : Nat),
 H2.cell H.next (1 + 0) = some (.slice t4_Verticesa t4_Verticesl t4_Verticesc) ∧
 FW Ee F_graph_Clone [.agg ⟨[.slice t4_Verticesa t4_Verticesl t4_Verticesc]⟩] H2 fun v H3 =>
 ∃ (r5_Verticesa : Option Addr) (r5_Verticesl : Nat) (r5_Verticesc : Nat),
 v = .agg ⟨[.slice r5_Verticesa r5_Verticesl r5_Verticesc]⟩ ∧
 ∃ (t7a : Option Addr) (t7l : Nat) (t7c : Nat),
 H3.cell H.next 2 = some (.slice t7a t7l t7c) ∧
 FW Ee F_slices_Clone_L_int64_int64 [.slice t7a t7l t7c] H3 fun v_1 H4 =>
 ∃ (r8a : Option Addr) (r8l : Nat) (r8c : Nat),
 v_1 = .slice r8a r8l r8c ∧
 ∃ (H5 : AH),
 storeCellsv H4 H.next 1 [.slice r5_Verticesa r5_Verticesl r5_Verticesc] = some H5 ∧
 ∃ (H6 : AH),
 storeCellsv H5 H.next 2 [.slice r8a r8l r8c] = some H6 ∧
 H2.cell H.next 2 = some (.slice t7a t7l t7c) ∧
 ∃ (t11_Program : List UInt8) (t11_Graph_Verticesa : Option Addr) (t11_Graph_Verticesl : Nat) (t11_Graph_Verticesc : Nat) (t11_Paramsa : Option Addr) (t11_Paramsl : Nat) (t11_Paramsc : Nat) (t11_Steps : Int) (t11_Sent : Int) (t11_Parts : Int),
 H6.cell H.next (0 + 0) = some (.string ⟨⟨t11_Program⟩⟩) ∧
 H6.cell H.next (0 + 1) = some (.slice t11_Graph_Verticesa t11_Graph_Verticesl t11_Graph_Verticesc) ∧
 H6.cell H.next (0 + 2) = some (.slice t11_Paramsa t11_Paramsl t11_Paramsc) ∧
 H6.cell H.next (0 + 3) = some (.int .i64 t11_Steps) ∧
 H6.cell H.next (0 + 4) = some (.int .i64 t11_Sent) ∧
 H6.cell H.next (0 + 5) = some (.int .i64 t11_Parts) ∧
 ∃ (H7 : AH),
 storeCellsv H6 H1.next 0 [.string ⟨⟨t11_Program⟩⟩, .slice t11_Graph_Verticesa t11_Graph_Verticesl t11_Graph_Verticesc, .slice t11_Paramsa t11_Paramsl t11_Paramsc, .int .i64 t11_Steps, .int .i64 t11_Sent, .int .i64 t11_Parts] = some H7 ∧
 ∃ (r2_Program : List UInt8) (r2_Graph_Verticesa : Option Addr) (r2_Graph_Verticesl : Nat) (r2_Graph_Verticesc : Nat) (r2_Paramsa : Option Addr) (r2_Paramsl : Nat) (r2_Paramsc : Nat) (r2_Steps : Int) (r2_Sent : Int) (r2_Parts : Int),
 H7.cell H1.next (0 + 0) = some (.string ⟨⟨r2_Program⟩⟩) ∧
 H7.cell H1.next (0 + 1) = some (.slice r2_Graph_Verticesa r2_Graph_Verticesl r2_Graph_Verticesc) ∧
 H7.cell H1.next (0 + 2) = some (.slice r2_Paramsa r2_Paramsl r2_Paramsc) ∧
 H7.cell H1.next (0 + 3) = some (.int .i64 r2_Steps) ∧
 H7.cell H1.next (0 + 4) = some (.int .i64 r2_Sent) ∧
 H7.cell H1.next (0 + 5) = some (.int .i64 r2_Parts) ∧
 Q (.agg ⟨[.string ⟨⟨r2_Program⟩⟩, .slice r2_Graph_Verticesa r2_Graph_Verticesl r2_Graph_Verticesc, .slice r2_Paramsa r2_Paramsl r2_Paramsc, .int .i64 r2_Steps, .int .i64 r2_Sent, .int .i64 r2_Parts]⟩) H7
set_option maxRecDepth 100000 in
theorem fw_master_clone {j0_Program : List UInt8} {j0_Graph_Verticesa : Option Addr} {j0_Graph_Verticesl : Nat} {j0_Graph_Verticesc : Nat} {j0_Paramsa : Option Addr} {j0_Paramsl : Nat} {j0_Paramsc : Nat} {j0_Steps : Int} {j0_Sent : Int} {j0_Parts : Int} {H : AH} {Q : Value → AH → Prop} (h : VC_master_clone j0_Program j0_Graph_Verticesa j0_Graph_Verticesl j0_Graph_Verticesc j0_Paramsa j0_Paramsl j0_Paramsc j0_Steps j0_Sent j0_Parts H Q) : FW Ee F_master_clone [.agg ⟨[.string ⟨⟨j0_Program⟩⟩, .slice j0_Graph_Verticesa j0_Graph_Verticesl j0_Graph_Verticesc, .slice j0_Paramsa j0_Paramsl j0_Paramsc, .int .i64 j0_Steps, .int .i64 j0_Sent, .int .i64 j0_Parts]⟩] H Q := by
  have e : VC_master_clone j0_Program j0_Graph_Verticesa j0_Graph_Verticesl j0_Graph_Verticesc j0_Paramsa j0_Paramsl j0_Paramsc j0_Steps j0_Sent j0_Parts H Q = wpF Ee ⟨[], []⟩ F_master_clone [.agg ⟨[.string ⟨⟨j0_Program⟩⟩, .slice j0_Graph_Verticesa j0_Graph_Verticesl j0_Graph_Verticesc, .slice j0_Paramsa j0_Paramsl j0_Paramsc, .int .i64 j0_Steps, .int .i64 j0_Sent, .int .i64 j0_Parts]⟩] H Q := by kernel_rfl
  letI : Sy := sy0
  exact wpF_sound (Eq.mp e h)
/-- (*cohort/master.Master).begin -/
def VC_master_Master_begin (m0b : Nat) (j1 : Option Addr) (H : AH) (Q : Value → AH → Prop) : Prop :=
 ∃ (t7 : Int),
 H.cell m0b 4 = some (.int .i64 t7) ∧
 ∀ (t8 : Int),
 t8 = IntKind.i64.wrap (t7 + 1) →
 ∃ (H1 : AH),
 storeCellsv H m0b 4 [.int .i64 t8] = some H1 ∧
 ∃ (t17 : Int),
 H1.cell m0b 4 = some (.int .i64 t17) ∧
 grd j1.isSome (
 grd j1.isSome (
 ∃ (H2 : AH),
 storeCellsv H1 ((adr j1).block) ((adr j1).off + 7) [.int .i64 2] = some H2 ∧
 grd j1.isSome (
 grd j1.isSome (
 ∃ (H3 : AH),
 storeCellsv H2 ((adr j1).block) ((adr j1).off + 12) [.int .i64 t17] = some H3 ∧
 grd j1.isSome (
 grd j1.isSome (
 ∃ (H4 : AH),
 storeCellsv H3 ((adr j1).block) ((adr j1).off + 14) [.int .i64 1] = some H4 ∧
 grd j1.isSome (
 grd j1.isSome (
 ∃ (t29 : Int),
 H4.cell ((adr j1).block) ((adr j1).off + 38) = some (.int .i64 t29) ∧
 grd j1.isSome (
 grd j1.isSome (
 ∃ (t33_Has_0 : Bool) (t33_Has_1 : Bool) (t33_Has_2 : Bool) (t33_Has_3 : Bool) (t33_Has_4 : Bool) (t33_V_0 : Int) (t33_V_1 : Int) (t33_V_2 : Int) (t33_V_3 : Int) (t33_V_4 : Int),
 H4.cell ((adr j1).block) ((adr j1).off + 40 + 0) = some (.bool t33_Has_0) ∧
 H4.cell ((adr j1).block) ((adr j1).off + 40 + 1) = some (.bool t33_Has_1) ∧
 H4.cell ((adr j1).block) ((adr j1).off + 40 + 2) = some (.bool t33_Has_2) ∧
 H4.cell ((adr j1).block) ((adr j1).off + 40 + 3) = some (.bool t33_Has_3) ∧
 H4.cell ((adr j1).block) ((adr j1).off + 40 + 4) = some (.bool t33_Has_4) ∧
 H4.cell ((adr j1).block) ((adr j1).off + 40 + 5) = some (.int .i64 t33_V_0) ∧
 H4.cell ((adr j1).block) ((adr j1).off + 40 + 6) = some (.int .i64 t33_V_1) ∧
 H4.cell ((adr j1).block) ((adr j1).off + 40 + 7) = some (.int .i64 t33_V_2) ∧
 H4.cell ((adr j1).block) ((adr j1).off + 40 + 8) = some (.int .i64 t33_V_3) ∧
 H4.cell ((adr j1).block) ((adr j1).off + 40 + 9) = some (.int .i64 t33_V_4) ∧
 grd j1.isSome (
 grd j1.isSome (
 ∃ (H5 : AH),
 storeCellsv H4 ((adr j1).block) ((adr j1).off + 13) [.int .i64 t29] = some H5 ∧
 grd j1.isSome (
 grd j1.isSome (
 ∃ (H6 : AH),
 storeCellsv H5 ((adr j1).block) ((adr j1).off + 17) [.bool t33_Has_0, .bool t33_Has_1, .bool t33_Has_2, .bool t33_Has_3, .bool t33_Has_4, .int .i64 t33_V_0, .int .i64 t33_V_1, .int .i64 t33_V_2, .int .i64 t33_V_3, .int .i64 t33_V_4] = some H6 ∧
 grd j1.isSome (
 grd j1.isSome (
 ∃ (t43 : Int),
 H6.cell ((adr j1).block) ((adr j1).off + 1 + 5) = some (.int .i64 t43) ∧
 FW Ee F_master_Master_Workers [.pointer (some ⟨m0b, 0, none⟩)] H6 fun v H7 =>
 ∃ (r45a : Option Addr) (r45l : Nat) (r45c : Nat),
 v = .slice r45a r45l r45c ∧
 FW Ee F_plan_Assign [.int .i64 t43, .slice r45a r45l r45c] H7 fun v_1 H8 =>
 ∃ (r46a : Option Addr) (r46l : Nat) (r46c : Nat),
 v_1 = .slice r46a r46l r46c ∧
 grd j1.isSome (
 grd j1.isSome (
 ∃ (H9 : AH),
 storeCellsv H8 ((adr j1).block) ((adr j1).off + 15) [.slice r46a r46l r46c] = some H9 ∧
 H7.cell ((adr j1).block) ((adr j1).off + 1 + 5) = some (.int .i64 t43) ∧
 ∀ (H10 : AH),
 H10 = H9.new (.map [] 0) →
 grd j1.isSome (
 grd j1.isSome (
 ∃ (H11 : AH),
 storeCellsv H10 ((adr j1).block) ((adr j1).off + 16) [.map (some H9.next)] = some H11 ∧
 Q (.tuple ⟨[]⟩) H11))))))))))))))))))))
set_option maxRecDepth 100000 in
theorem fw_master_Master_begin {m0b : Nat} {j1 : Option Addr} {H : AH} {Q : Value → AH → Prop} (h : VC_master_Master_begin m0b j1 H Q) : FW Ee F_master_Master_begin [.pointer (some ⟨m0b, 0, none⟩), .pointer j1] H Q := by
  have e : VC_master_Master_begin m0b j1 H Q = wpF Ee ⟨[], []⟩ F_master_Master_begin [.pointer (some ⟨m0b, 0, none⟩), .pointer j1] H Q := by kernel_rfl
  letI : Sy := sy0
  exact wpF_sound (Eq.mp e h)
/-- (*cohort/master.Master).Task -/
def VC_master_Master_Task (m0b : Nat) (worker1 : Int) (H : AH) (Q : Value → AH → Prop) : Prop :=
 ∀ (H1 : AH),
 H1 = H.new (.cells [.int .i64 0, .int .i64 0, .int .i64 0, .int .i64 0, .slice none 0 0, .slice none 0 0, .string ⟨⟨[]⟩⟩, .slice none 0 0, .slice none 0 0, .int .i64 0, .int .i64 0, .int .i64 0, .bool false, .bool false, .bool false, .bool false, .bool false, .int .i64 0, .int .i64 0, .int .i64 0, .int .i64 0, .int .i64 0, .int .i64 0, .int .i64 0, .int .i64 0, .bool false] 0) →
 FW Ee F_master_Master_current [.pointer (some ⟨m0b, 0, none⟩)] H1 fun v H2 =>
 ∃ (r13 : Option Addr),
 v = .pointer r13 ∧
 cond (r13.isNone) (
 ∃ (H3 : AH),
 storeCellsv H2 H.next 0 [.int .i64 0, .int .i64 0, .int .i64 0, .int .i64 0, .slice none 0 0, .slice none 0 0, .string ⟨⟨[]⟩⟩, .slice none 0 0, .slice none 0 0, .int .i64 0, .int .i64 0, .int .i64 0, .bool false, .bool false, .bool false, .bool false, .bool false, .int .i64 0, .int .i64 0, .int .i64 0, .int .i64 0, .int .i64 0, .int .i64 0, .int .i64 0, .int .i64 0, .bool false] = some H3 ∧
 ∃ (r4_Job : Int) (r4_Epoch : Int) (r4_Step : Int) (r4_Phase : Int) (r4_Partsa : Option Addr) (r4_Partsl : Nat) (r4_Partsc : Nat) (r4_Assigneda : Option Addr) (r4_Assignedl : Nat) (r4_Assignedc : Nat) (r4_Spec_Program : List UInt8) (r4_Spec_Graph_Verticesa : Option Addr) (r4_Spec_Graph_Verticesl : Nat) (r4_Spec_Graph_Verticesc : Nat) (r4_Spec_Paramsa : Option Addr) (r4_Spec_Paramsl : Nat) (r4_Spec_Paramsc : Nat) (r4_Spec_Steps : Int) (r4_Spec_Sent : Int) (r4_Spec_Parts : Int) (r4_Before_Has_0 : Bool) (r4_Before_Has_1 : Bool) (r4_Before_Has_2 : Bool) (r4_Before_Has_3 : Bool) (r4_Before_Has_4 : Bool) (r4_Before_V_0 : Int) (r4_Before_V_1 : Int) (r4_Before_V_2 : Int) (r4_Before_V_3 : Int) (r4_Before_V_4 : Int) (r4_Many : Int) (r4_From : Int) (r4_FromEpoch : Int) (r4_Keep : Bool),
 H3.cell H.next (0 + 0) = some (.int .i64 r4_Job) ∧
 H3.cell H.next (0 + 1) = some (.int .i64 r4_Epoch) ∧
 H3.cell H.next (0 + 2) = some (.int .i64 r4_Step) ∧
 H3.cell H.next (0 + 3) = some (.int .i64 r4_Phase) ∧
 H3.cell H.next (0 + 4) = some (.slice r4_Partsa r4_Partsl r4_Partsc) ∧
 H3.cell H.next (0 + 5) = some (.slice r4_Assigneda r4_Assignedl r4_Assignedc) ∧
 H3.cell H.next (0 + 6) = some (.string ⟨⟨r4_Spec_Program⟩⟩) ∧
 H3.cell H.next (0 + 7) = some (.slice r4_Spec_Graph_Verticesa r4_Spec_Graph_Verticesl r4_Spec_Graph_Verticesc) ∧
 H3.cell H.next (0 + 8) = some (.slice r4_Spec_Paramsa r4_Spec_Paramsl r4_Spec_Paramsc) ∧
 H3.cell H.next (0 + 9) = some (.int .i64 r4_Spec_Steps) ∧
 H3.cell H.next (0 + 10) = some (.int .i64 r4_Spec_Sent) ∧
 H3.cell H.next (0 + 11) = some (.int .i64 r4_Spec_Parts) ∧
 H3.cell H.next (0 + 12) = some (.bool r4_Before_Has_0) ∧
 H3.cell H.next (0 + 13) = some (.bool r4_Before_Has_1) ∧
 H3.cell H.next (0 + 14) = some (.bool r4_Before_Has_2) ∧
 H3.cell H.next (0 + 15) = some (.bool r4_Before_Has_3) ∧
 H3.cell H.next (0 + 16) = some (.bool r4_Before_Has_4) ∧
 H3.cell H.next (0 + 17) = some (.int .i64 r4_Before_V_0) ∧
 H3.cell H.next (0 + 18) = some (.int .i64 r4_Before_V_1) ∧
 H3.cell H.next (0 + 19) = some (.int .i64 r4_Before_V_2) ∧
 H3.cell H.next (0 + 20) = some (.int .i64 r4_Before_V_3) ∧
 H3.cell H.next (0 + 21) = some (.int .i64 r4_Before_V_4) ∧
 H3.cell H.next (0 + 22) = some (.int .i64 r4_Many) ∧
 H3.cell H.next (0 + 23) = some (.int .i64 r4_From) ∧
 H3.cell H.next (0 + 24) = some (.int .i64 r4_FromEpoch) ∧
 H3.cell H.next (0 + 25) = some (.bool r4_Keep) ∧
 Q (.tuple ⟨[.agg ⟨[.int .i64 r4_Job, .int .i64 r4_Epoch, .int .i64 r4_Step, .int .i64 r4_Phase, .slice r4_Partsa r4_Partsl r4_Partsc, .slice r4_Assigneda r4_Assignedl r4_Assignedc, .string ⟨⟨r4_Spec_Program⟩⟩, .slice r4_Spec_Graph_Verticesa r4_Spec_Graph_Verticesl r4_Spec_Graph_Verticesc, .slice r4_Spec_Paramsa r4_Spec_Paramsl r4_Spec_Paramsc, .int .i64 r4_Spec_Steps, .int .i64 r4_Spec_Sent, .int .i64 r4_Spec_Parts, .bool r4_Before_Has_0, .bool r4_Before_Has_1, .bool r4_Before_Has_2, .bool r4_Before_Has_3, .bool r4_Before_Has_4, .int .i64 r4_Before_V_0, .int .i64 r4_Before_V_1, .int .i64 r4_Before_V_2, .int .i64 r4_Before_V_3, .int .i64 r4_Before_V_4, .int .i64 r4_Many, .int .i64 r4_From, .int .i64 r4_FromEpoch, .bool r4_Keep]⟩, .bool false]⟩) H3) (
 grd r13.isSome (
 grd r13.isSome (
 ∃ (t20a : Option Addr) (t20l : Nat) (t20c : Nat),
 H2.cell ((adr r13).block) ((adr r13).off + 15) = some (.slice t20a t20l t20c) ∧
 FW Ee F_slices_Contains_L_int_int [.slice t20a t20l t20c, .int .i64 worker1] H2 fun v_1 H4 =>
 ∃ (r22 : Bool),
 v_1 = .bool r22 ∧
 cond (!r22) (
 ∃ (H5 : AH),
 storeCellsv H4 H.next 0 [.int .i64 0, .int .i64 0, .int .i64 0, .int .i64 0, .slice none 0 0, .slice none 0 0, .string ⟨⟨[]⟩⟩, .slice none 0 0, .slice none 0 0, .int .i64 0, .int .i64 0, .int .i64 0, .bool false, .bool false, .bool false, .bool false, .bool false, .int .i64 0, .int .i64 0, .int .i64 0, .int .i64 0, .int .i64 0, .int .i64 0, .int .i64 0, .int .i64 0, .bool false] = some H5 ∧
 ∃ (r4_Job_1 : Int) (r4_Epoch_1 : Int) (r4_Step_1 : Int) (r4_Phase_1 : Int) (r4_Partsa_1 : Option Addr) (r4_Partsl_1 : Nat) (r4_Partsc_1 : Nat) (r4_Assigneda_1 : Option Addr) (r4_Assignedl_1 : Nat) (r4_Assignedc_1 : Nat) (r4_Spec_Program_1 : List UInt8) (r4_Spec_Graph_Verticesa_1 : Option Addr) (r4_Spec_Graph_Verticesl_1 : Nat) (r4_Spec_Graph_Verticesc_1 : Nat) (r4_Spec_Paramsa_1 : Option Addr) (r4_Spec_Paramsl_1 : Nat) (r4_Spec_Paramsc_1 : Nat) (r4_Spec_Steps_1 : Int) (r4_Spec_Sent_1 : Int) (r4_Spec_Parts_1 : Int) (r4_Before_Has_0_1 : Bool) (r4_Before_Has_1_1 : Bool) (r4_Before_Has_2_1 : Bool) (r4_Before_Has_3_1 : Bool) (r4_Before_Has_4_1 : Bool) (r4_Before_V_0_1 : Int) (r4_Before_V_1_1 : Int) (r4_Before_V_2_1 : Int) (r4_Before_V_3_1 : Int) (r4_Before_V_4_1 : Int) (r4_Many_1 : Int) (r4_From_1 : Int) (r4_FromEpoch_1 : Int) (r4_Keep_1 : Bool),
 H5.cell H.next (0 + 0) = some (.int .i64 r4_Job_1) ∧
 H5.cell H.next (0 + 1) = some (.int .i64 r4_Epoch_1) ∧
 H5.cell H.next (0 + 2) = some (.int .i64 r4_Step_1) ∧
 H5.cell H.next (0 + 3) = some (.int .i64 r4_Phase_1) ∧
 H5.cell H.next (0 + 4) = some (.slice r4_Partsa_1 r4_Partsl_1 r4_Partsc_1) ∧
 H5.cell H.next (0 + 5) = some (.slice r4_Assigneda_1 r4_Assignedl_1 r4_Assignedc_1) ∧
 H5.cell H.next (0 + 6) = some (.string ⟨⟨r4_Spec_Program_1⟩⟩) ∧
 H5.cell H.next (0 + 7) = some (.slice r4_Spec_Graph_Verticesa_1 r4_Spec_Graph_Verticesl_1 r4_Spec_Graph_Verticesc_1) ∧
 H5.cell H.next (0 + 8) = some (.slice r4_Spec_Paramsa_1 r4_Spec_Paramsl_1 r4_Spec_Paramsc_1) ∧
 H5.cell H.next (0 + 9) = some (.int .i64 r4_Spec_Steps_1) ∧
 H5.cell H.next (0 + 10) = some (.int .i64 r4_Spec_Sent_1) ∧
 H5.cell H.next (0 + 11) = some (.int .i64 r4_Spec_Parts_1) ∧
 H5.cell H.next (0 + 12) = some (.bool r4_Before_Has_0_1) ∧
 H5.cell H.next (0 + 13) = some (.bool r4_Before_Has_1_1) ∧
 H5.cell H.next (0 + 14) = some (.bool r4_Before_Has_2_1) ∧
 H5.cell H.next (0 + 15) = some (.bool r4_Before_Has_3_1) ∧
 H5.cell H.next (0 + 16) = some (.bool r4_Before_Has_4_1) ∧
 H5.cell H.next (0 + 17) = some (.int .i64 r4_Before_V_0_1) ∧
 H5.cell H.next (0 + 18) = some (.int .i64 r4_Before_V_1_1) ∧
 H5.cell H.next (0 + 19) = some (.int .i64 r4_Before_V_2_1) ∧
 H5.cell H.next (0 + 20) = some (.int .i64 r4_Before_V_3_1) ∧
 H5.cell H.next (0 + 21) = some (.int .i64 r4_Before_V_4_1) ∧
 H5.cell H.next (0 + 22) = some (.int .i64 r4_Many_1) ∧
 H5.cell H.next (0 + 23) = some (.int .i64 r4_From_1) ∧
 H5.cell H.next (0 + 24) = some (.int .i64 r4_FromEpoch_1) ∧
 H5.cell H.next (0 + 25) = some (.bool r4_Keep_1) ∧
 Q (.tuple ⟨[.agg ⟨[.int .i64 r4_Job_1, .int .i64 r4_Epoch_1, .int .i64 r4_Step_1, .int .i64 r4_Phase_1, .slice r4_Partsa_1 r4_Partsl_1 r4_Partsc_1, .slice r4_Assigneda_1 r4_Assignedl_1 r4_Assignedc_1, .string ⟨⟨r4_Spec_Program_1⟩⟩, .slice r4_Spec_Graph_Verticesa_1 r4_Spec_Graph_Verticesl_1 r4_Spec_Graph_Verticesc_1, .slice r4_Spec_Paramsa_1 r4_Spec_Paramsl_1 r4_Spec_Paramsc_1, .int .i64 r4_Spec_Steps_1, .int .i64 r4_Spec_Sent_1, .int .i64 r4_Spec_Parts_1, .bool r4_Before_Has_0_1, .bool r4_Before_Has_1_1, .bool r4_Before_Has_2_1, .bool r4_Before_Has_3_1, .bool r4_Before_Has_4_1, .int .i64 r4_Before_V_0_1, .int .i64 r4_Before_V_1_1, .int .i64 r4_Before_V_2_1, .int .i64 r4_Before_V_3_1, .int .i64 r4_Before_V_4_1, .int .i64 r4_Many_1, .int .i64 r4_From_1, .int .i64 r4_FromEpoch_1, .bool r4_Keep_1]⟩, .bool false]⟩) H5) (
 grd r13.isSome (
 grd r13.isSome (
 ∃ (t30 : Option Nat),
 H4.cell ((adr r13).block) ((adr r13).off + 16) = some (.map t30) ∧
 ∃ (t32_Job : Int) (t32_Epoch : Int) (t32_Step : Int) (t32_Phase : Int) (t32_Worker : Int) (t32_Err : Int) (t32_Sent : Int) (t32_Active : Int) (t32_Many : Int) (t32_Agg_Has_0 : Bool) (t32_Agg_Has_1 : Bool) (t32_Agg_Has_2 : Bool) (t32_Agg_Has_3 : Bool) (t32_Agg_Has_4 : Bool) (t32_Agg_V_0 : Int) (t32_Agg_V_1 : Int) (t32_Agg_V_2 : Int) (t32_Agg_V_3 : Int) (t32_Agg_V_4 : Int) (t32_Valuesa : Option Addr) (t32_Valuesl : Nat) (t32_Valuesc : Nat) (t32ok : Bool),
 lookupv Ee H4 T_M_int_api_Report (.map t30) (.int .i64 worker1) true = some (.tuple ⟨[.agg ⟨[.int .i64 t32_Job, .int .i64 t32_Epoch, .int .i64 t32_Step, .int .i64 t32_Phase, .int .i64 t32_Worker, .int .i64 t32_Err, .int .i64 t32_Sent, .int .i64 t32_Active, .int .i64 t32_Many, .bool t32_Agg_Has_0, .bool t32_Agg_Has_1, .bool t32_Agg_Has_2, .bool t32_Agg_Has_3, .bool t32_Agg_Has_4, .int .i64 t32_Agg_V_0, .int .i64 t32_Agg_V_1, .int .i64 t32_Agg_V_2, .int .i64 t32_Agg_V_3, .int .i64 t32_Agg_V_4, .slice t32_Valuesa t32_Valuesl t32_Valuesc]⟩, .bool t32ok]⟩) ∧
 ∀ (H6 : AH),
 H6 = H4.new (.cells [.int .i64 0, .int .i64 0, .int .i64 0, .int .i64 0, .int .i64 0, .int .i64 0, .int .i64 0, .int .i64 0, .int .i64 0, .bool false, .bool false, .bool false, .bool false, .bool false, .int .i64 0, .int .i64 0, .int .i64 0, .int .i64 0, .int .i64 0, .slice none 0 0] 0) →
 ∃ (H7 : AH),
 storeCellsv H6 H4.next 0 [.int .i64 t32_Job, .int .i64 t32_Epoch, .int .i64 t32_Step, .int .i64 t32_Phase, .int .i64 t32_Worker, .int .i64 t32_Err, .int .i64 t32_Sent, .int .i64 t32_Active, .int .i64 t32_Many, .bool t32_Agg_Has_0, .bool t32_Agg_Has_1, .bool t32_Agg_Has_2, .bool t32_Agg_Has_3, .bool t32_Agg_Has_4, .int .i64 t32_Agg_V_0, .int .i64 t32_Agg_V_1, .int .i64 t32_Agg_V_2, .int .i64 t32_Agg_V_3, .int .i64 t32_Agg_V_4, .slice t32_Valuesa t32_Valuesl t32_Valuesc] = some H7 ∧
 cond (t32ok) (
 ∃ (H8 : AH),
 storeCellsv H7 H.next 0 [.int .i64 0, .int .i64 0, .int .i64 0, .int .i64 0, .slice none 0 0, .slice none 0 0, .string ⟨⟨[]⟩⟩, .slice none 0 0, .slice none 0 0, .int .i64 0, .int .i64 0, .int .i64 0, .bool false, .bool false, .bool false, .bool false, .bool false, .int .i64 0, .int .i64 0, .int .i64 0, .int .i64 0, .int .i64 0, .int .i64 0, .int .i64 0, .int .i64 0, .bool false] = some H8 ∧
 ∃ (r4_Job_2 : Int) (r4_Epoch_2 : Int) (r4_Step_2 : Int) (r4_Phase_2 : Int) (r4_Partsa_2 : Option Addr) (r4_Partsl_2 : Nat) (r4_Partsc_2 : Nat) (r4_Assigneda_2 : Option Addr) (r4_Assignedl_2 : Nat) (r4_Assignedc_2 : Nat) (r4_Spec_Program_2 : List UInt8) (r4_Spec_Graph_Verticesa_2 : Option Addr) (r4_Spec_Graph_Verticesl_2 : Nat) (r4_Spec_Graph_Verticesc_2 : Nat) (r4_Spec_Paramsa_2 : Option Addr) (r4_Spec_Paramsl_2 : Nat) (r4_Spec_Paramsc_2 : Nat) (r4_Spec_Steps_2 : Int) (r4_Spec_Sent_2 : Int) (r4_Spec_Parts_2 : Int) (r4_Before_Has_0_2 : Bool) (r4_Before_Has_1_2 : Bool) (r4_Before_Has_2_2 : Bool) (r4_Before_Has_3_2 : Bool) (r4_Before_Has_4_2 : Bool) (r4_Before_V_0_2 : Int) (r4_Before_V_1_2 : Int) (r4_Before_V_2_2 : Int) (r4_Before_V_3_2 : Int) (r4_Before_V_4_2 : Int) (r4_Many_2 : Int) (r4_From_2 : Int) (r4_FromEpoch_2 : Int) (r4_Keep_2 : Bool),
 H8.cell H.next (0 + 0) = some (.int .i64 r4_Job_2) ∧
 H8.cell H.next (0 + 1) = some (.int .i64 r4_Epoch_2) ∧
 H8.cell H.next (0 + 2) = some (.int .i64 r4_Step_2) ∧
 H8.cell H.next (0 + 3) = some (.int .i64 r4_Phase_2) ∧
 H8.cell H.next (0 + 4) = some (.slice r4_Partsa_2 r4_Partsl_2 r4_Partsc_2) ∧
 H8.cell H.next (0 + 5) = some (.slice r4_Assigneda_2 r4_Assignedl_2 r4_Assignedc_2) ∧
 H8.cell H.next (0 + 6) = some (.string ⟨⟨r4_Spec_Program_2⟩⟩) ∧
 H8.cell H.next (0 + 7) = some (.slice r4_Spec_Graph_Verticesa_2 r4_Spec_Graph_Verticesl_2 r4_Spec_Graph_Verticesc_2) ∧
 H8.cell H.next (0 + 8) = some (.slice r4_Spec_Paramsa_2 r4_Spec_Paramsl_2 r4_Spec_Paramsc_2) ∧
 H8.cell H.next (0 + 9) = some (.int .i64 r4_Spec_Steps_2) ∧
 H8.cell H.next (0 + 10) = some (.int .i64 r4_Spec_Sent_2) ∧
 H8.cell H.next (0 + 11) = some (.int .i64 r4_Spec_Parts_2) ∧
 H8.cell H.next (0 + 12) = some (.bool r4_Before_Has_0_2) ∧
 H8.cell H.next (0 + 13) = some (.bool r4_Before_Has_1_2) ∧
 H8.cell H.next (0 + 14) = some (.bool r4_Before_Has_2_2) ∧
 H8.cell H.next (0 + 15) = some (.bool r4_Before_Has_3_2) ∧
 H8.cell H.next (0 + 16) = some (.bool r4_Before_Has_4_2) ∧
 H8.cell H.next (0 + 17) = some (.int .i64 r4_Before_V_0_2) ∧
 H8.cell H.next (0 + 18) = some (.int .i64 r4_Before_V_1_2) ∧
 H8.cell H.next (0 + 19) = some (.int .i64 r4_Before_V_2_2) ∧
 H8.cell H.next (0 + 20) = some (.int .i64 r4_Before_V_3_2) ∧
 H8.cell H.next (0 + 21) = some (.int .i64 r4_Before_V_4_2) ∧
 H8.cell H.next (0 + 22) = some (.int .i64 r4_Many_2) ∧
 H8.cell H.next (0 + 23) = some (.int .i64 r4_From_2) ∧
 H8.cell H.next (0 + 24) = some (.int .i64 r4_FromEpoch_2) ∧
 H8.cell H.next (0 + 25) = some (.bool r4_Keep_2) ∧
 Q (.tuple ⟨[.agg ⟨[.int .i64 r4_Job_2, .int .i64 r4_Epoch_2, .int .i64 r4_Step_2, .int .i64 r4_Phase_2, .slice r4_Partsa_2 r4_Partsl_2 r4_Partsc_2, .slice r4_Assigneda_2 r4_Assignedl_2 r4_Assignedc_2, .string ⟨⟨r4_Spec_Program_2⟩⟩, .slice r4_Spec_Graph_Verticesa_2 r4_Spec_Graph_Verticesl_2 r4_Spec_Graph_Verticesc_2, .slice r4_Spec_Paramsa_2 r4_Spec_Paramsl_2 r4_Spec_Paramsc_2, .int .i64 r4_Spec_Steps_2, .int .i64 r4_Spec_Sent_2, .int .i64 r4_Spec_Parts_2, .bool r4_Before_Has_0_2, .bool r4_Before_Has_1_2, .bool r4_Before_Has_2_2, .bool r4_Before_Has_3_2, .bool r4_Before_Has_4_2, .int .i64 r4_Before_V_0_2, .int .i64 r4_Before_V_1_2, .int .i64 r4_Before_V_2_2, .int .i64 r4_Before_V_3_2, .int .i64 r4_Before_V_4_2, .int .i64 r4_Many_2, .int .i64 r4_From_2, .int .i64 r4_FromEpoch_2, .bool r4_Keep_2]⟩, .bool false]⟩) H8) (
 grd r13.isSome (
 grd r13.isSome (
 ∃ (t40 : Int),
 H7.cell ((adr r13).block) ((adr r13).off) = some (.int .i64 t40) ∧
 grd r13.isSome (
 grd r13.isSome (
 ∃ (t44 : Int),
 H7.cell ((adr r13).block) ((adr r13).off + 12) = some (.int .i64 t44) ∧
 grd r13.isSome (
 grd r13.isSome (
 ∃ (t48 : Int),
 H7.cell ((adr r13).block) ((adr r13).off + 13) = some (.int .i64 t48) ∧
 grd r13.isSome (
 grd r13.isSome (
 ∃ (t52 : Int),
 H7.cell ((adr r13).block) ((adr r13).off + 14) = some (.int .i64 t52) ∧
 grd r13.isSome (
 grd r13.isSome (
 ∃ (t56a : Option Addr) (t56l : Nat) (t56c : Nat),
 H7.cell ((adr r13).block) ((adr r13).off + 15) = some (.slice t56a t56l t56c) ∧
 FW Ee F_plan_Parts [.slice t56a t56l t56c, .int .i64 worker1] H7 fun v_2 H9 =>
 ∃ (r58a : Option Addr) (r58l : Nat) (r58c : Nat),
 v_2 = .slice r58a r58l r58c ∧
 grd r13.isSome (
 grd r13.isSome (
 ∃ (t62a : Option Addr) (t62l : Nat) (t62c : Nat),
 H9.cell ((adr r13).block) ((adr r13).off + 15) = some (.slice t62a t62l t62c) ∧
 FW Ee F_slices_Clone_L_int_int [.slice t62a t62l t62c] H9 fun v_3 H10 =>
 ∃ (r63a : Option Addr) (r63l : Nat) (r63c : Nat),
 v_3 = .slice r63a r63l r63c ∧
 grd r13.isSome (
 grd r13.isSome (
 ∃ (t67_Program : List UInt8) (t67_Graph_Verticesa : Option Addr) (t67_Graph_Verticesl : Nat) (t67_Graph_Verticesc : Nat) (t67_Paramsa : Option Addr) (t67_Paramsl : Nat) (t67_Paramsc : Nat) (t67_Steps : Int) (t67_Sent : Int) (t67_Parts : Int),
 H10.cell ((adr r13).block) ((adr r13).off + 1 + 0) = some (.string ⟨⟨t67_Program⟩⟩) ∧
 H10.cell ((adr r13).block) ((adr r13).off + 1 + 1) = some (.slice t67_Graph_Verticesa t67_Graph_Verticesl t67_Graph_Verticesc) ∧
 H10.cell ((adr r13).block) ((adr r13).off + 1 + 2) = some (.slice t67_Paramsa t67_Paramsl t67_Paramsc) ∧
 H10.cell ((adr r13).block) ((adr r13).off + 1 + 3) = some (.int .i64 t67_Steps) ∧
 H10.cell ((adr r13).block) ((adr r13).off + 1 + 4) = some (.int .i64 t67_Sent) ∧
 H10.cell ((adr r13).block) ((adr r13).off + 1 + 5) = some (.int .i64 t67_Parts) ∧
 FW Ee F_master_clone [.agg ⟨[.string ⟨⟨t67_Program⟩⟩, .slice t67_Graph_Verticesa t67_Graph_Verticesl t67_Graph_Verticesc, .slice t67_Paramsa t67_Paramsl t67_Paramsc, .int .i64 t67_Steps, .int .i64 t67_Sent, .int .i64 t67_Parts]⟩] H10 fun v_4 H11 =>
 ∃ (r68_Program : List UInt8) (r68_Graph_Verticesa : Option Addr) (r68_Graph_Verticesl : Nat) (r68_Graph_Verticesc : Nat) (r68_Paramsa : Option Addr) (r68_Paramsl : Nat) (r68_Paramsc : Nat) (r68_Steps : Int) (r68_Sent : Int) (r68_Parts : Int),
 v_4 = .agg ⟨[.string ⟨⟨r68_Program⟩⟩, .slice r68_Graph_Verticesa r68_Graph_Verticesl r68_Graph_Verticesc, .slice r68_Paramsa r68_Paramsl r68_Paramsc, .int .i64 r68_Steps, .int .i64 r68_Sent, .int .i64 r68_Parts]⟩ ∧
 grd r13.isSome (
 grd r13.isSome (
 ∃ (t72_Has_0 : Bool) (t72_Has_1 : Bool) (t72_Has_2 : Bool) (t72_Has_3 : Bool) (t72_Has_4 : Bool) (t72_V_0 : Int) (t72_V_1 : Int) (t72_V_2 : Int) (t72_V_3 : Int) (t72_V_4 : Int),
 H11.cell ((adr r13).block) ((adr r13).off + 17 + 0) = some (.bool t72_Has_0) ∧
 H11.cell ((adr r13).block) ((adr r13).off + 17 + 1) = some (.bool t72_Has_1) ∧
 H11.cell ((adr r13).block) ((adr r13).off + 17 + 2) = some (.bool t72_Has_2) ∧
 H11.cell ((adr r13).block) ((adr r13).off + 17 + 3) = some (.bool t72_Has_3) ∧
 H11.cell ((adr r13).block) ((adr r13).off + 17 + 4) = some (.bool t72_Has_4) ∧
 H11.cell ((adr r13).block) ((adr r13).off + 17 + 5) = some (.int .i64 t72_V_0) ∧
 H11.cell ((adr r13).block) ((adr r13).off + 17 + 6) = some (.int .i64 t72_V_1) ∧
 H11.cell ((adr r13).block) ((adr r13).off + 17 + 7) = some (.int .i64 t72_V_2) ∧
 H11.cell ((adr r13).block) ((adr r13).off + 17 + 8) = some (.int .i64 t72_V_3) ∧
 H11.cell ((adr r13).block) ((adr r13).off + 17 + 9) = some (.int .i64 t72_V_4) ∧
 grd r13.isSome (
 grd r13.isSome (
 ∃ (t76 : Int),
 H11.cell ((adr r13).block) ((adr r13).off + 27) = some (.int .i64 t76) ∧
 grd r13.isSome (
 grd r13.isSome (
 ∃ (t80 : Int),
 H11.cell ((adr r13).block) ((adr r13).off + 38) = some (.int .i64 t80) ∧
 grd r13.isSome (
 grd r13.isSome (
 ∃ (t84 : Int),
 H11.cell ((adr r13).block) ((adr r13).off + 39) = some (.int .i64 t84) ∧
 grd r13.isSome (
 grd r13.isSome (
 ∃ (t88 : Int),
 H11.cell ((adr r13).block) ((adr r13).off + 13) = some (.int .i64 t88) ∧
 ∀ (t89 : Int),
 t89 = IntKind.i64.wrap (t88 + 1) →
 (4 : Int) ≠ 0 ∧
 ∀ (t90 : Int),
 t90 = (t89 : Int).tmod 4 →
 ∃ (H12 : AH),
 storeCellsv H11 H.next 0 [.int .i64 t40, .int .i64 t44, .int .i64 t48, .int .i64 t52, .slice r58a r58l r58c, .slice r63a r63l r63c, .string ⟨⟨r68_Program⟩⟩, .slice r68_Graph_Verticesa r68_Graph_Verticesl r68_Graph_Verticesc, .slice r68_Paramsa r68_Paramsl r68_Paramsc, .int .i64 r68_Steps, .int .i64 r68_Sent, .int .i64 r68_Parts, .bool t72_Has_0, .bool t72_Has_1, .bool t72_Has_2, .bool t72_Has_3, .bool t72_Has_4, .int .i64 t72_V_0, .int .i64 t72_V_1, .int .i64 t72_V_2, .int .i64 t72_V_3, .int .i64 t72_V_4, .int .i64 t76, .int .i64 t80, .int .i64 t84, .bool (t90 == 0)] = some H12 ∧
 H10.cell ((adr r13).block) ((adr r13).off + 13) = some (.int .i64 t88) ∧
 H9.cell ((adr r13).block) ((adr r13).off + 13) = some (.int .i64 t88) ∧
 H7.cell ((adr r13).block) ((adr r13).off + 13) = some (.int .i64 t88) ∧
 H10.cell ((adr r13).block) ((adr r13).off + 39) = some (.int .i64 t84) ∧
 H9.cell ((adr r13).block) ((adr r13).off + 39) = some (.int .i64 t84) ∧
 H7.cell ((adr r13).block) ((adr r13).off + 39) = some (.int .i64 t84) ∧
 H10.cell ((adr r13).block) ((adr r13).off + 38) = some (.int .i64 t80) ∧
 H9.cell ((adr r13).block) ((adr r13).off + 38) = some (.int .i64 t80) ∧
 H7.cell ((adr r13).block) ((adr r13).off + 38) = some (.int .i64 t80) ∧
 H10.cell ((adr r13).block) ((adr r13).off + 27) = some (.int .i64 t76) ∧
 H9.cell ((adr r13).block) ((adr r13).off + 27) = some (.int .i64 t76) ∧
 H7.cell ((adr r13).block) ((adr r13).off + 27) = some (.int .i64 t76) ∧
 H10.cell ((adr r13).block) ((adr r13).off + 17 + 0) = some (.bool t72_Has_0) ∧
 H10.cell ((adr r13).block) ((adr r13).off + 17 + 1) = some (.bool t72_Has_1) ∧
 H10.cell ((adr r13).block) ((adr r13).off + 17 + 2) = some (.bool t72_Has_2) ∧
 H10.cell ((adr r13).block) ((adr r13).off + 17 + 3) = some (.bool t72_Has_3) ∧
 H10.cell ((adr r13).block) ((adr r13).off + 17 + 4) = some (.bool t72_Has_4) ∧
 H10.cell ((adr r13).block) ((adr r13).off + 17 + 5) = some (.int .i64 t72_V_0) ∧
 H10.cell ((adr r13).block) ((adr r13).off + 17 + 6) = some (.int .i64 t72_V_1) ∧
 H10.cell ((adr r13).block) ((adr r13).off + 17 + 7) = some (.int .i64 t72_V_2) ∧
 H10.cell ((adr r13).block) ((adr r13).off + 17 + 8) = some (.int .i64 t72_V_3) ∧
 H10.cell ((adr r13).block) ((adr r13).off + 17 + 9) = some (.int .i64 t72_V_4) ∧
 H9.cell ((adr r13).block) ((adr r13).off + 17 + 0) = some (.bool t72_Has_0) ∧
 H9.cell ((adr r13).block) ((adr r13).off + 17 + 1) = some (.bool t72_Has_1) ∧
 H9.cell ((adr r13).block) ((adr r13).off + 17 + 2) = some (.bool t72_Has_2) ∧
 H9.cell ((adr r13).block) ((adr r13).off + 17 + 3) = some (.bool t72_Has_3) ∧
 H9.cell ((adr r13).block) ((adr r13).off + 17 + 4) = some (.bool t72_Has_4) ∧
 H9.cell ((adr r13).block) ((adr r13).off + 17 + 5) = some (.int .i64 t72_V_0) ∧
 H9.cell ((adr r13).block) ((adr r13).off + 17 + 6) = some (.int .i64 t72_V_1) ∧
 H9.cell ((adr r13).block) ((adr r13).off + 17 + 7) = some (.int .i64 t72_V_2) ∧
 H9.cell ((adr r13).block) ((adr r13).off + 17 + 8) = some (.int .i64 t72_V_3) ∧
 H9.cell ((adr r13).block) ((adr r13).off + 17 + 9) = some (.int .i64 t72_V_4) ∧
 H7.cell ((adr r13).block) ((adr r13).off + 17 + 0) = some (.bool t72_Has_0) ∧
 H7.cell ((adr r13).block) ((adr r13).off + 17 + 1) = some (.bool t72_Has_1) ∧
 H7.cell ((adr r13).block) ((adr r13).off + 17 + 2) = some (.bool t72_Has_2) ∧
 H7.cell ((adr r13).block) ((adr r13).off + 17 + 3) = some (.bool t72_Has_3) ∧
 H7.cell ((adr r13).block) ((adr r13).off + 17 + 4) = some (.bool t72_Has_4) ∧
 H7.cell ((adr r13).block) ((adr r13).off + 17 + 5) = some (.int .i64 t72_V_0) ∧
 H7.cell ((adr r13).block) ((adr r13).off + 17 + 6) = some (.int .i64 t72_V_1) ∧
 H7.cell ((adr r13).block) ((adr r13).off + 17 + 7) = some (.int .i64 t72_V_2) ∧
 H7.cell ((adr r13).block) ((adr r13).off + 17 + 8) = some (.int .i64 t72_V_3) ∧
 H7.cell ((adr r13).block) ((adr r13).off + 17 + 9) = some (.int .i64 t72_V_4) ∧
 H9.cell ((adr r13).block) ((adr r13).off + 1 + 0) = some (.string ⟨⟨t67_Program⟩⟩) ∧
 H9.cell ((adr r13).block) ((adr r13).off + 1 + 1) = some (.slice t67_Graph_Verticesa t67_Graph_Verticesl t67_Graph_Verticesc) ∧
 H9.cell ((adr r13).block) ((adr r13).off + 1 + 2) = some (.slice t67_Paramsa t67_Paramsl t67_Paramsc) ∧
 H9.cell ((adr r13).block) ((adr r13).off + 1 + 3) = some (.int .i64 t67_Steps) ∧
 H9.cell ((adr r13).block) ((adr r13).off + 1 + 4) = some (.int .i64 t67_Sent) ∧
 H9.cell ((adr r13).block) ((adr r13).off + 1 + 5) = some (.int .i64 t67_Parts) ∧
 H7.cell ((adr r13).block) ((adr r13).off + 1 + 0) = some (.string ⟨⟨t67_Program⟩⟩) ∧
 H7.cell ((adr r13).block) ((adr r13).off + 1 + 1) = some (.slice t67_Graph_Verticesa t67_Graph_Verticesl t67_Graph_Verticesc) ∧
 H7.cell ((adr r13).block) ((adr r13).off + 1 + 2) = some (.slice t67_Paramsa t67_Paramsl t67_Paramsc) ∧
 H7.cell ((adr r13).block) ((adr r13).off + 1 + 3) = some (.int .i64 t67_Steps) ∧
 H7.cell ((adr r13).block) ((adr r13).off + 1 + 4) = some (.int .i64 t67_Sent) ∧
 H7.cell ((adr r13).block) ((adr r13).off + 1 + 5) = some (.int .i64 t67_Parts) ∧
 H7.cell ((adr r13).block) ((adr r13).off + 15) = some (.slice t62a t62l t62c) ∧
 H11.cell ((adr r13).block) ((adr r13).off + 14) = some (.int .i64 t52) ∧
 H10.cell ((adr r13).block) ((adr r13).off + 14) = some (.int .i64 t52) ∧
 H9.cell ((adr r13).block) ((adr r13).off + 14) = some (.int .i64 t52) ∧
 H11.cell ((adr r13).block) ((adr r13).off + 13) = some (.int .i64 t48) ∧
 H10.cell ((adr r13).block) ((adr r13).off + 13) = some (.int .i64 t48) ∧
 H9.cell ((adr r13).block) ((adr r13).off + 13) = some (.int .i64 t48) ∧
 H11.cell ((adr r13).block) ((adr r13).off + 12) = some (.int .i64 t44) ∧
 H10.cell ((adr r13).block) ((adr r13).off + 12) = some (.int .i64 t44) ∧
 H9.cell ((adr r13).block) ((adr r13).off + 12) = some (.int .i64 t44) ∧
 H11.cell ((adr r13).block) ((adr r13).off) = some (.int .i64 t40) ∧
 H10.cell ((adr r13).block) ((adr r13).off) = some (.int .i64 t40) ∧
 H9.cell ((adr r13).block) ((adr r13).off) = some (.int .i64 t40) ∧
 ∃ (r4_Job_3 : Int) (r4_Epoch_3 : Int) (r4_Step_3 : Int) (r4_Phase_3 : Int) (r4_Partsa_3 : Option Addr) (r4_Partsl_3 : Nat) (r4_Partsc_3 : Nat) (r4_Assigneda_3 : Option Addr) (r4_Assignedl_3 : Nat) (r4_Assignedc_3 : Nat) (r4_Spec_Program_3 : List UInt8) (r4_Spec_Graph_Verticesa_3 : Option Addr) (r4_Spec_Graph_Verticesl_3 : Nat) (r4_Spec_Graph_Verticesc_3 : Nat) (r4_Spec_Paramsa_3 : Option Addr) (r4_Spec_Paramsl_3 : Nat) (r4_Spec_Paramsc_3 : Nat) (r4_Spec_Steps_3 : Int) (r4_Spec_Sent_3 : Int) (r4_Spec_Parts_3 : Int) (r4_Before_Has_0_3 : Bool) (r4_Before_Has_1_3 : Bool) (r4_Before_Has_2_3 : Bool) (r4_Before_Has_3_3 : Bool) (r4_Before_Has_4_3 : Bool) (r4_Before_V_0_3 : Int) (r4_Before_V_1_3 : Int) (r4_Before_V_2_3 : Int) (r4_Before_V_3_3 : Int) (r4_Before_V_4_3 : Int) (r4_Many_3 : Int) (r4_From_3 : Int) (r4_FromEpoch_3 : Int) (r4_Keep_3 : Bool),
 H12.cell H.next (0 + 0) = some (.int .i64 r4_Job_3) ∧
 H12.cell H.next (0 + 1) = some (.int .i64 r4_Epoch_3) ∧
 H12.cell H.next (0 + 2) = some (.int .i64 r4_Step_3) ∧
 H12.cell H.next (0 + 3) = some (.int .i64 r4_Phase_3) ∧
 H12.cell H.next (0 + 4) = some (.slice r4_Partsa_3 r4_Partsl_3 r4_Partsc_3) ∧
 H12.cell H.next (0 + 5) = some (.slice r4_Assigneda_3 r4_Assignedl_3 r4_Assignedc_3) ∧
 H12.cell H.next (0 + 6) = some (.string ⟨⟨r4_Spec_Program_3⟩⟩) ∧
 H12.cell H.next (0 + 7) = some (.slice r4_Spec_Graph_Verticesa_3 r4_Spec_Graph_Verticesl_3 r4_Spec_Graph_Verticesc_3) ∧
 H12.cell H.next (0 + 8) = some (.slice r4_Spec_Paramsa_3 r4_Spec_Paramsl_3 r4_Spec_Paramsc_3) ∧
 H12.cell H.next (0 + 9) = some (.int .i64 r4_Spec_Steps_3) ∧
 H12.cell H.next (0 + 10) = some (.int .i64 r4_Spec_Sent_3) ∧
 H12.cell H.next (0 + 11) = some (.int .i64 r4_Spec_Parts_3) ∧
 H12.cell H.next (0 + 12) = some (.bool r4_Before_Has_0_3) ∧
 H12.cell H.next (0 + 13) = some (.bool r4_Before_Has_1_3) ∧
 H12.cell H.next (0 + 14) = some (.bool r4_Before_Has_2_3) ∧
 H12.cell H.next (0 + 15) = some (.bool r4_Before_Has_3_3) ∧
 H12.cell H.next (0 + 16) = some (.bool r4_Before_Has_4_3) ∧
 H12.cell H.next (0 + 17) = some (.int .i64 r4_Before_V_0_3) ∧
 H12.cell H.next (0 + 18) = some (.int .i64 r4_Before_V_1_3) ∧
 H12.cell H.next (0 + 19) = some (.int .i64 r4_Before_V_2_3) ∧
 H12.cell H.next (0 + 20) = some (.int .i64 r4_Before_V_3_3) ∧
 H12.cell H.next (0 + 21) = some (.int .i64 r4_Before_V_4_3) ∧
 H12.cell H.next (0 + 22) = some (.int .i64 r4_Many_3) ∧
 H12.cell H.next (0 + 23) = some (.int .i64 r4_From_3) ∧
 H12.cell H.next (0 + 24) = some (.int .i64 r4_FromEpoch_3) ∧
 H12.cell H.next (0 + 25) = some (.bool r4_Keep_3) ∧
 Q (.tuple ⟨[.agg ⟨[.int .i64 r4_Job_3, .int .i64 r4_Epoch_3, .int .i64 r4_Step_3, .int .i64 r4_Phase_3, .slice r4_Partsa_3 r4_Partsl_3 r4_Partsc_3, .slice r4_Assigneda_3 r4_Assignedl_3 r4_Assignedc_3, .string ⟨⟨r4_Spec_Program_3⟩⟩, .slice r4_Spec_Graph_Verticesa_3 r4_Spec_Graph_Verticesl_3 r4_Spec_Graph_Verticesc_3, .slice r4_Spec_Paramsa_3 r4_Spec_Paramsl_3 r4_Spec_Paramsc_3, .int .i64 r4_Spec_Steps_3, .int .i64 r4_Spec_Sent_3, .int .i64 r4_Spec_Parts_3, .bool r4_Before_Has_0_3, .bool r4_Before_Has_1_3, .bool r4_Before_Has_2_3, .bool r4_Before_Has_3_3, .bool r4_Before_Has_4_3, .int .i64 r4_Before_V_0_3, .int .i64 r4_Before_V_1_3, .int .i64 r4_Before_V_2_3, .int .i64 r4_Before_V_3_3, .int .i64 r4_Before_V_4_3, .int .i64 r4_Many_3, .int .i64 r4_From_3, .int .i64 r4_FromEpoch_3, .bool r4_Keep_3]⟩, .bool true]⟩) H12)))))))))))))))))))))))))))))))
set_option maxRecDepth 100000 in
theorem fw_master_Master_Task {m0b : Nat} {worker1 : Int} {H : AH} {Q : Value → AH → Prop} (h : VC_master_Master_Task m0b worker1 H Q) : FW Ee F_master_Master_Task [.pointer (some ⟨m0b, 0, none⟩), .int .i64 worker1] H Q := by
  have e : VC_master_Master_Task m0b worker1 H Q = wpF Ee ⟨[], []⟩ F_master_Master_Task [.pointer (some ⟨m0b, 0, none⟩), .int .i64 worker1] H Q := by kernel_rfl
  letI : Sy := sy0
  exact wpF_sound (Eq.mp e h)
/-- cohort/master.putJob -/
def VC_master_putJob (w0b : Nat) (j1b : Nat) (H : AH) (Q : Value → AH → Prop) : Prop :=
 ∃ (t16 : Int),
 H.cell j1b 0 = some (.int .i64 t16) ∧
 FW Ee F_wire_Writer_Count [.pointer (some ⟨w0b, 0, none⟩), .int .i64 t16] H fun v H1 =>
 v = .tuple ⟨[]⟩ ∧
 ∃ (t22_Program : List UInt8) (t22_Graph_Verticesa : Option Addr) (t22_Graph_Verticesl : Nat) (t22_Graph_Verticesc : Nat) (t22_Paramsa : Option Addr) (t22_Paramsl : Nat) (t22_Paramsc : Nat) (t22_Steps : Int) (t22_Sent : Int) (t22_Parts : Int),
 H1.cell j1b (1 + 0) = some (.string ⟨⟨t22_Program⟩⟩) ∧
 H1.cell j1b (1 + 1) = some (.slice t22_Graph_Verticesa t22_Graph_Verticesl t22_Graph_Verticesc) ∧
 H1.cell j1b (1 + 2) = some (.slice t22_Paramsa t22_Paramsl t22_Paramsc) ∧
 H1.cell j1b (1 + 3) = some (.int .i64 t22_Steps) ∧
 H1.cell j1b (1 + 4) = some (.int .i64 t22_Sent) ∧
 H1.cell j1b (1 + 5) = some (.int .i64 t22_Parts) ∧
 FW Ee F_run_PutJob [.pointer (some ⟨w0b, 0, none⟩), .agg ⟨[.string ⟨⟨t22_Program⟩⟩, .slice t22_Graph_Verticesa t22_Graph_Verticesl t22_Graph_Verticesc, .slice t22_Paramsa t22_Paramsl t22_Paramsc, .int .i64 t22_Steps, .int .i64 t22_Sent, .int .i64 t22_Parts]⟩] H1 fun v_1 H2 =>
 v_1 = .tuple ⟨[]⟩ ∧
 ∃ (t28 : Int),
 H2.cell j1b 7 = some (.int .i64 t28) ∧
 FW Ee F_wire_Writer_Count [.pointer (some ⟨w0b, 0, none⟩), .int .i64 t28] H2 fun v_2 H3 =>
 v_2 = .tuple ⟨[]⟩ ∧
 ∃ (t34_Kind : Int) (t34_Err : Int) (t34_Steps : Int) (t34_Valuesa : Option Addr) (t34_Valuesl : Nat) (t34_Valuesc : Nat),
 H3.cell j1b (8 + 0) = some (.int .i64 t34_Kind) ∧
 H3.cell j1b (8 + 1) = some (.int .i64 t34_Err) ∧
 H3.cell j1b (8 + 2) = some (.int .i64 t34_Steps) ∧
 H3.cell j1b (8 + 3) = some (.slice t34_Valuesa t34_Valuesl t34_Valuesc) ∧
 FW Ee F_run_Encode [.agg ⟨[.int .i64 t34_Kind, .int .i64 t34_Err, .int .i64 t34_Steps, .slice t34_Valuesa t34_Valuesl t34_Valuesc]⟩] H3 fun v_3 H4 =>
 ∃ (r35 : List UInt8),
 v_3 = .string ⟨⟨r35⟩⟩ ∧
 FW Ee F_wire_Writer_Text [.pointer (some ⟨w0b, 0, none⟩), .string ⟨⟨r35⟩⟩] H4 fun v_4 H5 =>
 v_4 = .tuple ⟨[]⟩ ∧
 ∃ (t40 : Int),
 H5.cell j1b 12 = some (.int .i64 t40) ∧
 ∃ (t44 : Int),
 H5.cell j1b 13 = some (.int .i64 t44) ∧
 ∃ (t48 : Int),
 H5.cell j1b 14 = some (.int .i64 t48) ∧
 ∃ (t52 : Int),
 H5.cell j1b 27 = some (.int .i64 t52) ∧
 ∃ (t56 : Int),
 H5.cell j1b 38 = some (.int .i64 t56) ∧
 ∃ (t60 : Int),
 H5.cell j1b 39 = some (.int .i64 t60) ∧
 ∃ (t64a : Option Addr) (t64l : Nat) (t64c : Nat),
 H5.cell j1b 15 = some (.slice t64a t64l t64c) ∧
 ∀ (H6 : AH),
 H6 = H5.new (.cells [.int .i64 t40, .int .i64 t44, .int .i64 t48, .int .i64 t52, .int .i64 t56, .int .i64 t60, .int .i64 (((t64l : Nat) : Int))] 0) →
 H6.cell j1b 15 = some (.slice t64a t64l t64c) ∧
 H6.cell j1b 39 = some (.int .i64 t60) ∧
 H6.cell j1b 38 = some (.int .i64 t56) ∧
 H6.cell j1b 27 = some (.int .i64 t52) ∧
 H6.cell j1b 14 = some (.int .i64 t48) ∧
 H6.cell j1b 13 = some (.int .i64 t44) ∧
 H6.cell j1b 12 = some (.int .i64 t40) ∧
 ∃ (Inv : Nat → Int → AH → Prop),
 (
 ∃ (n_1 : Nat),
 Inv n_1 0 H6) ∧
 ∀ (n : Nat),
 ∀ (t68 : Int) (H7 : AH),
 Inv n t68 H7 →
 cond (decide (t68 < (((7 : Nat) : Int)))) (
 (0 : Int) ≤ t68 ∧
 (t68 : Int) < ((7 : Nat) : Int) ∧
 ∃ (t71 : Int),
 H7.cell H5.next (0 + (t68 : Int).toNat * 1) = some (.int .i64 t71) ∧
 FW Ee F_wire_Writer_Count [.pointer (some ⟨w0b, 0, none⟩), .int .i64 t71] H7 fun v_5 H8 =>
 v_5 = .tuple ⟨[]⟩ ∧
 ∀ (t75 : Int),
 t75 = IntKind.i64.wrap (t68 + 1) →
 ∃ (m : Nat),
 m < n ∧
 Inv m t75 H8) (
 ∃ (t79a : Option Addr) (t79l : Nat) (t79c : Nat),
 H7.cell j1b 15 = some (.slice t79a t79l t79c) ∧
 ∃ (Inv_1 : Nat → Int → AH → Prop),
 (
 ∃ (n_3 : Nat),
 Inv_1 n_3 0 H7) ∧
 ∀ (n_2 : Nat),
 ∀ (t81 : Int) (H9 : AH),
 Inv_1 n_2 t81 H9 →
 cond (decide (t81 < (((t79l : Nat) : Int)))) (
 grd t79a.isSome (
 (0 : Int) ≤ t81 ∧
 (t81 : Int) < ((t79l : Nat) : Int) ∧
 ∃ (t84 : Int),
 H9.cell ((adr t79a).block) ((adr t79a).off + (t81 : Int).toNat * 1) = some (.int .i64 t84) ∧
 FW Ee F_wire_Writer_Count [.pointer (some ⟨w0b, 0, none⟩), .int .i64 t84] H9 fun v_6 H10 =>
 v_6 = .tuple ⟨[]⟩ ∧
 ∀ (t88 : Int),
 t88 = IntKind.i64.wrap (t81 + 1) →
 ∃ (m_1 : Nat),
 m_1 < n_2 ∧
 Inv_1 m_1 t88 H10)) (
 ∃ (t92_Has_0 : Bool) (t92_Has_1 : Bool) (t92_Has_2 : Bool) (t92_Has_3 : Bool) (t92_Has_4 : Bool) (t92_V_0 : Int) (t92_V_1 : Int) (t92_V_2 : Int) (t92_V_3 : Int) (t92_V_4 : Int),
 H9.cell j1b (17 + 0) = some (.bool t92_Has_0) ∧
 H9.cell j1b (17 + 1) = some (.bool t92_Has_1) ∧
 H9.cell j1b (17 + 2) = some (.bool t92_Has_2) ∧
 H9.cell j1b (17 + 3) = some (.bool t92_Has_3) ∧
 H9.cell j1b (17 + 4) = some (.bool t92_Has_4) ∧
 H9.cell j1b (17 + 5) = some (.int .i64 t92_V_0) ∧
 H9.cell j1b (17 + 6) = some (.int .i64 t92_V_1) ∧
 H9.cell j1b (17 + 7) = some (.int .i64 t92_V_2) ∧
 H9.cell j1b (17 + 8) = some (.int .i64 t92_V_3) ∧
 H9.cell j1b (17 + 9) = some (.int .i64 t92_V_4) ∧
 ∃ (t96_Has_0 : Bool) (t96_Has_1 : Bool) (t96_Has_2 : Bool) (t96_Has_3 : Bool) (t96_Has_4 : Bool) (t96_V_0 : Int) (t96_V_1 : Int) (t96_V_2 : Int) (t96_V_3 : Int) (t96_V_4 : Int),
 H9.cell j1b (28 + 0) = some (.bool t96_Has_0) ∧
 H9.cell j1b (28 + 1) = some (.bool t96_Has_1) ∧
 H9.cell j1b (28 + 2) = some (.bool t96_Has_2) ∧
 H9.cell j1b (28 + 3) = some (.bool t96_Has_3) ∧
 H9.cell j1b (28 + 4) = some (.bool t96_Has_4) ∧
 H9.cell j1b (28 + 5) = some (.int .i64 t96_V_0) ∧
 H9.cell j1b (28 + 6) = some (.int .i64 t96_V_1) ∧
 H9.cell j1b (28 + 7) = some (.int .i64 t96_V_2) ∧
 H9.cell j1b (28 + 8) = some (.int .i64 t96_V_3) ∧
 H9.cell j1b (28 + 9) = some (.int .i64 t96_V_4) ∧
 ∃ (t100_Has_0 : Bool) (t100_Has_1 : Bool) (t100_Has_2 : Bool) (t100_Has_3 : Bool) (t100_Has_4 : Bool) (t100_V_0 : Int) (t100_V_1 : Int) (t100_V_2 : Int) (t100_V_3 : Int) (t100_V_4 : Int),
 H9.cell j1b (40 + 0) = some (.bool t100_Has_0) ∧
 H9.cell j1b (40 + 1) = some (.bool t100_Has_1) ∧
 H9.cell j1b (40 + 2) = some (.bool t100_Has_2) ∧
 H9.cell j1b (40 + 3) = some (.bool t100_Has_3) ∧
 H9.cell j1b (40 + 4) = some (.bool t100_Has_4) ∧
 H9.cell j1b (40 + 5) = some (.int .i64 t100_V_0) ∧
 H9.cell j1b (40 + 6) = some (.int .i64 t100_V_1) ∧
 H9.cell j1b (40 + 7) = some (.int .i64 t100_V_2) ∧
 H9.cell j1b (40 + 8) = some (.int .i64 t100_V_3) ∧
 H9.cell j1b (40 + 9) = some (.int .i64 t100_V_4) ∧
 ∀ (H11 : AH),
 H11 = H9.new (.cells [.bool t92_Has_0, .bool t92_Has_1, .bool t92_Has_2, .bool t92_Has_3, .bool t92_Has_4, .int .i64 t92_V_0, .int .i64 t92_V_1, .int .i64 t92_V_2, .int .i64 t92_V_3, .int .i64 t92_V_4, .bool t96_Has_0, .bool t96_Has_1, .bool t96_Has_2, .bool t96_Has_3, .bool t96_Has_4, .int .i64 t96_V_0, .int .i64 t96_V_1, .int .i64 t96_V_2, .int .i64 t96_V_3, .int .i64 t96_V_4, .bool t100_Has_0, .bool t100_Has_1, .bool t100_Has_2, .bool t100_Has_3, .bool t100_Has_4, .int .i64 t100_V_0, .int .i64 t100_V_1, .int .i64 t100_V_2, .int .i64 t100_V_3, .int .i64 t100_V_4] 0) →
 H11.cell j1b (40 + 0) = some (.bool t100_Has_0) ∧
 H11.cell j1b (40 + 1) = some (.bool t100_Has_1) ∧
 H11.cell j1b (40 + 2) = some (.bool t100_Has_2) ∧
 H11.cell j1b (40 + 3) = some (.bool t100_Has_3) ∧
 H11.cell j1b (40 + 4) = some (.bool t100_Has_4) ∧
 H11.cell j1b (40 + 5) = some (.int .i64 t100_V_0) ∧
 H11.cell j1b (40 + 6) = some (.int .i64 t100_V_1) ∧
 H11.cell j1b (40 + 7) = some (.int .i64 t100_V_2) ∧
 H11.cell j1b (40 + 8) = some (.int .i64 t100_V_3) ∧
 H11.cell j1b (40 + 9) = some (.int .i64 t100_V_4) ∧
 H11.cell j1b (28 + 0) = some (.bool t96_Has_0) ∧
 H11.cell j1b (28 + 1) = some (.bool t96_Has_1) ∧
 H11.cell j1b (28 + 2) = some (.bool t96_Has_2) ∧
 H11.cell j1b (28 + 3) = some (.bool t96_Has_3) ∧
 H11.cell j1b (28 + 4) = some (.bool t96_Has_4) ∧
 H11.cell j1b (28 + 5) = some (.int .i64 t96_V_0) ∧
 H11.cell j1b (28 + 6) = some (.int .i64 t96_V_1) ∧
 H11.cell j1b (28 + 7) = some (.int .i64 t96_V_2) ∧
 H11.cell j1b (28 + 8) = some (.int .i64 t96_V_3) ∧
 H11.cell j1b (28 + 9) = some (.int .i64 t96_V_4) ∧
 H11.cell j1b (17 + 0) = some (.bool t92_Has_0) ∧
 H11.cell j1b (17 + 1) = some (.bool t92_Has_1) ∧
 H11.cell j1b (17 + 2) = some (.bool t92_Has_2) ∧
 H11.cell j1b (17 + 3) = some (.bool t92_Has_3) ∧
 H11.cell j1b (17 + 4) = some (.bool t92_Has_4) ∧
 H11.cell j1b (17 + 5) = some (.int .i64 t92_V_0) ∧
 H11.cell j1b (17 + 6) = some (.int .i64 t92_V_1) ∧
 H11.cell j1b (17 + 7) = some (.int .i64 t92_V_2) ∧
 H11.cell j1b (17 + 8) = some (.int .i64 t92_V_3) ∧
 H11.cell j1b (17 + 9) = some (.int .i64 t92_V_4) ∧
 ∃ (Inv_2 : Nat → Int → AH → Prop),
 (
 ∃ (n_5 : Nat),
 Inv_2 n_5 0 H11) ∧
 ∀ (n_4 : Nat),
 ∀ (t103 : Int) (H12 : AH),
 Inv_2 n_4 t103 H12 →
 cond (decide (t103 < (((3 : Nat) : Int)))) (
 (0 : Int) ≤ t103 ∧
 (t103 : Int) < ((3 : Nat) : Int) ∧
 ∃ (t106_Has_0 : Bool) (t106_Has_1 : Bool) (t106_Has_2 : Bool) (t106_Has_3 : Bool) (t106_Has_4 : Bool) (t106_V_0 : Int) (t106_V_1 : Int) (t106_V_2 : Int) (t106_V_3 : Int) (t106_V_4 : Int),
 H12.cell H9.next (0 + (t103 : Int).toNat * 10 + 0) = some (.bool t106_Has_0) ∧
 H12.cell H9.next (0 + (t103 : Int).toNat * 10 + 1) = some (.bool t106_Has_1) ∧
 H12.cell H9.next (0 + (t103 : Int).toNat * 10 + 2) = some (.bool t106_Has_2) ∧
 H12.cell H9.next (0 + (t103 : Int).toNat * 10 + 3) = some (.bool t106_Has_3) ∧
 H12.cell H9.next (0 + (t103 : Int).toNat * 10 + 4) = some (.bool t106_Has_4) ∧
 H12.cell H9.next (0 + (t103 : Int).toNat * 10 + 5) = some (.int .i64 t106_V_0) ∧
 H12.cell H9.next (0 + (t103 : Int).toNat * 10 + 6) = some (.int .i64 t106_V_1) ∧
 H12.cell H9.next (0 + (t103 : Int).toNat * 10 + 7) = some (.int .i64 t106_V_2) ∧
 H12.cell H9.next (0 + (t103 : Int).toNat * 10 + 8) = some (.int .i64 t106_V_3) ∧
 H12.cell H9.next (0 + (t103 : Int).toNat * 10 + 9) = some (.int .i64 t106_V_4) ∧
 ∀ (H13 : AH),
 H13 = H12.new (.cells [.bool false, .bool false, .bool false, .bool false, .bool false, .int .i64 0, .int .i64 0, .int .i64 0, .int .i64 0, .int .i64 0] 0) →
 ∃ (H14 : AH),
 storeCellsv H13 H12.next 0 [.bool t106_Has_0, .bool t106_Has_1, .bool t106_Has_2, .bool t106_Has_3, .bool t106_Has_4, .int .i64 t106_V_0, .int .i64 t106_V_1, .int .i64 t106_V_2, .int .i64 t106_V_3, .int .i64 t106_V_4] = some H14 ∧
 ∃ (t108_Has_0 : Bool) (t108_Has_1 : Bool) (t108_Has_2 : Bool) (t108_Has_3 : Bool) (t108_Has_4 : Bool) (t108_V_0 : Int) (t108_V_1 : Int) (t108_V_2 : Int) (t108_V_3 : Int) (t108_V_4 : Int),
 H14.cell H12.next (0 + 0) = some (.bool t108_Has_0) ∧
 H14.cell H12.next (0 + 1) = some (.bool t108_Has_1) ∧
 H14.cell H12.next (0 + 2) = some (.bool t108_Has_2) ∧
 H14.cell H12.next (0 + 3) = some (.bool t108_Has_3) ∧
 H14.cell H12.next (0 + 4) = some (.bool t108_Has_4) ∧
 H14.cell H12.next (0 + 5) = some (.int .i64 t108_V_0) ∧
 H14.cell H12.next (0 + 6) = some (.int .i64 t108_V_1) ∧
 H14.cell H12.next (0 + 7) = some (.int .i64 t108_V_2) ∧
 H14.cell H12.next (0 + 8) = some (.int .i64 t108_V_3) ∧
 H14.cell H12.next (0 + 9) = some (.int .i64 t108_V_4) ∧
 FW Ee F_agg_Put [.pointer (some ⟨w0b, 0, none⟩), .agg ⟨[.bool t108_Has_0, .bool t108_Has_1, .bool t108_Has_2, .bool t108_Has_3, .bool t108_Has_4, .int .i64 t108_V_0, .int .i64 t108_V_1, .int .i64 t108_V_2, .int .i64 t108_V_3, .int .i64 t108_V_4]⟩] H14 fun v_7 H15 =>
 v_7 = .tuple ⟨[]⟩ ∧
 ∀ (t110 : Int),
 t110 = IntKind.i64.wrap (t103 + 1) →
 ∃ (m_2 : Nat),
 m_2 < n_4 ∧
 Inv_2 m_2 t110 H15) (
 ∃ (t115 : Option Nat),
 H12.cell j1b 16 = some (.map t115) ∧
 ((
 t115 = none ∧
 FW Ee F_wire_Writer_Count [.pointer (some ⟨w0b, 0, none⟩), .int .i64 0] H12 fun v_8 H16 =>
 v_8 = .tuple ⟨[]⟩ ∧
 ∃ (t121 : Option Nat),
 H16.cell j1b 16 = some (.map t121) ∧
 FW Ee F_maps_Keys_map_int_api_Report_int_api_Report [.map t121] H16 fun v_9 H17 =>
 ∃ (r122 : Value),
 v_9 = r122 ∧
 FW Ee F_slices_Sorted_int [r122] H17 fun v_10 H18 =>
 ∃ (r123a : Option Addr) (r123l : Nat) (r123c : Nat),
 v_10 = .slice r123a r123l r123c ∧
 ∃ (Inv_3 : Nat → Int → AH → Prop),
 (
 ∃ (n_7 : Nat),
 Inv_3 n_7 0 H18) ∧
 ∀ (n_6 : Nat),
 ∀ (t125 : Int) (H19 : AH),
 Inv_3 n_6 t125 H19 →
 cond (decide (t125 < (((r123l : Nat) : Int)))) (
 grd r123a.isSome (
 (0 : Int) ≤ t125 ∧
 (t125 : Int) < ((r123l : Nat) : Int) ∧
 ∃ (t128 : Int),
 H19.cell ((adr r123a).block) ((adr r123a).off + (t125 : Int).toNat * 1) = some (.int .i64 t128) ∧
 ∃ (t133 : Option Nat),
 H19.cell j1b 16 = some (.map t133) ∧
 ∃ (t135_Job : Int) (t135_Epoch : Int) (t135_Step : Int) (t135_Phase : Int) (t135_Worker : Int) (t135_Err : Int) (t135_Sent : Int) (t135_Active : Int) (t135_Many : Int) (t135_Agg_Has_0 : Bool) (t135_Agg_Has_1 : Bool) (t135_Agg_Has_2 : Bool) (t135_Agg_Has_3 : Bool) (t135_Agg_Has_4 : Bool) (t135_Agg_V_0 : Int) (t135_Agg_V_1 : Int) (t135_Agg_V_2 : Int) (t135_Agg_V_3 : Int) (t135_Agg_V_4 : Int) (t135_Valuesa : Option Addr) (t135_Valuesl : Nat) (t135_Valuesc : Nat),
 lookupv Ee H19 T_M_int_api_Report (.map t133) (.int .i64 t128) false = some (.agg ⟨[.int .i64 t135_Job, .int .i64 t135_Epoch, .int .i64 t135_Step, .int .i64 t135_Phase, .int .i64 t135_Worker, .int .i64 t135_Err, .int .i64 t135_Sent, .int .i64 t135_Active, .int .i64 t135_Many, .bool t135_Agg_Has_0, .bool t135_Agg_Has_1, .bool t135_Agg_Has_2, .bool t135_Agg_Has_3, .bool t135_Agg_Has_4, .int .i64 t135_Agg_V_0, .int .i64 t135_Agg_V_1, .int .i64 t135_Agg_V_2, .int .i64 t135_Agg_V_3, .int .i64 t135_Agg_V_4, .slice t135_Valuesa t135_Valuesl t135_Valuesc]⟩) ∧
 FW Ee F_master_PutReport [.pointer (some ⟨w0b, 0, none⟩), .agg ⟨[.int .i64 t135_Job, .int .i64 t135_Epoch, .int .i64 t135_Step, .int .i64 t135_Phase, .int .i64 t135_Worker, .int .i64 t135_Err, .int .i64 t135_Sent, .int .i64 t135_Active, .int .i64 t135_Many, .bool t135_Agg_Has_0, .bool t135_Agg_Has_1, .bool t135_Agg_Has_2, .bool t135_Agg_Has_3, .bool t135_Agg_Has_4, .int .i64 t135_Agg_V_0, .int .i64 t135_Agg_V_1, .int .i64 t135_Agg_V_2, .int .i64 t135_Agg_V_3, .int .i64 t135_Agg_V_4, .slice t135_Valuesa t135_Valuesl t135_Valuesc]⟩] H19 fun v_11 H20 =>
 v_11 = .tuple ⟨[]⟩ ∧
 ∀ (t137 : Int),
 t137 = IntKind.i64.wrap (t125 + 1) →
 ∃ (m_3 : Nat),
 m_3 < n_6 ∧
 Inv_3 m_3 t137 H20)) (
 Q (.tuple ⟨[]⟩) H19)) ∨ (
 ∃ (mb : Nat) (es : List MapEntry) (cl : Nat),
 t115 = some mb ∧
 H12.get mb = some (.map es cl) ∧
 FW Ee F_wire_Writer_Count [.pointer (some ⟨w0b, 0, none⟩), .int .i64 (((es.length : Nat) : Int))] H12 fun v_12 H21 =>
 v_12 = .tuple ⟨[]⟩ ∧
 ∃ (t121_1 : Option Nat),
 H21.cell j1b 16 = some (.map t121_1) ∧
 FW Ee F_maps_Keys_map_int_api_Report_int_api_Report [.map t121_1] H21 fun v_13 H22 =>
 ∃ (r122_1 : Value),
 v_13 = r122_1 ∧
 FW Ee F_slices_Sorted_int [r122_1] H22 fun v_14 H23 =>
 ∃ (r123a_1 : Option Addr) (r123l_1 : Nat) (r123c_1 : Nat),
 v_14 = .slice r123a_1 r123l_1 r123c_1 ∧
 ∃ (Inv_4 : Nat → Int → AH → Prop),
 (
 ∃ (n_9 : Nat),
 Inv_4 n_9 0 H23) ∧
 ∀ (n_8 : Nat),
 ∀ (t125_1 : Int) (H24 : AH),
 Inv_4 n_8 t125_1 H24 →
 cond (decide (t125_1 < (((r123l_1 : Nat) : Int)))) (
 grd r123a_1.isSome (
 (0 : Int) ≤ t125_1 ∧
 (t125_1 : Int) < ((r123l_1 : Nat) : Int) ∧
 ∃ (t128_1 : Int),
 H24.cell ((adr r123a_1).block) ((adr r123a_1).off + (t125_1 : Int).toNat * 1) = some (.int .i64 t128_1) ∧
 ∃ (t133_1 : Option Nat),
 H24.cell j1b 16 = some (.map t133_1) ∧
 ∃ (t135_Job_1 : Int) (t135_Epoch_1 : Int) (t135_Step_1 : Int) (t135_Phase_1 : Int) (t135_Worker_1 : Int) (t135_Err_1 : Int) (t135_Sent_1 : Int) (t135_Active_1 : Int) (t135_Many_1 : Int) (t135_Agg_Has_0_1 : Bool) (t135_Agg_Has_1_1 : Bool) (t135_Agg_Has_2_1 : Bool) (t135_Agg_Has_3_1 : Bool) (t135_Agg_Has_4_1 : Bool) (t135_Agg_V_0_1 : Int) (t135_Agg_V_1_1 : Int) (t135_Agg_V_2_1 : Int) (t135_Agg_V_3_1 : Int) (t135_Agg_V_4_1 : Int) (t135_Valuesa_1 : Option Addr) (t135_Valuesl_1 : Nat) (t135_Valuesc_1 : Nat),
 lookupv Ee H24 T_M_int_api_Report (.map t133_1) (.int .i64 t128_1) false = some (.agg ⟨[.int .i64 t135_Job_1, .int .i64 t135_Epoch_1, .int .i64 t135_Step_1, .int .i64 t135_Phase_1, .int .i64 t135_Worker_1, .int .i64 t135_Err_1, .int .i64 t135_Sent_1, .int .i64 t135_Active_1, .int .i64 t135_Many_1, .bool t135_Agg_Has_0_1, .bool t135_Agg_Has_1_1, .bool t135_Agg_Has_2_1, .bool t135_Agg_Has_3_1, .bool t135_Agg_Has_4_1, .int .i64 t135_Agg_V_0_1, .int .i64 t135_Agg_V_1_1, .int .i64 t135_Agg_V_2_1, .int .i64 t135_Agg_V_3_1, .int .i64 t135_Agg_V_4_1, .slice t135_Valuesa_1 t135_Valuesl_1 t135_Valuesc_1]⟩) ∧
 FW Ee F_master_PutReport [.pointer (some ⟨w0b, 0, none⟩), .agg ⟨[.int .i64 t135_Job_1, .int .i64 t135_Epoch_1, .int .i64 t135_Step_1, .int .i64 t135_Phase_1, .int .i64 t135_Worker_1, .int .i64 t135_Err_1, .int .i64 t135_Sent_1, .int .i64 t135_Active_1, .int .i64 t135_Many_1, .bool t135_Agg_Has_0_1, .bool t135_Agg_Has_1_1, .bool t135_Agg_Has_2_1, .bool t135_Agg_Has_3_1, .bool t135_Agg_Has_4_1, .int .i64 t135_Agg_V_0_1, .int .i64 t135_Agg_V_1_1, .int .i64 t135_Agg_V_2_1, .int .i64 t135_Agg_V_3_1, .int .i64 t135_Agg_V_4_1, .slice t135_Valuesa_1 t135_Valuesl_1 t135_Valuesc_1]⟩] H24 fun v_15 H25 =>
 v_15 = .tuple ⟨[]⟩ ∧
 ∀ (t137_1 : Int),
 t137_1 = IntKind.i64.wrap (t125_1 + 1) →
 ∃ (m_4 : Nat),
 m_4 < n_8 ∧
 Inv_4 m_4 t137_1 H25)) (
 Q (.tuple ⟨[]⟩) H24))))))
set_option maxRecDepth 100000 in
theorem fw_master_putJob {w0b : Nat} {j1b : Nat} {H : AH} {Q : Value → AH → Prop} (h : VC_master_putJob w0b j1b H Q) : FW Ee F_master_putJob [.pointer (some ⟨w0b, 0, none⟩), .pointer (some ⟨j1b, 0, none⟩)] H Q := by
  have e : VC_master_putJob w0b j1b H Q = wpF Ee ⟨[], []⟩ F_master_putJob [.pointer (some ⟨w0b, 0, none⟩), .pointer (some ⟨j1b, 0, none⟩)] H Q := by kernel_rfl
  letI : Sy := sy0
  exact wpF_sound (Eq.mp e h)
/-- maps.Keys[map[int64]cohort/sess.last,int64,cohort/sess.last] -/
def VC_maps_Keys_map_int64_sess_last_int64_sess_last (m0 : Option Nat) (H : AH) (Q : Value → AH → Prop) : Prop :=
 ∀ (H1 : AH),
 H1 = H.new (.cells [.map m0] 0) →
 Q (.func (.func F_maps_Keys_map_int64_sess_last_int64_sess_last_1) ⟨[]⟩ ⟨[.pointer (some ⟨H.next, 0, none⟩)]⟩) H1
set_option maxRecDepth 100000 in
theorem fw_maps_Keys_map_int64_sess_last_int64_sess_last {m0 : Option Nat} {H : AH} {Q : Value → AH → Prop} (h : VC_maps_Keys_map_int64_sess_last_int64_sess_last m0 H Q) : FW Ee F_maps_Keys_map_int64_sess_last_int64_sess_last [.map m0] H Q := by
  have e : VC_maps_Keys_map_int64_sess_last_int64_sess_last m0 H Q = wpF Ee ⟨[], []⟩ F_maps_Keys_map_int64_sess_last_int64_sess_last [.map m0] H Q := by kernel_rfl
  letI : Sy := sy0
  exact wpF_sound (Eq.mp e h)
/-- maps.Keys[map[int]cohort/api.Report,int,cohort/api.Report] -/
def VC_maps_Keys_map_int_api_Report_int_api_Report (m0 : Option Nat) (H : AH) (Q : Value → AH → Prop) : Prop :=
 ∀ (H1 : AH),
 H1 = H.new (.cells [.map m0] 0) →
 Q (.func (.func F_maps_Keys_map_int_api_Report_int_api_Report_1) ⟨[]⟩ ⟨[.pointer (some ⟨H.next, 0, none⟩)]⟩) H1
set_option maxRecDepth 100000 in
theorem fw_maps_Keys_map_int_api_Report_int_api_Report {m0 : Option Nat} {H : AH} {Q : Value → AH → Prop} (h : VC_maps_Keys_map_int_api_Report_int_api_Report m0 H Q) : FW Ee F_maps_Keys_map_int_api_Report_int_api_Report [.map m0] H Q := by
  have e : VC_maps_Keys_map_int_api_Report_int_api_Report m0 H Q = wpF Ee ⟨[], []⟩ F_maps_Keys_map_int_api_Report_int_api_Report [.map m0] H Q := by kernel_rfl
  letI : Sy := sy0
  exact wpF_sound (Eq.mp e h)
/-- (*cohort/sess.Table).Put -/
def VC_sess_Table_Put (t0b : Nat) (w1 : Option Addr) (H : AH) (Q : Value → AH → Prop) : Prop :=
 ∃ (t14 : Option Nat),
 H.cell t0b 0 = some (.map t14) ∧
 ((
 t14 = none ∧
 FW Ee F_wire_Writer_Count [.pointer w1, .int .i64 0] H fun v H1 =>
 v = .tuple ⟨[]⟩ ∧
 ∃ (t20 : Option Nat),
 H1.cell t0b 0 = some (.map t20) ∧
 FW Ee F_maps_Keys_map_int64_sess_last_int64_sess_last [.map t20] H1 fun v_1 H2 =>
 ∃ (r21 : Value),
 v_1 = r21 ∧
 FW Ee F_slices_Sorted_int64 [r21] H2 fun v_2 H3 =>
 ∃ (r22a : Option Addr) (r22l : Nat) (r22c : Nat),
 v_2 = .slice r22a r22l r22c ∧
 ∃ (Inv : Nat → Int → AH → Prop),
 (
 ∃ (n_1 : Nat),
 Inv n_1 0 H3) ∧
 ∀ (n : Nat),
 ∀ (t24 : Int) (H4 : AH),
 Inv n t24 H4 →
 cond (decide (t24 < (((r22l : Nat) : Int)))) (
 grd r22a.isSome (
 (0 : Int) ≤ t24 ∧
 (t24 : Int) < ((r22l : Nat) : Int) ∧
 ∃ (t27 : Int),
 H4.cell ((adr r22a).block) ((adr r22a).off + (t24 : Int).toNat * 1) = some (.int .i64 t27) ∧
 FW Ee F_wire_Writer_Signed [.pointer w1, .int .i64 t27] H4 fun v_3 H5 =>
 v_3 = .tuple ⟨[]⟩ ∧
 ∃ (t35 : Option Nat),
 H5.cell t0b 0 = some (.map t35) ∧
 ∃ (t37_seq : Int) (t37_answer : List UInt8),
 lookupv Ee H5 T_M_int64_sess_last (.map t35) (.int .i64 t27) false = some (.agg ⟨[.int .i64 t37_seq, .string ⟨⟨t37_answer⟩⟩]⟩) ∧
 FW Ee F_wire_Writer_Count [.pointer w1, .int .i64 t37_seq] H5 fun v_4 H6 =>
 v_4 = .tuple ⟨[]⟩ ∧
 ∃ (t44 : Option Nat),
 H6.cell t0b 0 = some (.map t44) ∧
 ∃ (t46_seq : Int) (t46_answer : List UInt8),
 lookupv Ee H6 T_M_int64_sess_last (.map t44) (.int .i64 t27) false = some (.agg ⟨[.int .i64 t46_seq, .string ⟨⟨t46_answer⟩⟩]⟩) ∧
 FW Ee F_wire_Writer_Text [.pointer w1, .string ⟨⟨t46_answer⟩⟩] H6 fun v_5 H7 =>
 v_5 = .tuple ⟨[]⟩ ∧
 ∀ (t49 : Int),
 t49 = IntKind.i64.wrap (t24 + 1) →
 ∃ (m : Nat),
 m < n ∧
 Inv m t49 H7)) (
 Q (.tuple ⟨[]⟩) H4)) ∨ (
 ∃ (mb : Nat) (es : List MapEntry) (cl : Nat),
 t14 = some mb ∧
 H.get mb = some (.map es cl) ∧
 FW Ee F_wire_Writer_Count [.pointer w1, .int .i64 (((es.length : Nat) : Int))] H fun v_6 H8 =>
 v_6 = .tuple ⟨[]⟩ ∧
 ∃ (t20_1 : Option Nat),
 H8.cell t0b 0 = some (.map t20_1) ∧
 FW Ee F_maps_Keys_map_int64_sess_last_int64_sess_last [.map t20_1] H8 fun v_7 H9 =>
 ∃ (r21_1 : Value),
 v_7 = r21_1 ∧
 FW Ee F_slices_Sorted_int64 [r21_1] H9 fun v_8 H10 =>
 ∃ (r22a_1 : Option Addr) (r22l_1 : Nat) (r22c_1 : Nat),
 v_8 = .slice r22a_1 r22l_1 r22c_1 ∧
 ∃ (Inv_1 : Nat → Int → AH → Prop),
 (
 ∃ (n_3 : Nat),
 Inv_1 n_3 0 H10) ∧
 ∀ (n_2 : Nat),
 ∀ (t24_1 : Int) (H11 : AH),
 Inv_1 n_2 t24_1 H11 →
 cond (decide (t24_1 < (((r22l_1 : Nat) : Int)))) (
 grd r22a_1.isSome (
 (0 : Int) ≤ t24_1 ∧
 (t24_1 : Int) < ((r22l_1 : Nat) : Int) ∧
 ∃ (t27_1 : Int),
 H11.cell ((adr r22a_1).block) ((adr r22a_1).off + (t24_1 : Int).toNat * 1) = some (.int .i64 t27_1) ∧
 FW Ee F_wire_Writer_Signed [.pointer w1, .int .i64 t27_1] H11 fun v_9 H12 =>
 v_9 = .tuple ⟨[]⟩ ∧
 ∃ (t35_1 : Option Nat),
 H12.cell t0b 0 = some (.map t35_1) ∧
 ∃ (t37_seq_1 : Int) (t37_answer_1 : List UInt8),
 lookupv Ee H12 T_M_int64_sess_last (.map t35_1) (.int .i64 t27_1) false = some (.agg ⟨[.int .i64 t37_seq_1, .string ⟨⟨t37_answer_1⟩⟩]⟩) ∧
 FW Ee F_wire_Writer_Count [.pointer w1, .int .i64 t37_seq_1] H12 fun v_10 H13 =>
 v_10 = .tuple ⟨[]⟩ ∧
 ∃ (t44_1 : Option Nat),
 H13.cell t0b 0 = some (.map t44_1) ∧
 ∃ (t46_seq_1 : Int) (t46_answer_1 : List UInt8),
 lookupv Ee H13 T_M_int64_sess_last (.map t44_1) (.int .i64 t27_1) false = some (.agg ⟨[.int .i64 t46_seq_1, .string ⟨⟨t46_answer_1⟩⟩]⟩) ∧
 FW Ee F_wire_Writer_Text [.pointer w1, .string ⟨⟨t46_answer_1⟩⟩] H13 fun v_11 H14 =>
 v_11 = .tuple ⟨[]⟩ ∧
 ∀ (t49_1 : Int),
 t49_1 = IntKind.i64.wrap (t24_1 + 1) →
 ∃ (m_1 : Nat),
 m_1 < n_2 ∧
 Inv_1 m_1 t49_1 H14)) (
 Q (.tuple ⟨[]⟩) H11)))
set_option maxRecDepth 100000 in
theorem fw_sess_Table_Put {t0b : Nat} {w1 : Option Addr} {H : AH} {Q : Value → AH → Prop} (h : VC_sess_Table_Put t0b w1 H Q) : FW Ee F_sess_Table_Put [.pointer (some ⟨t0b, 0, none⟩), .pointer w1] H Q := by
  have e : VC_sess_Table_Put t0b w1 H Q = wpF Ee ⟨[], []⟩ F_sess_Table_Put [.pointer (some ⟨t0b, 0, none⟩), .pointer w1] H Q := by kernel_rfl
  letI : Sy := sy0
  exact wpF_sound (Eq.mp e h)
/-- (*cohort/master.Master).Encode -/
def VC_master_Master_Encode (m0b : Nat) (H : AH) (Q : Value → AH → Prop) : Prop :=
 FW Ee F_wire_NewWriter [] H fun v H1 =>
 ∃ (r10 : Option Addr),
 v = .pointer r10 ∧
 ∃ (t14 : Option Addr),
 H1.cell m0b 0 = some (.pointer t14) ∧
 FW Ee F_sess_Table_Put [.pointer t14, .pointer r10] H1 fun v_1 H2 =>
 v_1 = .tuple ⟨[]⟩ ∧
 ∃ (t21 : Int),
 H2.cell m0b 3 = some (.int .i64 t21) ∧
 FW Ee F_wire_Writer_Count [.pointer r10, .int .i64 t21] H2 fun v_2 H3 =>
 v_2 = .tuple ⟨[]⟩ ∧
 ∃ (t27 : Int),
 H3.cell m0b 4 = some (.int .i64 t27) ∧
 FW Ee F_wire_Writer_Count [.pointer r10, .int .i64 t27] H3 fun v_3 H4 =>
 v_3 = .tuple ⟨[]⟩ ∧
 ∃ (t33 : Option Nat),
 H4.cell m0b 2 = some (.map t33) ∧
 ((
 t33 = none ∧
 FW Ee F_wire_Writer_Count [.pointer r10, .int .i64 0] H4 fun v_4 H5 =>
 v_4 = .tuple ⟨[]⟩ ∧
 FW Ee F_master_Master_Workers [.pointer (some ⟨m0b, 0, none⟩)] H5 fun v_5 H6 =>
 ∃ (r37a : Option Addr) (r37l : Nat) (r37c : Nat),
 v_5 = .slice r37a r37l r37c ∧
 ∃ (Inv : Nat → Int → AH → Prop),
 (
 ∃ (n_1 : Nat),
 Inv n_1 0 H6) ∧
 ∀ (n : Nat),
 ∀ (t39 : Int) (H7 : AH),
 Inv n t39 H7 →
 cond (decide (t39 < (((r37l : Nat) : Int)))) (
 grd r37a.isSome (
 (0 : Int) ≤ t39 ∧
 (t39 : Int) < ((r37l : Nat) : Int) ∧
 ∃ (t42 : Int),
 H7.cell ((adr r37a).block) ((adr r37a).off + (t39 : Int).toNat * 1) = some (.int .i64 t42) ∧
 FW Ee F_wire_Writer_Count [.pointer r10, .int .i64 t42] H7 fun v_6 H8 =>
 v_6 = .tuple ⟨[]⟩ ∧
 ∃ (t50 : Option Nat),
 H8.cell m0b 2 = some (.map t50) ∧
 ∃ (t52 : Int),
 lookupv Ee H8 T_M_int_int (.map t50) (.int .i64 t42) false = some (.int .i64 t52) ∧
 FW Ee F_wire_Writer_Count [.pointer r10, .int .i64 t52] H8 fun v_7 H9 =>
 v_7 = .tuple ⟨[]⟩ ∧
 ∀ (t54 : Int),
 t54 = IntKind.i64.wrap (t39 + 1) →
 ∃ (m : Nat),
 m < n ∧
 Inv m t54 H9)) (
 ∃ (t59 : Option Nat),
 H7.cell m0b 1 = some (.map t59) ∧
 ((
 t59 = none ∧
 FW Ee F_wire_Writer_Count [.pointer r10, .int .i64 0] H7 fun v_8 H10 =>
 v_8 = .tuple ⟨[]⟩ ∧
 FW Ee F_master_Master_ids [.pointer (some ⟨m0b, 0, none⟩)] H10 fun v_9 H11 =>
 ∃ (r63a : Option Addr) (r63l : Nat) (r63c : Nat),
 v_9 = .slice r63a r63l r63c ∧
 ∃ (Inv_1 : Nat → Int → AH → Prop),
 (
 ∃ (n_3 : Nat),
 Inv_1 n_3 0 H11) ∧
 ∀ (n_2 : Nat),
 ∀ (t65 : Int) (H12 : AH),
 Inv_1 n_2 t65 H12 →
 cond (decide (t65 < (((r63l : Nat) : Int)))) (
 grd r63a.isSome (
 (0 : Int) ≤ t65 ∧
 (t65 : Int) < ((r63l : Nat) : Int) ∧
 ∃ (t68 : Int),
 H12.cell ((adr r63a).block) ((adr r63a).off + (t65 : Int).toNat * 1) = some (.int .i64 t68) ∧
 ∃ (t73 : Option Nat),
 H12.cell m0b 1 = some (.map t73) ∧
 ∃ (t75 : Option Addr),
 lookupv Ee H12 T_M_int_P_master_job (.map t73) (.int .i64 t68) false = some (.pointer t75) ∧
 FW Ee F_master_putJob [.pointer r10, .pointer t75] H12 fun v_10 H13 =>
 v_10 = .tuple ⟨[]⟩ ∧
 ∀ (t77 : Int),
 t77 = IntKind.i64.wrap (t65 + 1) →
 ∃ (m_1 : Nat),
 m_1 < n_2 ∧
 Inv_1 m_1 t77 H13)) (
 FW Ee F_wire_Writer_All [.pointer r10] H12 fun v_11 H14 =>
 ∃ (r79 : List UInt8),
 v_11 = .string ⟨⟨r79⟩⟩ ∧
 Q (.string ⟨⟨r79⟩⟩) H14)) ∨ (
 ∃ (mb_1 : Nat) (es_1 : List MapEntry) (cl_1 : Nat),
 t59 = some mb_1 ∧
 H7.get mb_1 = some (.map es_1 cl_1) ∧
 FW Ee F_wire_Writer_Count [.pointer r10, .int .i64 (((es_1.length : Nat) : Int))] H7 fun v_12 H15 =>
 v_12 = .tuple ⟨[]⟩ ∧
 FW Ee F_master_Master_ids [.pointer (some ⟨m0b, 0, none⟩)] H15 fun v_13 H16 =>
 ∃ (r63a_1 : Option Addr) (r63l_1 : Nat) (r63c_1 : Nat),
 v_13 = .slice r63a_1 r63l_1 r63c_1 ∧
 ∃ (Inv_2 : Nat → Int → AH → Prop),
 (
 ∃ (n_5 : Nat),
 Inv_2 n_5 0 H16) ∧
 ∀ (n_4 : Nat),
 ∀ (t65_1 : Int) (H17 : AH),
 Inv_2 n_4 t65_1 H17 →
 cond (decide (t65_1 < (((r63l_1 : Nat) : Int)))) (
 grd r63a_1.isSome (
 (0 : Int) ≤ t65_1 ∧
 (t65_1 : Int) < ((r63l_1 : Nat) : Int) ∧
 ∃ (t68_1 : Int),
 H17.cell ((adr r63a_1).block) ((adr r63a_1).off + (t65_1 : Int).toNat * 1) = some (.int .i64 t68_1) ∧
 ∃ (t73_1 : Option Nat),
 H17.cell m0b 1 = some (.map t73_1) ∧
 ∃ (t75_1 : Option Addr),
 lookupv Ee H17 T_M_int_P_master_job (.map t73_1) (.int .i64 t68_1) false = some (.pointer t75_1) ∧
 FW Ee F_master_putJob [.pointer r10, .pointer t75_1] H17 fun v_14 H18 =>
 v_14 = .tuple ⟨[]⟩ ∧
 ∀ (t77_1 : Int),
 t77_1 = IntKind.i64.wrap (t65_1 + 1) →
 ∃ (m_2 : Nat),
 m_2 < n_4 ∧
 Inv_2 m_2 t77_1 H18)) (
 FW Ee F_wire_Writer_All [.pointer r10] H17 fun v_15 H19 =>
 ∃ (r79_1 : List UInt8),
 v_15 = .string ⟨⟨r79_1⟩⟩ ∧
 Q (.string ⟨⟨r79_1⟩⟩) H19))))) ∨ (
 ∃ (mb : Nat) (es : List MapEntry) (cl : Nat),
 t33 = some mb ∧
 H4.get mb = some (.map es cl) ∧
 FW Ee F_wire_Writer_Count [.pointer r10, .int .i64 (((es.length : Nat) : Int))] H4 fun v_16 H20 =>
 v_16 = .tuple ⟨[]⟩ ∧
 FW Ee F_master_Master_Workers [.pointer (some ⟨m0b, 0, none⟩)] H20 fun v_17 H21 =>
 ∃ (r37a_1 : Option Addr) (r37l_1 : Nat) (r37c_1 : Nat),
 v_17 = .slice r37a_1 r37l_1 r37c_1 ∧
 ∃ (Inv_3 : Nat → Int → AH → Prop),
 (
 ∃ (n_7 : Nat),
 Inv_3 n_7 0 H21) ∧
 ∀ (n_6 : Nat),
 ∀ (t39_1 : Int) (H22 : AH),
 Inv_3 n_6 t39_1 H22 →
 cond (decide (t39_1 < (((r37l_1 : Nat) : Int)))) (
 grd r37a_1.isSome (
 (0 : Int) ≤ t39_1 ∧
 (t39_1 : Int) < ((r37l_1 : Nat) : Int) ∧
 ∃ (t42_1 : Int),
 H22.cell ((adr r37a_1).block) ((adr r37a_1).off + (t39_1 : Int).toNat * 1) = some (.int .i64 t42_1) ∧
 FW Ee F_wire_Writer_Count [.pointer r10, .int .i64 t42_1] H22 fun v_18 H23 =>
 v_18 = .tuple ⟨[]⟩ ∧
 ∃ (t50_1 : Option Nat),
 H23.cell m0b 2 = some (.map t50_1) ∧
 ∃ (t52_1 : Int),
 lookupv Ee H23 T_M_int_int (.map t50_1) (.int .i64 t42_1) false = some (.int .i64 t52_1) ∧
 FW Ee F_wire_Writer_Count [.pointer r10, .int .i64 t52_1] H23 fun v_19 H24 =>
 v_19 = .tuple ⟨[]⟩ ∧
 ∀ (t54_1 : Int),
 t54_1 = IntKind.i64.wrap (t39_1 + 1) →
 ∃ (m_3 : Nat),
 m_3 < n_6 ∧
 Inv_3 m_3 t54_1 H24)) (
 ∃ (t59_1 : Option Nat),
 H22.cell m0b 1 = some (.map t59_1) ∧
 ((
 t59_1 = none ∧
 FW Ee F_wire_Writer_Count [.pointer r10, .int .i64 0] H22 fun v_20 H25 =>
 v_20 = .tuple ⟨[]⟩ ∧
 FW Ee F_master_Master_ids [.pointer (some ⟨m0b, 0, none⟩)] H25 fun v_21 H26 =>
 ∃ (r63a_2 : Option Addr) (r63l_2 : Nat) (r63c_2 : Nat),
 v_21 = .slice r63a_2 r63l_2 r63c_2 ∧
 ∃ (Inv_4 : Nat → Int → AH → Prop),
 (
 ∃ (n_9 : Nat),
 Inv_4 n_9 0 H26) ∧
 ∀ (n_8 : Nat),
 ∀ (t65_2 : Int) (H27 : AH),
 Inv_4 n_8 t65_2 H27 →
 cond (decide (t65_2 < (((r63l_2 : Nat) : Int)))) (
 grd r63a_2.isSome (
 (0 : Int) ≤ t65_2 ∧
 (t65_2 : Int) < ((r63l_2 : Nat) : Int) ∧
 ∃ (t68_2 : Int),
 H27.cell ((adr r63a_2).block) ((adr r63a_2).off + (t65_2 : Int).toNat * 1) = some (.int .i64 t68_2) ∧
 ∃ (t73_2 : Option Nat),
 H27.cell m0b 1 = some (.map t73_2) ∧
 ∃ (t75_2 : Option Addr),
 lookupv Ee H27 T_M_int_P_master_job (.map t73_2) (.int .i64 t68_2) false = some (.pointer t75_2) ∧
 FW Ee F_master_putJob [.pointer r10, .pointer t75_2] H27 fun v_22 H28 =>
 v_22 = .tuple ⟨[]⟩ ∧
 ∀ (t77_2 : Int),
 t77_2 = IntKind.i64.wrap (t65_2 + 1) →
 ∃ (m_4 : Nat),
 m_4 < n_8 ∧
 Inv_4 m_4 t77_2 H28)) (
 FW Ee F_wire_Writer_All [.pointer r10] H27 fun v_23 H29 =>
 ∃ (r79_2 : List UInt8),
 v_23 = .string ⟨⟨r79_2⟩⟩ ∧
 Q (.string ⟨⟨r79_2⟩⟩) H29)) ∨ (
 ∃ (mb_2 : Nat) (es_2 : List MapEntry) (cl_2 : Nat),
 t59_1 = some mb_2 ∧
 H22.get mb_2 = some (.map es_2 cl_2) ∧
 FW Ee F_wire_Writer_Count [.pointer r10, .int .i64 (((es_2.length : Nat) : Int))] H22 fun v_24 H30 =>
 v_24 = .tuple ⟨[]⟩ ∧
 FW Ee F_master_Master_ids [.pointer (some ⟨m0b, 0, none⟩)] H30 fun v_25 H31 =>
 ∃ (r63a_3 : Option Addr) (r63l_3 : Nat) (r63c_3 : Nat),
 v_25 = .slice r63a_3 r63l_3 r63c_3 ∧
 ∃ (Inv_5 : Nat → Int → AH → Prop),
 (
 ∃ (n_11 : Nat),
 Inv_5 n_11 0 H31) ∧
 ∀ (n_10 : Nat),
 ∀ (t65_3 : Int) (H32 : AH),
 Inv_5 n_10 t65_3 H32 →
 cond (decide (t65_3 < (((r63l_3 : Nat) : Int)))) (
 grd r63a_3.isSome (
 (0 : Int) ≤ t65_3 ∧
 (t65_3 : Int) < ((r63l_3 : Nat) : Int) ∧
 ∃ (t68_3 : Int),
 H32.cell ((adr r63a_3).block) ((adr r63a_3).off + (t65_3 : Int).toNat * 1) = some (.int .i64 t68_3) ∧
 ∃ (t73_3 : Option Nat),
 H32.cell m0b 1 = some (.map t73_3) ∧
 ∃ (t75_3 : Option Addr),
 lookupv Ee H32 T_M_int_P_master_job (.map t73_3) (.int .i64 t68_3) false = some (.pointer t75_3) ∧
 FW Ee F_master_putJob [.pointer r10, .pointer t75_3] H32 fun v_26 H33 =>
 v_26 = .tuple ⟨[]⟩ ∧
 ∀ (t77_3 : Int),
 t77_3 = IntKind.i64.wrap (t65_3 + 1) →
 ∃ (m_5 : Nat),
 m_5 < n_10 ∧
 Inv_5 m_5 t77_3 H33)) (
 FW Ee F_wire_Writer_All [.pointer r10] H32 fun v_27 H34 =>
 ∃ (r79_3 : List UInt8),
 v_27 = .string ⟨⟨r79_3⟩⟩ ∧
 Q (.string ⟨⟨r79_3⟩⟩) H34))))))
set_option maxRecDepth 100000 in
theorem fw_master_Master_Encode {m0b : Nat} {H : AH} {Q : Value → AH → Prop} (h : VC_master_Master_Encode m0b H Q) : FW Ee F_master_Master_Encode [.pointer (some ⟨m0b, 0, none⟩)] H Q := by
  have e : VC_master_Master_Encode m0b H Q = wpF Ee ⟨[], []⟩ F_master_Master_Encode [.pointer (some ⟨m0b, 0, none⟩)] H Q := by kernel_rfl
  letI : Sy := sy0
  exact wpF_sound (Eq.mp e h)
/-- cohort/cohortlaw17.text -/
def VC_cohortlaw17_text (j0_Program : List UInt8) (j0_Graph_Verticesa : Option Addr) (j0_Graph_Verticesl : Nat) (j0_Graph_Verticesc : Nat) (j0_Paramsa : Option Addr) (j0_Paramsl : Nat) (j0_Paramsc : Nat) (j0_Steps : Int) (j0_Sent : Int) (j0_Parts : Int) (H : AH) (Q : Value → AH → Prop) : Prop :=
 ∀ (H1 : AH),
 H1 = H.new (.cells [.string ⟨⟨j0_Program⟩⟩, .slice j0_Graph_Verticesa j0_Graph_Verticesl j0_Graph_Verticesc, .slice j0_Paramsa j0_Paramsl j0_Paramsc, .int .i64 j0_Steps, .int .i64 j0_Sent, .int .i64 j0_Parts] 0) →
 ∃ (t6_Program : List UInt8) (t6_Graph_Verticesa : Option Addr) (t6_Graph_Verticesl : Nat) (t6_Graph_Verticesc : Nat) (t6_Paramsa : Option Addr) (t6_Paramsl : Nat) (t6_Paramsc : Nat) (t6_Steps : Int) (t6_Sent : Int) (t6_Parts : Int),
 H1.cell H.next (0 + 0) = some (.string ⟨⟨t6_Program⟩⟩) ∧
 H1.cell H.next (0 + 1) = some (.slice t6_Graph_Verticesa t6_Graph_Verticesl t6_Graph_Verticesc) ∧
 H1.cell H.next (0 + 2) = some (.slice t6_Paramsa t6_Paramsl t6_Paramsc) ∧
 H1.cell H.next (0 + 3) = some (.int .i64 t6_Steps) ∧
 H1.cell H.next (0 + 4) = some (.int .i64 t6_Sent) ∧
 H1.cell H.next (0 + 5) = some (.int .i64 t6_Parts) ∧
 FW Ee F_cohortlaw09_Small [.agg ⟨[.string ⟨⟨t6_Program⟩⟩, .slice t6_Graph_Verticesa t6_Graph_Verticesl t6_Graph_Verticesc, .slice t6_Paramsa t6_Paramsl t6_Paramsc, .int .i64 t6_Steps, .int .i64 t6_Sent, .int .i64 t6_Parts]⟩] H1 fun v H2 =>
 ∃ (r7_Program : List UInt8) (r7_Graph_Verticesa : Option Addr) (r7_Graph_Verticesl : Nat) (r7_Graph_Verticesc : Nat) (r7_Paramsa : Option Addr) (r7_Paramsl : Nat) (r7_Paramsc : Nat) (r7_Steps : Int) (r7_Sent : Int) (r7_Parts : Int),
 v = .agg ⟨[.string ⟨⟨r7_Program⟩⟩, .slice r7_Graph_Verticesa r7_Graph_Verticesl r7_Graph_Verticesc, .slice r7_Paramsa r7_Paramsl r7_Paramsc, .int .i64 r7_Steps, .int .i64 r7_Sent, .int .i64 r7_Parts]⟩ ∧
 FW Ee F_run_EncodeJob [.agg ⟨[.string ⟨⟨r7_Program⟩⟩, .slice r7_Graph_Verticesa r7_Graph_Verticesl r7_Graph_Verticesc, .slice r7_Paramsa r7_Paramsl r7_Paramsc, .int .i64 r7_Steps, .int .i64 r7_Sent, .int .i64 r7_Parts]⟩] H2 fun v_1 H3 =>
 ∃ (r8_0 : List UInt8) (r8_1 : Int),
 v_1 = .tuple ⟨[.string ⟨⟨r8_0⟩⟩, .int .i64 r8_1]⟩ ∧
 cond (r8_1 != 0) (
 ∃ (t14 : List UInt8),
 H3.cell H.next 0 = some (.string ⟨⟨t14⟩⟩) ∧
 ([110, 111, 32, 106, 111, 98, 32] : List UInt8).length + (t14 : List UInt8).length < 4611686018427387904 ∧
 Q (.string ⟨⟨[110, 111, 32, 106, 111, 98, 32] ++ t14⟩⟩) H3) (
 Q (.string ⟨⟨r8_0⟩⟩) H3)
set_option maxRecDepth 100000 in
theorem fw_cohortlaw17_text {j0_Program : List UInt8} {j0_Graph_Verticesa : Option Addr} {j0_Graph_Verticesl : Nat} {j0_Graph_Verticesc : Nat} {j0_Paramsa : Option Addr} {j0_Paramsl : Nat} {j0_Paramsc : Nat} {j0_Steps : Int} {j0_Sent : Int} {j0_Parts : Int} {H : AH} {Q : Value → AH → Prop} (h : VC_cohortlaw17_text j0_Program j0_Graph_Verticesa j0_Graph_Verticesl j0_Graph_Verticesc j0_Paramsa j0_Paramsl j0_Paramsc j0_Steps j0_Sent j0_Parts H Q) : FW Ee F_cohortlaw17_text [.agg ⟨[.string ⟨⟨j0_Program⟩⟩, .slice j0_Graph_Verticesa j0_Graph_Verticesl j0_Graph_Verticesc, .slice j0_Paramsa j0_Paramsl j0_Paramsc, .int .i64 j0_Steps, .int .i64 j0_Sent, .int .i64 j0_Parts]⟩] H Q := by
  have e : VC_cohortlaw17_text j0_Program j0_Graph_Verticesa j0_Graph_Verticesl j0_Graph_Verticesc j0_Paramsa j0_Paramsl j0_Paramsc j0_Steps j0_Sent j0_Parts H Q = wpF Ee ⟨[], []⟩ F_cohortlaw17_text [.agg ⟨[.string ⟨⟨j0_Program⟩⟩, .slice j0_Graph_Verticesa j0_Graph_Verticesl j0_Graph_Verticesc, .slice j0_Paramsa j0_Paramsl j0_Paramsc, .int .i64 j0_Steps, .int .i64 j0_Sent, .int .i64 j0_Parts]⟩] H Q := by kernel_rfl
  letI : Sy := sy0
  exact wpF_sound (Eq.mp e h)
end Go.Proofs.Cx

namespace Go.Proofs.Cx
open Go Go.Ev
set_option linter.unusedVariables false
set_option maxRecDepth 100000
set_option maxHeartbeats 8000000
/-- cohort/cohortlaw17.MasterStale -/
def VC_cohortlaw17_MasterStale (x0_Program : List UInt8) (x0_Graph_Verticesa : Option Addr) (x0_Graph_Verticesl : Nat) (x0_Graph_Verticesc : Nat) (x0_Paramsa : Option Addr) (x0_Paramsl : Nat) (x0_Paramsc : Nat) (x0_Steps : Int) (x0_Sent : Int) (x0_Parts : Int) (r1_Job : Int) (r1_Epoch : Int) (r1_Step : Int) (r1_Phase : Int) (r1_Worker : Int) (r1_Err : Int) (r1_Sent : Int) (r1_Active : Int) (r1_Many : Int) (r1_Agg_Has_0 : Bool) (r1_Agg_Has_1 : Bool) (r1_Agg_Has_2 : Bool) (r1_Agg_Has_3 : Bool) (r1_Agg_Has_4 : Bool) (r1_Agg_V_0 : Int) (r1_Agg_V_1 : Int) (r1_Agg_V_2 : Int) (r1_Agg_V_3 : Int) (r1_Agg_V_4 : Int) (r1_Valuesa : Option Addr) (r1_Valuesl : Nat) (r1_Valuesc : Nat) (odd2 : Int) (H : AH) (Q : Value → AH → Prop) : Prop :=
 ∀ (H1 : AH),
 H1 = H.new (.cells [.string ⟨⟨x0_Program⟩⟩, .slice x0_Graph_Verticesa x0_Graph_Verticesl x0_Graph_Verticesc, .slice x0_Paramsa x0_Paramsl x0_Paramsc, .int .i64 x0_Steps, .int .i64 x0_Sent, .int .i64 x0_Parts] 0) →
 ∀ (H2 : AH),
 H2 = H1.new (.cells [.int .i64 r1_Job, .int .i64 r1_Epoch, .int .i64 r1_Step, .int .i64 r1_Phase, .int .i64 r1_Worker, .int .i64 r1_Err, .int .i64 r1_Sent, .int .i64 r1_Active, .int .i64 r1_Many, .bool r1_Agg_Has_0, .bool r1_Agg_Has_1, .bool r1_Agg_Has_2, .bool r1_Agg_Has_3, .bool r1_Agg_Has_4, .int .i64 r1_Agg_V_0, .int .i64 r1_Agg_V_1, .int .i64 r1_Agg_V_2, .int .i64 r1_Agg_V_3, .int .i64 r1_Agg_V_4, .slice r1_Valuesa r1_Valuesl r1_Valuesc] 0) →
 ∃ (t16_Program : List UInt8) (t16_Graph_Verticesa : Option Addr) (t16_Graph_Verticesl : Nat) (t16_Graph_Verticesc : Nat) (t16_Paramsa : Option Addr) (t16_Paramsl : Nat) (t16_Paramsc : Nat) (t16_Steps : Int) (t16_Sent : Int) (t16_Parts : Int),
 H2.cell H.next (0 + 0) = some (.string ⟨⟨t16_Program⟩⟩) ∧
 H2.cell H.next (0 + 1) = some (.slice t16_Graph_Verticesa t16_Graph_Verticesl t16_Graph_Verticesc) ∧
 H2.cell H.next (0 + 2) = some (.slice t16_Paramsa t16_Paramsl t16_Paramsc) ∧
 H2.cell H.next (0 + 3) = some (.int .i64 t16_Steps) ∧
 H2.cell H.next (0 + 4) = some (.int .i64 t16_Sent) ∧
 H2.cell H.next (0 + 5) = some (.int .i64 t16_Parts) ∧
 FW Ee F_cohortlaw09_Small [.agg ⟨[.string ⟨⟨t16_Program⟩⟩, .slice t16_Graph_Verticesa t16_Graph_Verticesl t16_Graph_Verticesc, .slice t16_Paramsa t16_Paramsl t16_Paramsc, .int .i64 t16_Steps, .int .i64 t16_Sent, .int .i64 t16_Parts]⟩] H2 fun v H3 =>
 ∃ (r17_Program : List UInt8) (r17_Graph_Verticesa : Option Addr) (r17_Graph_Verticesl : Nat) (r17_Graph_Verticesc : Nat) (r17_Paramsa : Option Addr) (r17_Paramsl : Nat) (r17_Paramsc : Nat) (r17_Steps : Int) (r17_Sent : Int) (r17_Parts : Int),
 v = .agg ⟨[.string ⟨⟨r17_Program⟩⟩, .slice r17_Graph_Verticesa r17_Graph_Verticesl r17_Graph_Verticesc, .slice r17_Paramsa r17_Paramsl r17_Paramsc, .int .i64 r17_Steps, .int .i64 r17_Sent, .int .i64 r17_Parts]⟩ ∧
 ∀ (H4 : AH),
 H4 = H3.new (.cells [.string ⟨⟨[]⟩⟩, .slice none 0 0, .slice none 0 0, .int .i64 0, .int .i64 0, .int .i64 0] 0) →
 ∃ (H5 : AH),
 storeCellsv H4 H3.next 0 [.string ⟨⟨r17_Program⟩⟩, .slice r17_Graph_Verticesa r17_Graph_Verticesl r17_Graph_Verticesc, .slice r17_Paramsa r17_Paramsl r17_Paramsc, .int .i64 r17_Steps, .int .i64 r17_Sent, .int .i64 r17_Parts] = some H5 ∧
 ∃ (t18_Program : List UInt8) (t18_Graph_Verticesa : Option Addr) (t18_Graph_Verticesl : Nat) (t18_Graph_Verticesc : Nat) (t18_Paramsa : Option Addr) (t18_Paramsl : Nat) (t18_Paramsc : Nat) (t18_Steps : Int) (t18_Sent : Int) (t18_Parts : Int),
 H5.cell H3.next (0 + 0) = some (.string ⟨⟨t18_Program⟩⟩) ∧
 H5.cell H3.next (0 + 1) = some (.slice t18_Graph_Verticesa t18_Graph_Verticesl t18_Graph_Verticesc) ∧
 H5.cell H3.next (0 + 2) = some (.slice t18_Paramsa t18_Paramsl t18_Paramsc) ∧
 H5.cell H3.next (0 + 3) = some (.int .i64 t18_Steps) ∧
 H5.cell H3.next (0 + 4) = some (.int .i64 t18_Sent) ∧
 H5.cell H3.next (0 + 5) = some (.int .i64 t18_Parts) ∧
 FW Ee F_cohortlaw09_Ref [.agg ⟨[.string ⟨⟨t18_Program⟩⟩, .slice t18_Graph_Verticesa t18_Graph_Verticesl t18_Graph_Verticesc, .slice t18_Paramsa t18_Paramsl t18_Paramsc, .int .i64 t18_Steps, .int .i64 t18_Sent, .int .i64 t18_Parts]⟩] H5 fun v_1 H6 =>
 ∃ (r19_Program : List UInt8) (r19_Grapha : Option Addr) (r19_Graphl : Nat) (r19_Graphc : Nat) (r19_Paramsa : Option Addr) (r19_Paramsl : Nat) (r19_Paramsc : Nat) (r19_Steps : Int) (r19_Sent : Int) (r19_Parts : Int),
 v_1 = .agg ⟨[.string ⟨⟨r19_Program⟩⟩, .slice r19_Grapha r19_Graphl r19_Graphc, .slice r19_Paramsa r19_Paramsl r19_Paramsc, .int .i64 r19_Steps, .int .i64 r19_Sent, .int .i64 r19_Parts]⟩ ∧
 FW Ee F_cohortref09_Check [.agg ⟨[.string ⟨⟨r19_Program⟩⟩, .slice r19_Grapha r19_Graphl r19_Graphc, .slice r19_Paramsa r19_Paramsl r19_Paramsc, .int .i64 r19_Steps, .int .i64 r19_Sent, .int .i64 r19_Parts]⟩] H6 fun v_2 H7 =>
 ∃ (r20 : Int),
 v_2 = .int .i64 r20 ∧
 cond (r20 != 0) (
 FW Ee F_cohortlaw17_awake [] H7 fun v_3 H8 =>
 ∃ (r22 : Bool),
 v_3 = .bool r22 ∧
 Q (.bool r22) H8) (
 FW Ee F_master_New [] H7 fun v_4 H9 =>
 ∃ (r23 : Option Addr),
 v_4 = .pointer r23 ∧
 FW Ee F_master_Master_Apply [.pointer r23, .agg ⟨[.int .i64 3, .int .i64 0, .int .i64 0, .string ⟨⟨[]⟩⟩, .int .i64 0, .int .i64 5, .int .i64 1, .int .i64 0, .int .i64 0, .int .i64 0, .int .i64 0, .int .i64 0, .int .i64 0, .int .i64 0, .int .i64 0, .int .i64 0, .bool false, .bool false, .bool false, .bool false, .bool false, .int .i64 0, .int .i64 0, .int .i64 0, .int .i64 0, .int .i64 0, .slice none 0 0]⟩] H9 fun v_5 H10 =>
 ∃ (r26_0_Err : Int) (r26_0_ID : Int) (r26_1 : Int),
 v_5 = .tuple ⟨[.agg ⟨[.int .i64 r26_0_Err, .int .i64 r26_0_ID]⟩, .int .i64 r26_1]⟩ ∧
 ∃ (t28_Program : List UInt8) (t28_Graph_Verticesa : Option Addr) (t28_Graph_Verticesl : Nat) (t28_Graph_Verticesc : Nat) (t28_Paramsa : Option Addr) (t28_Paramsl : Nat) (t28_Paramsc : Nat) (t28_Steps : Int) (t28_Sent : Int) (t28_Parts : Int),
 H10.cell H3.next (0 + 0) = some (.string ⟨⟨t28_Program⟩⟩) ∧
 H10.cell H3.next (0 + 1) = some (.slice t28_Graph_Verticesa t28_Graph_Verticesl t28_Graph_Verticesc) ∧
 H10.cell H3.next (0 + 2) = some (.slice t28_Paramsa t28_Paramsl t28_Paramsc) ∧
 H10.cell H3.next (0 + 3) = some (.int .i64 t28_Steps) ∧
 H10.cell H3.next (0 + 4) = some (.int .i64 t28_Sent) ∧
 H10.cell H3.next (0 + 5) = some (.int .i64 t28_Parts) ∧
 FW Ee F_cohortlaw17_text [.agg ⟨[.string ⟨⟨t28_Program⟩⟩, .slice t28_Graph_Verticesa t28_Graph_Verticesl t28_Graph_Verticesc, .slice t28_Paramsa t28_Paramsl t28_Paramsc, .int .i64 t28_Steps, .int .i64 t28_Sent, .int .i64 t28_Parts]⟩] H10 fun v_6 H11 =>
 ∃ (r29 : List UInt8),
 v_6 = .string ⟨⟨r29⟩⟩ ∧
 FW Ee F_master_Master_Apply [.pointer r23, .agg ⟨[.int .i64 1, .int .i64 1, .int .i64 1, .string ⟨⟨r29⟩⟩, .int .i64 0, .int .i64 0, .int .i64 0, .int .i64 0, .int .i64 0, .int .i64 0, .int .i64 0, .int .i64 0, .int .i64 0, .int .i64 0, .int .i64 0, .int .i64 0, .bool false, .bool false, .bool false, .bool false, .bool false, .int .i64 0, .int .i64 0, .int .i64 0, .int .i64 0, .int .i64 0, .slice none 0 0]⟩] H11 fun v_7 H12 =>
 ∃ (r31_0_Err : Int) (r31_0_ID : Int) (r31_1 : Int),
 v_7 = .tuple ⟨[.agg ⟨[.int .i64 r31_0_Err, .int .i64 r31_0_ID]⟩, .int .i64 r31_1]⟩ ∧
 FW Ee F_master_Master_Task [.pointer r23, .int .i64 5] H12 fun v_8 H13 =>
 ∃ (r34_0_Job : Int) (r34_0_Epoch : Int) (r34_0_Step : Int) (r34_0_Phase : Int) (r34_0_Partsa : Option Addr) (r34_0_Partsl : Nat) (r34_0_Partsc : Nat) (r34_0_Assigneda : Option Addr) (r34_0_Assignedl : Nat) (r34_0_Assignedc : Nat) (r34_0_Spec_Program : List UInt8) (r34_0_Spec_Graph_Verticesa : Option Addr) (r34_0_Spec_Graph_Verticesl : Nat) (r34_0_Spec_Graph_Verticesc : Nat) (r34_0_Spec_Paramsa : Option Addr) (r34_0_Spec_Paramsl : Nat) (r34_0_Spec_Paramsc : Nat) (r34_0_Spec_Steps : Int) (r34_0_Spec_Sent : Int) (r34_0_Spec_Parts : Int) (r34_0_Before_Has_0 : Bool) (r34_0_Before_Has_1 : Bool) (r34_0_Before_Has_2 : Bool) (r34_0_Before_Has_3 : Bool) (r34_0_Before_Has_4 : Bool) (r34_0_Before_V_0 : Int) (r34_0_Before_V_1 : Int) (r34_0_Before_V_2 : Int) (r34_0_Before_V_3 : Int) (r34_0_Before_V_4 : Int) (r34_0_Many : Int) (r34_0_From : Int) (r34_0_FromEpoch : Int) (r34_0_Keep : Bool) (r34_1 : Bool),
 v_8 = .tuple ⟨[.agg ⟨[.int .i64 r34_0_Job, .int .i64 r34_0_Epoch, .int .i64 r34_0_Step, .int .i64 r34_0_Phase, .slice r34_0_Partsa r34_0_Partsl r34_0_Partsc, .slice r34_0_Assigneda r34_0_Assignedl r34_0_Assignedc, .string ⟨⟨r34_0_Spec_Program⟩⟩, .slice r34_0_Spec_Graph_Verticesa r34_0_Spec_Graph_Verticesl r34_0_Spec_Graph_Verticesc, .slice r34_0_Spec_Paramsa r34_0_Spec_Paramsl r34_0_Spec_Paramsc, .int .i64 r34_0_Spec_Steps, .int .i64 r34_0_Spec_Sent, .int .i64 r34_0_Spec_Parts, .bool r34_0_Before_Has_0, .bool r34_0_Before_Has_1, .bool r34_0_Before_Has_2, .bool r34_0_Before_Has_3, .bool r34_0_Before_Has_4, .int .i64 r34_0_Before_V_0, .int .i64 r34_0_Before_V_1, .int .i64 r34_0_Before_V_2, .int .i64 r34_0_Before_V_3, .int .i64 r34_0_Before_V_4, .int .i64 r34_0_Many, .int .i64 r34_0_From, .int .i64 r34_0_FromEpoch, .bool r34_0_Keep]⟩, .bool r34_1]⟩ ∧
 ∀ (H14 : AH),
 H14 = H13.new (.cells [.int .i64 0, .int .i64 0, .int .i64 0, .int .i64 0, .slice none 0 0, .slice none 0 0, .string ⟨⟨[]⟩⟩, .slice none 0 0, .slice none 0 0, .int .i64 0, .int .i64 0, .int .i64 0, .bool false, .bool false, .bool false, .bool false, .bool false, .int .i64 0, .int .i64 0, .int .i64 0, .int .i64 0, .int .i64 0, .int .i64 0, .int .i64 0, .int .i64 0, .bool false] 0) →
 ∃ (H15 : AH),
 storeCellsv H14 H13.next 0 [.int .i64 r34_0_Job, .int .i64 r34_0_Epoch, .int .i64 r34_0_Step, .int .i64 r34_0_Phase, .slice r34_0_Partsa r34_0_Partsl r34_0_Partsc, .slice r34_0_Assigneda r34_0_Assignedl r34_0_Assignedc, .string ⟨⟨r34_0_Spec_Program⟩⟩, .slice r34_0_Spec_Graph_Verticesa r34_0_Spec_Graph_Verticesl r34_0_Spec_Graph_Verticesc, .slice r34_0_Spec_Paramsa r34_0_Spec_Paramsl r34_0_Spec_Paramsc, .int .i64 r34_0_Spec_Steps, .int .i64 r34_0_Spec_Sent, .int .i64 r34_0_Spec_Parts, .bool r34_0_Before_Has_0, .bool r34_0_Before_Has_1, .bool r34_0_Before_Has_2, .bool r34_0_Before_Has_3, .bool r34_0_Before_Has_4, .int .i64 r34_0_Before_V_0, .int .i64 r34_0_Before_V_1, .int .i64 r34_0_Before_V_2, .int .i64 r34_0_Before_V_3, .int .i64 r34_0_Before_V_4, .int .i64 r34_0_Many, .int .i64 r34_0_From, .int .i64 r34_0_FromEpoch, .bool r34_0_Keep] = some H15 ∧
 FW Ee F_cohortlaw17_awake [] H15 fun v_9 H16 =>
 ∃ (r37 : Bool),
 v_9 = .bool r37 ∧
 cond (!r37) (
 Q (.bool false) H16) (
 cond (!r34_1) (
 Q (.bool false) H16) (
 ∃ (t44 : Int),
 H16.cell H13.next 0 = some (.int .i64 t44) ∧
 ∃ (t46 : Int),
 H16.cell H13.next 1 = some (.int .i64 t46) ∧
 ∃ (t48 : Int),
 H16.cell H13.next 2 = some (.int .i64 t48) ∧
 ∃ (t50 : Int),
 H16.cell H13.next 3 = some (.int .i64 t50) ∧
 ∃ (H17 : AH),
 storeCellsv H16 H1.next 0 [.int .i64 t44] = some H17 ∧
 ∃ (H18 : AH),
 storeCellsv H17 H1.next 1 [.int .i64 t46] = some H18 ∧
 ∃ (H19 : AH),
 storeCellsv H18 H1.next 2 [.int .i64 t48] = some H19 ∧
 ∃ (H20 : AH),
 storeCellsv H19 H1.next 3 [.int .i64 t50] = some H20 ∧
 ∃ (H21 : AH),
 storeCellsv H20 H1.next 4 [.int .i64 5] = some H21 ∧
 H19.cell H13.next 3 = some (.int .i64 t50) ∧
 H18.cell H13.next 3 = some (.int .i64 t50) ∧
 H17.cell H13.next 3 = some (.int .i64 t50) ∧
 H18.cell H13.next 2 = some (.int .i64 t48) ∧
 H17.cell H13.next 2 = some (.int .i64 t48) ∧
 H17.cell H13.next 1 = some (.int .i64 t46) ∧
 ∀ (t57 : Int),
 t57 = iand .i64 odd2 7 →
 ∃ (J_1 : AH → Prop),
 (
 cond (t57 == 0) (
 ∃ (t62 : Int),
 H21.cell H1.next 0 = some (.int .i64 t62) ∧
 ∀ (t63 : Int),
 t63 = IntKind.i64.wrap (t62 + 1) →
 ∃ (H22 : AH),
 storeCellsv H21 H1.next 0 [.int .i64 t63] = some H22 ∧
 J_1 H22) (
 cond (t57 == 1) (
 ∃ (t68 : Int),
 H21.cell H1.next 1 = some (.int .i64 t68) ∧
 ∀ (t69 : Int),
 t69 = IntKind.i64.wrap (t68 - 1) →
 ∃ (H23 : AH),
 storeCellsv H21 H1.next 1 [.int .i64 t69] = some H23 ∧
 J_1 H23) (
 cond (t57 == 2) (
 ∃ (t74 : Int),
 H21.cell H1.next 2 = some (.int .i64 t74) ∧
 ∀ (t75 : Int),
 t75 = IntKind.i64.wrap (t74 + 1) →
 ∃ (H24 : AH),
 storeCellsv H21 H1.next 2 [.int .i64 t75] = some H24 ∧
 J_1 H24) (
 cond (t57 == 3) (
 ∃ (t80 : Int),
 H21.cell H1.next 3 = some (.int .i64 t80) ∧
 ∀ (t81 : Int),
 t81 = IntKind.i64.wrap (t80 + 1) →
 ∃ (H25 : AH),
 storeCellsv H21 H1.next 3 [.int .i64 t81] = some H25 ∧
 J_1 H25) (
 cond (t57 == 4) (
 ∃ (t86 : Int),
 H21.cell H1.next 4 = some (.int .i64 t86) ∧
 ∀ (t87 : Int),
 t87 = IntKind.i64.wrap (t86 + 1) →
 ∃ (H26 : AH),
 storeCellsv H21 H1.next 4 [.int .i64 t87] = some H26 ∧
 J_1 H26) (
 cond (t57 == 5) (
 ∃ (t92 : Int),
 H21.cell H1.next 1 = some (.int .i64 t92) ∧
 ∀ (t93 : Int),
 t93 = IntKind.i64.wrap (t92 + 1) →
 ∃ (H27 : AH),
 storeCellsv H21 H1.next 1 [.int .i64 t93] = some H27 ∧
 J_1 H27) (
 cond (t57 == 6) (
 ∃ (H28 : AH),
 storeCellsv H21 H1.next 3 [.int .i64 0] = some H28 ∧
 J_1 H28) (
 ∃ (H29 : AH),
 storeCellsv H21 H1.next 0 [.int .i64 0] = some H29 ∧
 J_1 H29)))))))) ∧
 ∀ (H30 : AH),
 J_1 H30 →
 FW Ee F_master_Master_Encode [.pointer r23] H30 fun v_10 H31 =>
 ∃ (r99 : List UInt8),
 v_10 = .string ⟨⟨r99⟩⟩ ∧
 ∃ (t102_Job : Int) (t102_Epoch : Int) (t102_Step : Int) (t102_Phase : Int) (t102_Worker : Int) (t102_Err : Int) (t102_Sent : Int) (t102_Active : Int) (t102_Many : Int) (t102_Agg_Has_0 : Bool) (t102_Agg_Has_1 : Bool) (t102_Agg_Has_2 : Bool) (t102_Agg_Has_3 : Bool) (t102_Agg_Has_4 : Bool) (t102_Agg_V_0 : Int) (t102_Agg_V_1 : Int) (t102_Agg_V_2 : Int) (t102_Agg_V_3 : Int) (t102_Agg_V_4 : Int) (t102_Valuesa : Option Addr) (t102_Valuesl : Nat) (t102_Valuesc : Nat),
 H31.cell H1.next (0 + 0) = some (.int .i64 t102_Job) ∧
 H31.cell H1.next (0 + 1) = some (.int .i64 t102_Epoch) ∧
 H31.cell H1.next (0 + 2) = some (.int .i64 t102_Step) ∧
 H31.cell H1.next (0 + 3) = some (.int .i64 t102_Phase) ∧
 H31.cell H1.next (0 + 4) = some (.int .i64 t102_Worker) ∧
 H31.cell H1.next (0 + 5) = some (.int .i64 t102_Err) ∧
 H31.cell H1.next (0 + 6) = some (.int .i64 t102_Sent) ∧
 H31.cell H1.next (0 + 7) = some (.int .i64 t102_Active) ∧
 H31.cell H1.next (0 + 8) = some (.int .i64 t102_Many) ∧
 H31.cell H1.next (0 + 9) = some (.bool t102_Agg_Has_0) ∧
 H31.cell H1.next (0 + 10) = some (.bool t102_Agg_Has_1) ∧
 H31.cell H1.next (0 + 11) = some (.bool t102_Agg_Has_2) ∧
 H31.cell H1.next (0 + 12) = some (.bool t102_Agg_Has_3) ∧
 H31.cell H1.next (0 + 13) = some (.bool t102_Agg_Has_4) ∧
 H31.cell H1.next (0 + 14) = some (.int .i64 t102_Agg_V_0) ∧
 H31.cell H1.next (0 + 15) = some (.int .i64 t102_Agg_V_1) ∧
 H31.cell H1.next (0 + 16) = some (.int .i64 t102_Agg_V_2) ∧
 H31.cell H1.next (0 + 17) = some (.int .i64 t102_Agg_V_3) ∧
 H31.cell H1.next (0 + 18) = some (.int .i64 t102_Agg_V_4) ∧
 H31.cell H1.next (0 + 19) = some (.slice t102_Valuesa t102_Valuesl t102_Valuesc) ∧
 FW Ee F_master_Master_Apply [.pointer r23, .agg ⟨[.int .i64 5, .int .i64 0, .int .i64 0, .string ⟨⟨[]⟩⟩, .int .i64 0, .int .i64 0, .int .i64 0, .int .i64 t102_Job, .int .i64 t102_Epoch, .int .i64 t102_Step, .int .i64 t102_Phase, .int .i64 t102_Worker, .int .i64 t102_Err, .int .i64 t102_Sent, .int .i64 t102_Active, .int .i64 t102_Many, .bool t102_Agg_Has_0, .bool t102_Agg_Has_1, .bool t102_Agg_Has_2, .bool t102_Agg_Has_3, .bool t102_Agg_Has_4, .int .i64 t102_Agg_V_0, .int .i64 t102_Agg_V_1, .int .i64 t102_Agg_V_2, .int .i64 t102_Agg_V_3, .int .i64 t102_Agg_V_4, .slice t102_Valuesa t102_Valuesl t102_Valuesc]⟩] H31 fun v_11 H32 =>
 ∃ (r104_0_Err : Int) (r104_0_ID : Int) (r104_1 : Int),
 v_11 = .tuple ⟨[.agg ⟨[.int .i64 r104_0_Err, .int .i64 r104_0_ID]⟩, .int .i64 r104_1]⟩ ∧
 ∀ (H33 : AH),
 H33 = H32.new (.cells [.int .i64 0, .int .i64 0] 0) →
 ∃ (H34 : AH),
 storeCellsv H33 H32.next 0 [.int .i64 r104_0_Err, .int .i64 r104_0_ID] = some H34 ∧
 FW Ee F_master_Master_Task [.pointer r23, .int .i64 6] H34 fun v_12 H35 =>
 ∃ (r109_0_Job : Int) (r109_0_Epoch : Int) (r109_0_Step : Int) (r109_0_Phase : Int) (r109_0_Partsa : Option Addr) (r109_0_Partsl : Nat) (r109_0_Partsc : Nat) (r109_0_Assigneda : Option Addr) (r109_0_Assignedl : Nat) (r109_0_Assignedc : Nat) (r109_0_Spec_Program : List UInt8) (r109_0_Spec_Graph_Verticesa : Option Addr) (r109_0_Spec_Graph_Verticesl : Nat) (r109_0_Spec_Graph_Verticesc : Nat) (r109_0_Spec_Paramsa : Option Addr) (r109_0_Spec_Paramsl : Nat) (r109_0_Spec_Paramsc : Nat) (r109_0_Spec_Steps : Int) (r109_0_Spec_Sent : Int) (r109_0_Spec_Parts : Int) (r109_0_Before_Has_0 : Bool) (r109_0_Before_Has_1 : Bool) (r109_0_Before_Has_2 : Bool) (r109_0_Before_Has_3 : Bool) (r109_0_Before_Has_4 : Bool) (r109_0_Before_V_0 : Int) (r109_0_Before_V_1 : Int) (r109_0_Before_V_2 : Int) (r109_0_Before_V_3 : Int) (r109_0_Before_V_4 : Int) (r109_0_Many : Int) (r109_0_From : Int) (r109_0_FromEpoch : Int) (r109_0_Keep : Bool) (r109_1 : Bool),
 v_12 = .tuple ⟨[.agg ⟨[.int .i64 r109_0_Job, .int .i64 r109_0_Epoch, .int .i64 r109_0_Step, .int .i64 r109_0_Phase, .slice r109_0_Partsa r109_0_Partsl r109_0_Partsc, .slice r109_0_Assigneda r109_0_Assignedl r109_0_Assignedc, .string ⟨⟨r109_0_Spec_Program⟩⟩, .slice r109_0_Spec_Graph_Verticesa r109_0_Spec_Graph_Verticesl r109_0_Spec_Graph_Verticesc, .slice r109_0_Spec_Paramsa r109_0_Spec_Paramsl r109_0_Spec_Paramsc, .int .i64 r109_0_Spec_Steps, .int .i64 r109_0_Spec_Sent, .int .i64 r109_0_Spec_Parts, .bool r109_0_Before_Has_0, .bool r109_0_Before_Has_1, .bool r109_0_Before_Has_2, .bool r109_0_Before_Has_3, .bool r109_0_Before_Has_4, .int .i64 r109_0_Before_V_0, .int .i64 r109_0_Before_V_1, .int .i64 r109_0_Before_V_2, .int .i64 r109_0_Before_V_3, .int .i64 r109_0_Before_V_4, .int .i64 r109_0_Many, .int .i64 r109_0_From, .int .i64 r109_0_FromEpoch, .bool r109_0_Keep]⟩, .bool r109_1]⟩ ∧
 ∀ (H36 : AH),
 H36 = H35.new (.cells [.int .i64 0, .int .i64 0, .int .i64 0, .int .i64 0, .slice none 0 0, .slice none 0 0, .string ⟨⟨[]⟩⟩, .slice none 0 0, .slice none 0 0, .int .i64 0, .int .i64 0, .int .i64 0, .bool false, .bool false, .bool false, .bool false, .bool false, .int .i64 0, .int .i64 0, .int .i64 0, .int .i64 0, .int .i64 0, .int .i64 0, .int .i64 0, .int .i64 0, .bool false] 0) →
 ∃ (H37 : AH),
 storeCellsv H36 H35.next 0 [.int .i64 r109_0_Job, .int .i64 r109_0_Epoch, .int .i64 r109_0_Step, .int .i64 r109_0_Phase, .slice r109_0_Partsa r109_0_Partsl r109_0_Partsc, .slice r109_0_Assigneda r109_0_Assignedl r109_0_Assignedc, .string ⟨⟨r109_0_Spec_Program⟩⟩, .slice r109_0_Spec_Graph_Verticesa r109_0_Spec_Graph_Verticesl r109_0_Spec_Graph_Verticesc, .slice r109_0_Spec_Paramsa r109_0_Spec_Paramsl r109_0_Spec_Paramsc, .int .i64 r109_0_Spec_Steps, .int .i64 r109_0_Spec_Sent, .int .i64 r109_0_Spec_Parts, .bool r109_0_Before_Has_0, .bool r109_0_Before_Has_1, .bool r109_0_Before_Has_2, .bool r109_0_Before_Has_3, .bool r109_0_Before_Has_4, .int .i64 r109_0_Before_V_0, .int .i64 r109_0_Before_V_1, .int .i64 r109_0_Before_V_2, .int .i64 r109_0_Before_V_3, .int .i64 r109_0_Before_V_4, .int .i64 r109_0_Many, .int .i64 r109_0_From, .int .i64 r109_0_FromEpoch, .bool r109_0_Keep] = some H37 ∧
 ∃ (t113_Job : Int) (t113_Epoch : Int) (t113_Step : Int) (t113_Phase : Int) (t113_Worker : Int) (t113_Err : Int) (t113_Sent : Int) (t113_Active : Int) (t113_Many : Int) (t113_Agg_Has_0 : Bool) (t113_Agg_Has_1 : Bool) (t113_Agg_Has_2 : Bool) (t113_Agg_Has_3 : Bool) (t113_Agg_Has_4 : Bool) (t113_Agg_V_0 : Int) (t113_Agg_V_1 : Int) (t113_Agg_V_2 : Int) (t113_Agg_V_3 : Int) (t113_Agg_V_4 : Int) (t113_Valuesa : Option Addr) (t113_Valuesl : Nat) (t113_Valuesc : Nat),
 H37.cell H1.next (0 + 0) = some (.int .i64 t113_Job) ∧
 H37.cell H1.next (0 + 1) = some (.int .i64 t113_Epoch) ∧
 H37.cell H1.next (0 + 2) = some (.int .i64 t113_Step) ∧
 H37.cell H1.next (0 + 3) = some (.int .i64 t113_Phase) ∧
 H37.cell H1.next (0 + 4) = some (.int .i64 t113_Worker) ∧
 H37.cell H1.next (0 + 5) = some (.int .i64 t113_Err) ∧
 H37.cell H1.next (0 + 6) = some (.int .i64 t113_Sent) ∧
 H37.cell H1.next (0 + 7) = some (.int .i64 t113_Active) ∧
 H37.cell H1.next (0 + 8) = some (.int .i64 t113_Many) ∧
 H37.cell H1.next (0 + 9) = some (.bool t113_Agg_Has_0) ∧
 H37.cell H1.next (0 + 10) = some (.bool t113_Agg_Has_1) ∧
 H37.cell H1.next (0 + 11) = some (.bool t113_Agg_Has_2) ∧
 H37.cell H1.next (0 + 12) = some (.bool t113_Agg_Has_3) ∧
 H37.cell H1.next (0 + 13) = some (.bool t113_Agg_Has_4) ∧
 H37.cell H1.next (0 + 14) = some (.int .i64 t113_Agg_V_0) ∧
 H37.cell H1.next (0 + 15) = some (.int .i64 t113_Agg_V_1) ∧
 H37.cell H1.next (0 + 16) = some (.int .i64 t113_Agg_V_2) ∧
 H37.cell H1.next (0 + 17) = some (.int .i64 t113_Agg_V_3) ∧
 H37.cell H1.next (0 + 18) = some (.int .i64 t113_Agg_V_4) ∧
 H37.cell H1.next (0 + 19) = some (.slice t113_Valuesa t113_Valuesl t113_Valuesc) ∧
 FW Ee F_master_Master_Wants [.pointer r23, .agg ⟨[.int .i64 t113_Job, .int .i64 t113_Epoch, .int .i64 t113_Step, .int .i64 t113_Phase, .int .i64 t113_Worker, .int .i64 t113_Err, .int .i64 t113_Sent, .int .i64 t113_Active, .int .i64 t113_Many, .bool t113_Agg_Has_0, .bool t113_Agg_Has_1, .bool t113_Agg_Has_2, .bool t113_Agg_Has_3, .bool t113_Agg_Has_4, .int .i64 t113_Agg_V_0, .int .i64 t113_Agg_V_1, .int .i64 t113_Agg_V_2, .int .i64 t113_Agg_V_3, .int .i64 t113_Agg_V_4, .slice t113_Valuesa t113_Valuesl t113_Valuesc]⟩] H37 fun v_13 H38 =>
 ∃ (r114 : Bool),
 v_13 = .bool r114 ∧
 cond (!r114) (
 cond (r104_1 == 0) (
 FW Ee F_master_Master_Encode [.pointer r23] H38 fun v_14 H39 =>
 ∃ (r122 : List UInt8),
 v_14 = .string ⟨⟨r122⟩⟩ ∧
 cond ((r122 : List UInt8) == r99) (
 Q (.bool (!r109_1)) H39) (
 Q (.bool false) H39)) (
 Q (.bool false) H38)) (
 Q (.bool false) H38))))
set_option maxRecDepth 100000 in
theorem fw_cohortlaw17_MasterStale {x0_Program : List UInt8} {x0_Graph_Verticesa : Option Addr} {x0_Graph_Verticesl : Nat} {x0_Graph_Verticesc : Nat} {x0_Paramsa : Option Addr} {x0_Paramsl : Nat} {x0_Paramsc : Nat} {x0_Steps : Int} {x0_Sent : Int} {x0_Parts : Int} {r1_Job : Int} {r1_Epoch : Int} {r1_Step : Int} {r1_Phase : Int} {r1_Worker : Int} {r1_Err : Int} {r1_Sent : Int} {r1_Active : Int} {r1_Many : Int} {r1_Agg_Has_0 : Bool} {r1_Agg_Has_1 : Bool} {r1_Agg_Has_2 : Bool} {r1_Agg_Has_3 : Bool} {r1_Agg_Has_4 : Bool} {r1_Agg_V_0 : Int} {r1_Agg_V_1 : Int} {r1_Agg_V_2 : Int} {r1_Agg_V_3 : Int} {r1_Agg_V_4 : Int} {r1_Valuesa : Option Addr} {r1_Valuesl : Nat} {r1_Valuesc : Nat} {odd2 : Int} {H : AH} {Q : Value → AH → Prop} (h : VC_cohortlaw17_MasterStale x0_Program x0_Graph_Verticesa x0_Graph_Verticesl x0_Graph_Verticesc x0_Paramsa x0_Paramsl x0_Paramsc x0_Steps x0_Sent x0_Parts r1_Job r1_Epoch r1_Step r1_Phase r1_Worker r1_Err r1_Sent r1_Active r1_Many r1_Agg_Has_0 r1_Agg_Has_1 r1_Agg_Has_2 r1_Agg_Has_3 r1_Agg_Has_4 r1_Agg_V_0 r1_Agg_V_1 r1_Agg_V_2 r1_Agg_V_3 r1_Agg_V_4 r1_Valuesa r1_Valuesl r1_Valuesc odd2 H Q) : FW Ee F_cohortlaw17_MasterStale [.agg ⟨[.string ⟨⟨x0_Program⟩⟩, .slice x0_Graph_Verticesa x0_Graph_Verticesl x0_Graph_Verticesc, .slice x0_Paramsa x0_Paramsl x0_Paramsc, .int .i64 x0_Steps, .int .i64 x0_Sent, .int .i64 x0_Parts]⟩, .agg ⟨[.int .i64 r1_Job, .int .i64 r1_Epoch, .int .i64 r1_Step, .int .i64 r1_Phase, .int .i64 r1_Worker, .int .i64 r1_Err, .int .i64 r1_Sent, .int .i64 r1_Active, .int .i64 r1_Many, .bool r1_Agg_Has_0, .bool r1_Agg_Has_1, .bool r1_Agg_Has_2, .bool r1_Agg_Has_3, .bool r1_Agg_Has_4, .int .i64 r1_Agg_V_0, .int .i64 r1_Agg_V_1, .int .i64 r1_Agg_V_2, .int .i64 r1_Agg_V_3, .int .i64 r1_Agg_V_4, .slice r1_Valuesa r1_Valuesl r1_Valuesc]⟩, .int .i64 odd2] H Q := by
  have e : VC_cohortlaw17_MasterStale x0_Program x0_Graph_Verticesa x0_Graph_Verticesl x0_Graph_Verticesc x0_Paramsa x0_Paramsl x0_Paramsc x0_Steps x0_Sent x0_Parts r1_Job r1_Epoch r1_Step r1_Phase r1_Worker r1_Err r1_Sent r1_Active r1_Many r1_Agg_Has_0 r1_Agg_Has_1 r1_Agg_Has_2 r1_Agg_Has_3 r1_Agg_Has_4 r1_Agg_V_0 r1_Agg_V_1 r1_Agg_V_2 r1_Agg_V_3 r1_Agg_V_4 r1_Valuesa r1_Valuesl r1_Valuesc odd2 H Q = wpF Ee ⟨[0], []⟩ F_cohortlaw17_MasterStale [.agg ⟨[.string ⟨⟨x0_Program⟩⟩, .slice x0_Graph_Verticesa x0_Graph_Verticesl x0_Graph_Verticesc, .slice x0_Paramsa x0_Paramsl x0_Paramsc, .int .i64 x0_Steps, .int .i64 x0_Sent, .int .i64 x0_Parts]⟩, .agg ⟨[.int .i64 r1_Job, .int .i64 r1_Epoch, .int .i64 r1_Step, .int .i64 r1_Phase, .int .i64 r1_Worker, .int .i64 r1_Err, .int .i64 r1_Sent, .int .i64 r1_Active, .int .i64 r1_Many, .bool r1_Agg_Has_0, .bool r1_Agg_Has_1, .bool r1_Agg_Has_2, .bool r1_Agg_Has_3, .bool r1_Agg_Has_4, .int .i64 r1_Agg_V_0, .int .i64 r1_Agg_V_1, .int .i64 r1_Agg_V_2, .int .i64 r1_Agg_V_3, .int .i64 r1_Agg_V_4, .slice r1_Valuesa r1_Valuesl r1_Valuesc]⟩, .int .i64 odd2] H Q := by kernel_rfl
  letI : Sy := sy0
  exact wpF_sound (Eq.mp e h)
end Go.Proofs.Cx
