/- What calls come to, as formulas: printed by a program. -/
import Derived.Test.YtkkcknfeljgdcaaGreatVc0
namespace Go.Proofs.Cx
open Go Go.Ev
set_option linter.unusedVariables false
set_option maxRecDepth 100000
set_option maxHeartbeats 8000000
/-- cohort/graph.edges -/
def VC_graph_edges (g0_Verticesa : Option Addr) (g0_Verticesl : Nat) (g0_Verticesc : Nat) (v1_ID : Int) (v1_Value : Int) (v1_Edgesa : Option Addr) (v1_Edgesl : Nat) (v1_Edgesc : Nat) (H : AH) (Q : Value → AH → Prop) : Prop :=
 ∀ (H1 : AH),
 H1 = H.new (.cells [.slice g0_Verticesa g0_Verticesl g0_Verticesc] 0) →
 ∀ (H2 : AH),
 H2 = H1.new (.cells [.int .i64 v1_ID, .int .i64 v1_Value, .slice v1_Edgesa v1_Edgesl v1_Edgesc] 0) →
 ∃ (t10a : Option Addr) (t10l : Nat) (t10c : Nat),
 H2.cell H1.next 2 = some (.slice t10a t10l t10c) ∧
 ∃ (Inv : Nat → Bool → Int → AH → Prop),
 (
 ∃ (n_1 : Nat),
 Inv n_1 false 0 H2) ∧
 ∀ (n : Nat),
 ∀ (t4 : Bool) (t12 : Int) (H3 : AH),
 Inv n t4 t12 H3 →
 cond (decide (t12 < (((t10l : Nat) : Int)))) (
 grd t10a.isSome (
 (0 : Int) ≤ t12 ∧
 (t12 : Int) < ((t10l : Nat) : Int) ∧
 ∃ (t16_To : Int) (t16_Weight : Int),
 H3.cell ((adr t10a).block) ((adr t10a).off + (t12 : Int).toNat * 2 + 0) = some (.int .i64 t16_To) ∧
 H3.cell ((adr t10a).block) ((adr t10a).off + (t12 : Int).toNat * 2 + 1) = some (.int .i64 t16_Weight) ∧
 ∀ (H4 : AH),
 H4 = H3.new (.cells [.int .i64 0, .int .i64 0] 0) →
 ∃ (H5 : AH),
 storeCellsv H4 H3.next 0 [.int .i64 t16_To, .int .i64 t16_Weight] = some H5 ∧
 ∃ (t18_Verticesa : Option Addr) (t18_Verticesl : Nat) (t18_Verticesc : Nat),
 H5.cell H.next (0 + 0) = some (.slice t18_Verticesa t18_Verticesl t18_Verticesc) ∧
 ∃ (t20 : Int),
 H5.cell H3.next 0 = some (.int .i64 t20) ∧
 FW Ee F_graph_Find [.agg ⟨[.slice t18_Verticesa t18_Verticesl t18_Verticesc]⟩, .int .i64 t20] H5 fun v H6 =>
 ∃ (r21_0 : Int) (r21_1 : Bool),
 v = .tuple ⟨[.int .i64 r21_0, .bool r21_1]⟩ ∧
 cond (!r21_1) (
 Q (.bool false) H6) (
 cond (decide (t12 > 0)) (
 ∃ (t31a : Option Addr) (t31l : Nat) (t31c : Nat),
 H6.cell H1.next 2 = some (.slice t31a t31l t31c) ∧
 ∀ (t33 : Int),
 t33 = IntKind.i64.wrap (t12 - 1) →
 grd t31a.isSome (
 (0 : Int) ≤ t33 ∧
 (t33 : Int) < ((t31l : Nat) : Int) ∧
 ∃ (t36 : Int),
 H6.cell ((adr t31a).block) ((adr t31a).off + (t33 : Int).toNat * 2) = some (.int .i64 t36) ∧
 ∃ (t38 : Int),
 H6.cell H3.next 0 = some (.int .i64 t38) ∧
 cond (decide (t36 ≥ t38)) (
 Q (.bool false) H6) (
 ∀ (t42 : Int),
 t42 = IntKind.i64.wrap (t12 + 1) →
 ∃ (m : Nat),
 m < n ∧
 Inv m t4 t42 H6))) (
 ∀ (t42_1 : Int),
 t42_1 = IntKind.i64.wrap (t12 + 1) →
 ∃ (m : Nat),
 m < n ∧
 Inv m t4 t42_1 H6)))) (
 Q (.bool true) H3)
set_option maxRecDepth 100000 in
theorem fw_graph_edges {g0_Verticesa : Option Addr} {g0_Verticesl : Nat} {g0_Verticesc : Nat} {v1_ID : Int} {v1_Value : Int} {v1_Edgesa : Option Addr} {v1_Edgesl : Nat} {v1_Edgesc : Nat} {H : AH} {Q : Value → AH → Prop} (h : VC_graph_edges g0_Verticesa g0_Verticesl g0_Verticesc v1_ID v1_Value v1_Edgesa v1_Edgesl v1_Edgesc H Q) : FW Ee F_graph_edges [.agg ⟨[.slice g0_Verticesa g0_Verticesl g0_Verticesc]⟩, .agg ⟨[.int .i64 v1_ID, .int .i64 v1_Value, .slice v1_Edgesa v1_Edgesl v1_Edgesc]⟩] H Q := by
  have e : VC_graph_edges g0_Verticesa g0_Verticesl g0_Verticesc v1_ID v1_Value v1_Edgesa v1_Edgesl v1_Edgesc H Q = wpF Ee ⟨[], []⟩ F_graph_edges [.agg ⟨[.slice g0_Verticesa g0_Verticesl g0_Verticesc]⟩, .agg ⟨[.int .i64 v1_ID, .int .i64 v1_Value, .slice v1_Edgesa v1_Edgesl v1_Edgesc]⟩] H Q := by kernel_rfl
  letI : Sy := sy0
  exact wpF_sound (Eq.mp e h)
/-- cohort/graph.Edges -/
def VC_graph_Edges (g0_Verticesa : Option Addr) (g0_Verticesl : Nat) (g0_Verticesc : Nat) (H : AH) (Q : Value → AH → Prop) : Prop :=
 ∀ (H1 : AH),
 H1 = H.new (.cells [.slice g0_Verticesa g0_Verticesl g0_Verticesc] 0) →
 ∀ (H2 : AH),
 H2 = H1.new (.cells [.int .i64 0] 0) →
 ∃ (H3 : AH),
 storeCellsv H2 H1.next 0 [.int .i64 0] = some H3 ∧
 ∃ (t4_Verticesa : Option Addr) (t4_Verticesl : Nat) (t4_Verticesc : Nat),
 H3.cell H.next (0 + 0) = some (.slice t4_Verticesa t4_Verticesl t4_Verticesc) ∧
 FW Ee F_graph_All [.agg ⟨[.slice t4_Verticesa t4_Verticesl t4_Verticesc]⟩] H3 fun v H4 =>
 ∃ (b5 : Nat),
 v = .func (.func F_graph_All_1) ⟨[]⟩ ⟨[.pointer (some ⟨b5, 0, none⟩)]⟩ ∧
 ∀ (L : ALoop),
 RdL 11 Ee.g [(3, .pointer (some ⟨H1.next, 0, none⟩))] (rfOf Ee F_graph_Edges 0) L →
 L.st = .ready →
 L.pend = none →
 FW Ee F_graph_All_1 [.func (.yield H4.next) ⟨[]⟩ ⟨[]⟩, .pointer (some ⟨b5, 0, none⟩)] (H4.new (.loop L)) fun _ H5 =>
 ∃ (L_1 : ALoop),
 H5.get H4.next = some (.loop L_1) ∧
 L_1.st ≠ .busy ∧
 match L_1.pend with
 | none =>
 ∃ (t10_1 : Int),
 (H5.set H4.next (.loop { L_1 with st := .exhausted })).cell H1.next 0 = some (.int .i64 t10_1) ∧
 Q (.int .i64 t10_1) ((H5.set H4.next (.loop { L_1 with st := .exhausted })))
 | some (.exit i) =>
 cond (Nat.beq i 0) (
 ∃ (t10 : Int),
 (H5.set H4.next (.loop { L_1 with st := .exhausted })).cell H1.next 0 = some (.int .i64 t10) ∧
 Q (.int .i64 t10) ((H5.set H4.next (.loop { L_1 with st := .exhausted })))) (
 False)
 | some .ret =>
 Q (.int .i64 0) ((H5.set H4.next (.loop { L_1 with st := .exhausted })))
 | _ =>
 False
set_option maxRecDepth 100000 in
theorem fw_graph_Edges {g0_Verticesa : Option Addr} {g0_Verticesl : Nat} {g0_Verticesc : Nat} {H : AH} {Q : Value → AH → Prop} (h : VC_graph_Edges g0_Verticesa g0_Verticesl g0_Verticesc H Q) : FW Ee F_graph_Edges [.agg ⟨[.slice g0_Verticesa g0_Verticesl g0_Verticesc]⟩] H Q := by
  have e : VC_graph_Edges g0_Verticesa g0_Verticesl g0_Verticesc H Q = wpF Ee ⟨[], []⟩ F_graph_Edges [.agg ⟨[.slice g0_Verticesa g0_Verticesl g0_Verticesc]⟩] H Q := by kernel_rfl
  letI : Sy := sy0
  exact wpF_sound (Eq.mp e h)
/-- cohort/graph.Edges: a round -/
def VC_graph_Edges_r0 (n3b : Nat) (n3o : Nat) (p6 : Int) (p7_To : Int) (p7_Weight : Int) (l : Nat) (H : AH) (Q : Value → AH → Prop) : Prop :=
 ∃ (L : ALoop),
 H.get l = some (.loop L) ∧
 L.st = .ready ∧
 L.body = (rfOf Ee F_graph_Edges 0).2.2 ∧
 ∃ (t8 : Int),
 (H.set l (.loop { L with st := .busy })).cell n3b n3o = some (.int .i64 t8) ∧
 ∀ (t9 : Int),
 t9 = IntKind.i64.wrap (t8 + 1) →
 ∃ (H1 : AH),
 storeCellsv ((H.set l (.loop { L with st := .busy }))) n3b n3o [.int .i64 t9] = some H1 ∧
 ∃ (L_1 : ALoop),
 H1.get l = some (.loop L_1) ∧
 Q (.bool true) (H1.set l (.loop { L_1 with st := .ready, pend := none }))
set_option maxRecDepth 100000 in
theorem rw_graph_Edges_r0 {n3b : Nat} {n3o : Nat} {p6 : Int} {p7_To : Int} {p7_Weight : Int} {l : Nat} {H : AH} {Q : Value → AH → Prop} {L : ALoop} (hl : H.get l = some (.loop L)) (hR : RdL 11 Ee.g [(3, .pointer (some ⟨n3b, n3o, none⟩))] (rfOf Ee F_graph_Edges 0) L) (h : VC_graph_Edges_r0 n3b n3o p6 p7_To p7_Weight l H Q) : RW Ee l [.int .i64 p6, .agg ⟨[.int .i64 p7_To, .int .i64 p7_Weight]⟩] H Q := by
  have e : VC_graph_Edges_r0 n3b n3o p6 p7_To p7_Weight l H Q = wpRound Ee ⟨[], []⟩ (frm 11 Ee.g [(3, .pointer (some ⟨n3b, n3o, none⟩))]) (rfOf Ee F_graph_Edges 0).1 (rfOf Ee F_graph_Edges 0).2.1 (rfOf Ee F_graph_Edges 0).2.2 l [.int .i64 p6, .agg ⟨[.int .i64 p7_To, .int .i64 p7_Weight]⟩] H Q := by kernel_rfl
  letI : Sy := sy0
  exact wpRoundR_sound hl hR (Eq.mp e h)
/-- cohort/graph.Check -/
def VC_graph_Check (g0_Verticesa : Option Addr) (g0_Verticesl : Nat) (g0_Verticesc : Nat) (H : AH) (Q : Value → AH → Prop) : Prop :=
 ∀ (H1 : AH),
 H1 = H.new (.cells [.slice g0_Verticesa g0_Verticesl g0_Verticesc] 0) →
 ∃ (t8a : Option Addr) (t8l : Nat) (t8c : Nat),
 H1.cell H.next 0 = some (.slice t8a t8l t8c) ∧
 cond (decide ((((t8l : Nat) : Int)) > 256)) (
 Q (.int .i64 30) H1) (
 ∃ (t12a : Option Addr) (t12l : Nat) (t12c : Nat),
 H1.cell H.next 0 = some (.slice t12a t12l t12c) ∧
 ∃ (Inv : Nat → Int → Int → AH → Prop),
 (
 ∃ (n_1 : Nat),
 Inv n_1 0 0 H1) ∧
 ∀ (n : Nat),
 ∀ (t2 : Int) (t14 : Int) (H2 : AH),
 Inv n t2 t14 H2 →
 cond (decide (t14 < (((t12l : Nat) : Int)))) (
 grd t12a.isSome (
 (0 : Int) ≤ t14 ∧
 (t14 : Int) < ((t12l : Nat) : Int) ∧
 ∃ (t18_ID : Int) (t18_Value : Int) (t18_Edgesa : Option Addr) (t18_Edgesl : Nat) (t18_Edgesc : Nat),
 H2.cell ((adr t12a).block) ((adr t12a).off + (t14 : Int).toNat * 3 + 0) = some (.int .i64 t18_ID) ∧
 H2.cell ((adr t12a).block) ((adr t12a).off + (t14 : Int).toNat * 3 + 1) = some (.int .i64 t18_Value) ∧
 H2.cell ((adr t12a).block) ((adr t12a).off + (t14 : Int).toNat * 3 + 2) = some (.slice t18_Edgesa t18_Edgesl t18_Edgesc) ∧
 ∀ (H3 : AH),
 H3 = H2.new (.cells [.int .i64 0, .int .i64 0, .slice none 0 0] 0) →
 ∃ (H4 : AH),
 storeCellsv H3 H2.next 0 [.int .i64 t18_ID, .int .i64 t18_Value, .slice t18_Edgesa t18_Edgesl t18_Edgesc] = some H4 ∧
 cond (decide (t14 > 0)) (
 ∃ (t23a : Option Addr) (t23l : Nat) (t23c : Nat),
 H4.cell H.next 0 = some (.slice t23a t23l t23c) ∧
 ∀ (t25 : Int),
 t25 = IntKind.i64.wrap (t14 - 1) →
 grd t23a.isSome (
 (0 : Int) ≤ t25 ∧
 (t25 : Int) < ((t23l : Nat) : Int) ∧
 ∃ (t28 : Int),
 H4.cell ((adr t23a).block) ((adr t23a).off + (t25 : Int).toNat * 3) = some (.int .i64 t28) ∧
 ∃ (t30 : Int),
 H4.cell H2.next 0 = some (.int .i64 t30) ∧
 cond (decide (t28 ≥ t30)) (
 Q (.int .i64 30) H4) (
 ∀ (t33 : Int),
 t33 = IntKind.i64.wrap (t14 + 1) →
 ∃ (m : Nat),
 m < n ∧
 Inv m t2 t33 H4))) (
 ∀ (t33_1 : Int),
 t33_1 = IntKind.i64.wrap (t14 + 1) →
 ∃ (m : Nat),
 m < n ∧
 Inv m t2 t33_1 H4))) (
 ∃ (t34_Verticesa : Option Addr) (t34_Verticesl : Nat) (t34_Verticesc : Nat),
 H2.cell H.next (0 + 0) = some (.slice t34_Verticesa t34_Verticesl t34_Verticesc) ∧
 FW Ee F_graph_Edges [.agg ⟨[.slice t34_Verticesa t34_Verticesl t34_Verticesc]⟩] H2 fun v H5 =>
 ∃ (r35 : Int),
 v = .int .i64 r35 ∧
 cond (decide (r35 > 2048)) (
 Q (.int .i64 31) H5) (
 ∃ (t38a : Option Addr) (t38l : Nat) (t38c : Nat),
 H5.cell H.next 0 = some (.slice t38a t38l t38c) ∧
 ∃ (Inv_1 : Nat → Int → Int → AH → Prop),
 (
 ∃ (n_3 : Nat),
 Inv_1 n_3 t2 0 H5) ∧
 ∀ (n_2 : Nat),
 ∀ (t2_1 : Int) (t40 : Int) (H6 : AH),
 Inv_1 n_2 t2_1 t40 H6 →
 cond (decide (t40 < (((t38l : Nat) : Int)))) (
 grd t38a.isSome (
 (0 : Int) ≤ t40 ∧
 (t40 : Int) < ((t38l : Nat) : Int) ∧
 ∃ (t43_ID : Int) (t43_Value : Int) (t43_Edgesa : Option Addr) (t43_Edgesl : Nat) (t43_Edgesc : Nat),
 H6.cell ((adr t38a).block) ((adr t38a).off + (t40 : Int).toNat * 3 + 0) = some (.int .i64 t43_ID) ∧
 H6.cell ((adr t38a).block) ((adr t38a).off + (t40 : Int).toNat * 3 + 1) = some (.int .i64 t43_Value) ∧
 H6.cell ((adr t38a).block) ((adr t38a).off + (t40 : Int).toNat * 3 + 2) = some (.slice t43_Edgesa t43_Edgesl t43_Edgesc) ∧
 ∀ (H7 : AH),
 H7 = H6.new (.cells [.int .i64 0, .int .i64 0, .slice none 0 0] 0) →
 ∃ (H8 : AH),
 storeCellsv H7 H6.next 0 [.int .i64 t43_ID, .int .i64 t43_Value, .slice t43_Edgesa t43_Edgesl t43_Edgesc] = some H8 ∧
 ∃ (t44_Verticesa : Option Addr) (t44_Verticesl : Nat) (t44_Verticesc : Nat),
 H8.cell H.next (0 + 0) = some (.slice t44_Verticesa t44_Verticesl t44_Verticesc) ∧
 ∃ (t45_ID : Int) (t45_Value : Int) (t45_Edgesa : Option Addr) (t45_Edgesl : Nat) (t45_Edgesc : Nat),
 H8.cell H6.next (0 + 0) = some (.int .i64 t45_ID) ∧
 H8.cell H6.next (0 + 1) = some (.int .i64 t45_Value) ∧
 H8.cell H6.next (0 + 2) = some (.slice t45_Edgesa t45_Edgesl t45_Edgesc) ∧
 FW Ee F_graph_edges [.agg ⟨[.slice t44_Verticesa t44_Verticesl t44_Verticesc]⟩, .agg ⟨[.int .i64 t45_ID, .int .i64 t45_Value, .slice t45_Edgesa t45_Edgesl t45_Edgesc]⟩] H8 fun v_1 H9 =>
 ∃ (r46 : Bool),
 v_1 = .bool r46 ∧
 cond (!r46) (
 Q (.int .i64 31) H9) (
 ∀ (t48 : Int),
 t48 = IntKind.i64.wrap (t40 + 1) →
 ∃ (m_1 : Nat),
 m_1 < n_2 ∧
 Inv_1 m_1 t2_1 t48 H9))) (
 Q (.int .i64 0) H6))))
set_option maxRecDepth 100000 in
theorem fw_graph_Check {g0_Verticesa : Option Addr} {g0_Verticesl : Nat} {g0_Verticesc : Nat} {H : AH} {Q : Value → AH → Prop} (h : VC_graph_Check g0_Verticesa g0_Verticesl g0_Verticesc H Q) : FW Ee F_graph_Check [.agg ⟨[.slice g0_Verticesa g0_Verticesl g0_Verticesc]⟩] H Q := by
  have e : VC_graph_Check g0_Verticesa g0_Verticesl g0_Verticesc H Q = wpF Ee ⟨[], []⟩ F_graph_Check [.agg ⟨[.slice g0_Verticesa g0_Verticesl g0_Verticesc]⟩] H Q := by kernel_rfl
  letI : Sy := sy0
  exact wpF_sound (Eq.mp e h)
/-- cohort/graph.PutVertex -/
def VC_graph_PutVertex (w0b : Nat) (v1_ID : Int) (v1_Value : Int) (v1_Edgesa : Option Addr) (v1_Edgesl : Nat) (v1_Edgesc : Nat) (H : AH) (Q : Value → AH → Prop) : Prop :=
 ∀ (H1 : AH),
 H1 = H.new (.cells [.int .i64 v1_ID, .int .i64 v1_Value, .slice v1_Edgesa v1_Edgesl v1_Edgesc] 0) →
 ∃ (t8 : Int),
 H1.cell H.next 0 = some (.int .i64 t8) ∧
 FW Ee F_wire_Writer_Signed [.pointer (some ⟨w0b, 0, none⟩), .int .i64 t8] H1 fun v H2 =>
 v = .tuple ⟨[]⟩ ∧
 ∃ (t12 : Int),
 H2.cell H.next 1 = some (.int .i64 t12) ∧
 FW Ee F_wire_Writer_Signed [.pointer (some ⟨w0b, 0, none⟩), .int .i64 t12] H2 fun v_1 H3 =>
 v_1 = .tuple ⟨[]⟩ ∧
 ∃ (t16a : Option Addr) (t16l : Nat) (t16c : Nat),
 H3.cell H.next 2 = some (.slice t16a t16l t16c) ∧
 FW Ee F_wire_Writer_Count [.pointer (some ⟨w0b, 0, none⟩), .int .i64 (((t16l : Nat) : Int))] H3 fun v_2 H4 =>
 v_2 = .tuple ⟨[]⟩ ∧
 ∃ (t20a : Option Addr) (t20l : Nat) (t20c : Nat),
 H4.cell H.next 2 = some (.slice t20a t20l t20c) ∧
 ∃ (Inv : Nat → Int → AH → Prop),
 (
 ∃ (n_1 : Nat),
 Inv n_1 0 H4) ∧
 ∀ (n : Nat),
 ∀ (t22 : Int) (H5 : AH),
 Inv n t22 H5 →
 cond (decide (t22 < (((t20l : Nat) : Int)))) (
 grd t20a.isSome (
 (0 : Int) ≤ t22 ∧
 (t22 : Int) < ((t20l : Nat) : Int) ∧
 ∃ (t25_To : Int) (t25_Weight : Int),
 H5.cell ((adr t20a).block) ((adr t20a).off + (t22 : Int).toNat * 2 + 0) = some (.int .i64 t25_To) ∧
 H5.cell ((adr t20a).block) ((adr t20a).off + (t22 : Int).toNat * 2 + 1) = some (.int .i64 t25_Weight) ∧
 ∀ (H6 : AH),
 H6 = H5.new (.cells [.int .i64 0, .int .i64 0] 0) →
 ∃ (H7 : AH),
 storeCellsv H6 H5.next 0 [.int .i64 t25_To, .int .i64 t25_Weight] = some H7 ∧
 ∃ (t28 : Int),
 H7.cell H5.next 0 = some (.int .i64 t28) ∧
 FW Ee F_wire_Writer_Signed [.pointer (some ⟨w0b, 0, none⟩), .int .i64 t28] H7 fun v_3 H8 =>
 v_3 = .tuple ⟨[]⟩ ∧
 ∃ (t32 : Int),
 H8.cell H5.next 1 = some (.int .i64 t32) ∧
 FW Ee F_wire_Writer_Signed [.pointer (some ⟨w0b, 0, none⟩), .int .i64 t32] H8 fun v_4 H9 =>
 v_4 = .tuple ⟨[]⟩ ∧
 ∀ (t34 : Int),
 t34 = IntKind.i64.wrap (t22 + 1) →
 ∃ (m : Nat),
 m < n ∧
 Inv m t34 H9)) (
 Q (.tuple ⟨[]⟩) H5)
set_option maxRecDepth 100000 in
theorem fw_graph_PutVertex {w0b : Nat} {v1_ID : Int} {v1_Value : Int} {v1_Edgesa : Option Addr} {v1_Edgesl : Nat} {v1_Edgesc : Nat} {H : AH} {Q : Value → AH → Prop} (h : VC_graph_PutVertex w0b v1_ID v1_Value v1_Edgesa v1_Edgesl v1_Edgesc H Q) : FW Ee F_graph_PutVertex [.pointer (some ⟨w0b, 0, none⟩), .agg ⟨[.int .i64 v1_ID, .int .i64 v1_Value, .slice v1_Edgesa v1_Edgesl v1_Edgesc]⟩] H Q := by
  have e : VC_graph_PutVertex w0b v1_ID v1_Value v1_Edgesa v1_Edgesl v1_Edgesc H Q = wpF Ee ⟨[], []⟩ F_graph_PutVertex [.pointer (some ⟨w0b, 0, none⟩), .agg ⟨[.int .i64 v1_ID, .int .i64 v1_Value, .slice v1_Edgesa v1_Edgesl v1_Edgesc]⟩] H Q := by kernel_rfl
  letI : Sy := sy0
  exact wpF_sound (Eq.mp e h)
/-- cohort/graph.Put -/
def VC_graph_Put (w0b : Nat) (g1_Verticesa : Option Addr) (g1_Verticesl : Nat) (g1_Verticesc : Nat) (H : AH) (Q : Value → AH → Prop) : Prop :=
 ∀ (H1 : AH),
 H1 = H.new (.cells [.slice g1_Verticesa g1_Verticesl g1_Verticesc] 0) →
 ∃ (t8a : Option Addr) (t8l : Nat) (t8c : Nat),
 H1.cell H.next 0 = some (.slice t8a t8l t8c) ∧
 FW Ee F_wire_Writer_Count [.pointer (some ⟨w0b, 0, none⟩), .int .i64 (((t8l : Nat) : Int))] H1 fun v H2 =>
 v = .tuple ⟨[]⟩ ∧
 ∃ (t12a : Option Addr) (t12l : Nat) (t12c : Nat),
 H2.cell H.next 0 = some (.slice t12a t12l t12c) ∧
 ∃ (Inv : Nat → Int → AH → Prop),
 (
 ∃ (n_1 : Nat),
 Inv n_1 0 H2) ∧
 ∀ (n : Nat),
 ∀ (t14 : Int) (H3 : AH),
 Inv n t14 H3 →
 cond (decide (t14 < (((t12l : Nat) : Int)))) (
 grd t12a.isSome (
 (0 : Int) ≤ t14 ∧
 (t14 : Int) < ((t12l : Nat) : Int) ∧
 ∃ (t17_ID : Int) (t17_Value : Int) (t17_Edgesa : Option Addr) (t17_Edgesl : Nat) (t17_Edgesc : Nat),
 H3.cell ((adr t12a).block) ((adr t12a).off + (t14 : Int).toNat * 3 + 0) = some (.int .i64 t17_ID) ∧
 H3.cell ((adr t12a).block) ((adr t12a).off + (t14 : Int).toNat * 3 + 1) = some (.int .i64 t17_Value) ∧
 H3.cell ((adr t12a).block) ((adr t12a).off + (t14 : Int).toNat * 3 + 2) = some (.slice t17_Edgesa t17_Edgesl t17_Edgesc) ∧
 ∀ (H4 : AH),
 H4 = H3.new (.cells [.int .i64 0, .int .i64 0, .slice none 0 0] 0) →
 ∃ (H5 : AH),
 storeCellsv H4 H3.next 0 [.int .i64 t17_ID, .int .i64 t17_Value, .slice t17_Edgesa t17_Edgesl t17_Edgesc] = some H5 ∧
 ∃ (t19_ID : Int) (t19_Value : Int) (t19_Edgesa : Option Addr) (t19_Edgesl : Nat) (t19_Edgesc : Nat),
 H5.cell H3.next (0 + 0) = some (.int .i64 t19_ID) ∧
 H5.cell H3.next (0 + 1) = some (.int .i64 t19_Value) ∧
 H5.cell H3.next (0 + 2) = some (.slice t19_Edgesa t19_Edgesl t19_Edgesc) ∧
 FW Ee F_graph_PutVertex [.pointer (some ⟨w0b, 0, none⟩), .agg ⟨[.int .i64 t19_ID, .int .i64 t19_Value, .slice t19_Edgesa t19_Edgesl t19_Edgesc]⟩] H5 fun v_1 H6 =>
 v_1 = .tuple ⟨[]⟩ ∧
 ∀ (t21 : Int),
 t21 = IntKind.i64.wrap (t14 + 1) →
 ∃ (m : Nat),
 m < n ∧
 Inv m t21 H6)) (
 Q (.tuple ⟨[]⟩) H3)
set_option maxRecDepth 100000 in
theorem fw_graph_Put {w0b : Nat} {g1_Verticesa : Option Addr} {g1_Verticesl : Nat} {g1_Verticesc : Nat} {H : AH} {Q : Value → AH → Prop} (h : VC_graph_Put w0b g1_Verticesa g1_Verticesl g1_Verticesc H Q) : FW Ee F_graph_Put [.pointer (some ⟨w0b, 0, none⟩), .agg ⟨[.slice g1_Verticesa g1_Verticesl g1_Verticesc]⟩] H Q := by
  have e : VC_graph_Put w0b g1_Verticesa g1_Verticesl g1_Verticesc H Q = wpF Ee ⟨[], []⟩ F_graph_Put [.pointer (some ⟨w0b, 0, none⟩), .agg ⟨[.slice g1_Verticesa g1_Verticesl g1_Verticesc]⟩] H Q := by kernel_rfl
  letI : Sy := sy0
  exact wpF_sound (Eq.mp e h)
/-- cohort/graph.TakeVertex -/
def VC_graph_TakeVertex (r0b : Nat) (H : AH) (Q : Value → AH → Prop) : Prop :=
 ∀ (H1 : AH),
 H1 = H.new (.cells [.int .i64 0, .int .i64 0, .slice none 0 0] 0) →
 FW Ee F_wire_Reader_Signed [.pointer (some ⟨r0b, 0, none⟩)] H1 fun v H2 =>
 ∃ (r6 : Int),
 v = .int .i64 r6 ∧
 FW Ee F_wire_Reader_Signed [.pointer (some ⟨r0b, 0, none⟩)] H2 fun v_1 H3 =>
 ∃ (r8 : Int),
 v_1 = .int .i64 r8 ∧
 ∀ (H4 : AH),
 H4 = H3.new (.cells [.int .i64 0, .int .i64 0, .slice none 0 0] 0) →
 ∃ (H5 : AH),
 storeCellsv H4 H3.next 0 [.int .i64 r6, .int .i64 r8, .slice none 0 0] = some H5 ∧
 FW Ee F_wire_Reader_Count [.pointer (some ⟨r0b, 0, none⟩), .int .i64 2048] H5 fun v_2 H6 =>
 ∃ (r11 : Int),
 v_2 = .int .i64 r11 ∧
 ∃ (Inv : Nat → Int → AH → Prop),
 (
 ∃ (n_1 : Nat),
 Inv n_1 r11 H6) ∧
 ∀ (n : Nat),
 ∀ (n4 : Int) (H7 : AH),
 Inv n n4 H7 →
 cond (decide (n4 > 0)) (
 FW Ee F_wire_Reader_Err [.pointer (some ⟨r0b, 0, none⟩)] H7 fun v_3 H8 =>
 ∃ (r16 : Int),
 v_3 = .int .i64 r16 ∧
 cond (r16 == 0) (
 ∃ (t22a : Option Addr) (t22l : Nat) (t22c : Nat),
 H8.cell H3.next 2 = some (.slice t22a t22l t22c) ∧
 FW Ee F_wire_Reader_Signed [.pointer (some ⟨r0b, 0, none⟩)] H8 fun v_4 H9 =>
 ∃ (r24 : Int),
 v_4 = .int .i64 r24 ∧
 FW Ee F_wire_Reader_Signed [.pointer (some ⟨r0b, 0, none⟩)] H9 fun v_5 H10 =>
 ∃ (r26 : Int),
 v_5 = .int .i64 r26 ∧
 ∀ (H11 : AH),
 H11 = H10.new (.cells [.int .i64 r24, .int .i64 r26] 0) →
 ∃ (t29a : Option Addr) (t29l : Nat) (t29c : Nat) (H12 : AH),
 apnd H11 2 16 t22a t22l t22c (.slice (some ⟨H10.next, 0, none⟩) 1 2) = some (.slice t29a t29l t29c, H12) ∧
 ∃ (H13 : AH),
 storeCellsv H12 H3.next 2 [.slice t29a t29l t29c] = some H13 ∧
 H11.cell H3.next 2 = some (.slice t22a t22l t22c) ∧
 H9.cell H3.next 2 = some (.slice t22a t22l t22c) ∧
 ∀ (t20 : Int),
 t20 = IntKind.i64.wrap (n4 - 1) →
 ∃ (m : Nat),
 m < n ∧
 Inv m t20 H13) (
 ∃ (t31_ID : Int) (t31_Value : Int) (t31_Edgesa : Option Addr) (t31_Edgesl : Nat) (t31_Edgesc : Nat),
 H8.cell H3.next (0 + 0) = some (.int .i64 t31_ID) ∧
 H8.cell H3.next (0 + 1) = some (.int .i64 t31_Value) ∧
 H8.cell H3.next (0 + 2) = some (.slice t31_Edgesa t31_Edgesl t31_Edgesc) ∧
 ∃ (H14 : AH),
 storeCellsv H8 H.next 0 [.int .i64 t31_ID, .int .i64 t31_Value, .slice t31_Edgesa t31_Edgesl t31_Edgesc] = some H14 ∧
 ∃ (r2_ID : Int) (r2_Value : Int) (r2_Edgesa : Option Addr) (r2_Edgesl : Nat) (r2_Edgesc : Nat),
 H14.cell H.next (0 + 0) = some (.int .i64 r2_ID) ∧
 H14.cell H.next (0 + 1) = some (.int .i64 r2_Value) ∧
 H14.cell H.next (0 + 2) = some (.slice r2_Edgesa r2_Edgesl r2_Edgesc) ∧
 Q (.agg ⟨[.int .i64 r2_ID, .int .i64 r2_Value, .slice r2_Edgesa r2_Edgesl r2_Edgesc]⟩) H14)) (
 ∃ (t31_ID_1 : Int) (t31_Value_1 : Int) (t31_Edgesa_1 : Option Addr) (t31_Edgesl_1 : Nat) (t31_Edgesc_1 : Nat),
 H7.cell H3.next (0 + 0) = some (.int .i64 t31_ID_1) ∧
 H7.cell H3.next (0 + 1) = some (.int .i64 t31_Value_1) ∧
 H7.cell H3.next (0 + 2) = some (.slice t31_Edgesa_1 t31_Edgesl_1 t31_Edgesc_1) ∧
 ∃ (H15 : AH),
 storeCellsv H7 H.next 0 [.int .i64 t31_ID_1, .int .i64 t31_Value_1, .slice t31_Edgesa_1 t31_Edgesl_1 t31_Edgesc_1] = some H15 ∧
 ∃ (r2_ID_1 : Int) (r2_Value_1 : Int) (r2_Edgesa_1 : Option Addr) (r2_Edgesl_1 : Nat) (r2_Edgesc_1 : Nat),
 H15.cell H.next (0 + 0) = some (.int .i64 r2_ID_1) ∧
 H15.cell H.next (0 + 1) = some (.int .i64 r2_Value_1) ∧
 H15.cell H.next (0 + 2) = some (.slice r2_Edgesa_1 r2_Edgesl_1 r2_Edgesc_1) ∧
 Q (.agg ⟨[.int .i64 r2_ID_1, .int .i64 r2_Value_1, .slice r2_Edgesa_1 r2_Edgesl_1 r2_Edgesc_1]⟩) H15)
set_option maxRecDepth 100000 in
theorem fw_graph_TakeVertex {r0b : Nat} {H : AH} {Q : Value → AH → Prop} (h : VC_graph_TakeVertex r0b H Q) : FW Ee F_graph_TakeVertex [.pointer (some ⟨r0b, 0, none⟩)] H Q := by
  have e : VC_graph_TakeVertex r0b H Q = wpF Ee ⟨[], []⟩ F_graph_TakeVertex [.pointer (some ⟨r0b, 0, none⟩)] H Q := by kernel_rfl
  letI : Sy := sy0
  exact wpF_sound (Eq.mp e h)
/-- cohort/graph.Take -/
def VC_graph_Take (r0b : Nat) (H : AH) (Q : Value → AH → Prop) : Prop :=
 ∀ (H1 : AH),
 H1 = H.new (.cells [.slice none 0 0] 0) →
 ∀ (H2 : AH),
 H2 = H1.new (.cells [.slice none 0 0] 0) →
 FW Ee F_wire_Reader_Count [.pointer (some ⟨r0b, 0, none⟩), .int .i64 256] H2 fun v H3 =>
 ∃ (r6 : Int),
 v = .int .i64 r6 ∧
 ∃ (Inv : Nat → Int → AH → Prop),
 (
 ∃ (n_1 : Nat),
 Inv n_1 r6 H3) ∧
 ∀ (n : Nat),
 ∀ (n4 : Int) (H4 : AH),
 Inv n n4 H4 →
 cond (decide (n4 > 0)) (
 FW Ee F_wire_Reader_Err [.pointer (some ⟨r0b, 0, none⟩)] H4 fun v_1 H5 =>
 ∃ (r11 : Int),
 v_1 = .int .i64 r11 ∧
 cond (r11 == 0) (
 ∃ (t17a : Option Addr) (t17l : Nat) (t17c : Nat),
 H5.cell H1.next 0 = some (.slice t17a t17l t17c) ∧
 FW Ee F_graph_TakeVertex [.pointer (some ⟨r0b, 0, none⟩)] H5 fun v_2 H6 =>
 ∃ (r19_ID : Int) (r19_Value : Int) (r19_Edgesa : Option Addr) (r19_Edgesl : Nat) (r19_Edgesc : Nat),
 v_2 = .agg ⟨[.int .i64 r19_ID, .int .i64 r19_Value, .slice r19_Edgesa r19_Edgesl r19_Edgesc]⟩ ∧
 ∀ (H7 : AH),
 H7 = H6.new (.cells [.int .i64 r19_ID, .int .i64 r19_Value, .slice r19_Edgesa r19_Edgesl r19_Edgesc] 0) →
 ∃ (t21a : Option Addr) (t21l : Nat) (t21c : Nat) (H8 : AH),
 apnd H7 3 40 t17a t17l t17c (.slice (some ⟨H6.next, 0, none⟩) 1 2) = some (.slice t21a t21l t21c, H8) ∧
 ∃ (H9 : AH),
 storeCellsv H8 H1.next 0 [.slice t21a t21l t21c] = some H9 ∧
 H7.cell H1.next 0 = some (.slice t17a t17l t17c) ∧
 ∀ (t15 : Int),
 t15 = IntKind.i64.wrap (n4 - 1) →
 ∃ (m : Nat),
 m < n ∧
 Inv m t15 H9) (
 FW Ee F_wire_Reader_Err [.pointer (some ⟨r0b, 0, none⟩)] H5 fun v_3 H10 =>
 ∃ (r24 : Int),
 v_3 = .int .i64 r24 ∧
 cond (r24 == 0) (
 ∃ (t27_Verticesa : Option Addr) (t27_Verticesl : Nat) (t27_Verticesc : Nat),
 H10.cell H1.next (0 + 0) = some (.slice t27_Verticesa t27_Verticesl t27_Verticesc) ∧
 FW Ee F_graph_Check [.agg ⟨[.slice t27_Verticesa t27_Verticesl t27_Verticesc]⟩] H10 fun v_4 H11 =>
 ∃ (r28 : Int),
 v_4 = .int .i64 r28 ∧
 FW Ee F_wire_Reader_Fail [.pointer (some ⟨r0b, 0, none⟩), .int .i64 r28] H11 fun v_5 H12 =>
 v_5 = .tuple ⟨[]⟩ ∧
 ∃ (t30_Verticesa : Option Addr) (t30_Verticesl : Nat) (t30_Verticesc : Nat),
 H12.cell H1.next (0 + 0) = some (.slice t30_Verticesa t30_Verticesl t30_Verticesc) ∧
 ∃ (H13 : AH),
 storeCellsv H12 H.next 0 [.slice t30_Verticesa t30_Verticesl t30_Verticesc] = some H13 ∧
 ∃ (r2_Verticesa : Option Addr) (r2_Verticesl : Nat) (r2_Verticesc : Nat),
 H13.cell H.next (0 + 0) = some (.slice r2_Verticesa r2_Verticesl r2_Verticesc) ∧
 Q (.agg ⟨[.slice r2_Verticesa r2_Verticesl r2_Verticesc]⟩) H13) (
 ∃ (t30_Verticesa_1 : Option Addr) (t30_Verticesl_1 : Nat) (t30_Verticesc_1 : Nat),
 H10.cell H1.next (0 + 0) = some (.slice t30_Verticesa_1 t30_Verticesl_1 t30_Verticesc_1) ∧
 ∃ (H14 : AH),
 storeCellsv H10 H.next 0 [.slice t30_Verticesa_1 t30_Verticesl_1 t30_Verticesc_1] = some H14 ∧
 ∃ (r2_Verticesa_1 : Option Addr) (r2_Verticesl_1 : Nat) (r2_Verticesc_1 : Nat),
 H14.cell H.next (0 + 0) = some (.slice r2_Verticesa_1 r2_Verticesl_1 r2_Verticesc_1) ∧
 Q (.agg ⟨[.slice r2_Verticesa_1 r2_Verticesl_1 r2_Verticesc_1]⟩) H14))) (
 FW Ee F_wire_Reader_Err [.pointer (some ⟨r0b, 0, none⟩)] H4 fun v_6 H15 =>
 ∃ (r24_1 : Int),
 v_6 = .int .i64 r24_1 ∧
 cond (r24_1 == 0) (
 ∃ (t27_Verticesa_1 : Option Addr) (t27_Verticesl_1 : Nat) (t27_Verticesc_1 : Nat),
 H15.cell H1.next (0 + 0) = some (.slice t27_Verticesa_1 t27_Verticesl_1 t27_Verticesc_1) ∧
 FW Ee F_graph_Check [.agg ⟨[.slice t27_Verticesa_1 t27_Verticesl_1 t27_Verticesc_1]⟩] H15 fun v_7 H16 =>
 ∃ (r28_1 : Int),
 v_7 = .int .i64 r28_1 ∧
 FW Ee F_wire_Reader_Fail [.pointer (some ⟨r0b, 0, none⟩), .int .i64 r28_1] H16 fun v_8 H17 =>
 v_8 = .tuple ⟨[]⟩ ∧
 ∃ (t30_Verticesa_2 : Option Addr) (t30_Verticesl_2 : Nat) (t30_Verticesc_2 : Nat),
 H17.cell H1.next (0 + 0) = some (.slice t30_Verticesa_2 t30_Verticesl_2 t30_Verticesc_2) ∧
 ∃ (H18 : AH),
 storeCellsv H17 H.next 0 [.slice t30_Verticesa_2 t30_Verticesl_2 t30_Verticesc_2] = some H18 ∧
 ∃ (r2_Verticesa_2 : Option Addr) (r2_Verticesl_2 : Nat) (r2_Verticesc_2 : Nat),
 H18.cell H.next (0 + 0) = some (.slice r2_Verticesa_2 r2_Verticesl_2 r2_Verticesc_2) ∧
 Q (.agg ⟨[.slice r2_Verticesa_2 r2_Verticesl_2 r2_Verticesc_2]⟩) H18) (
 ∃ (t30_Verticesa_3 : Option Addr) (t30_Verticesl_3 : Nat) (t30_Verticesc_3 : Nat),
 H15.cell H1.next (0 + 0) = some (.slice t30_Verticesa_3 t30_Verticesl_3 t30_Verticesc_3) ∧
 ∃ (H19 : AH),
 storeCellsv H15 H.next 0 [.slice t30_Verticesa_3 t30_Verticesl_3 t30_Verticesc_3] = some H19 ∧
 ∃ (r2_Verticesa_3 : Option Addr) (r2_Verticesl_3 : Nat) (r2_Verticesc_3 : Nat),
 H19.cell H.next (0 + 0) = some (.slice r2_Verticesa_3 r2_Verticesl_3 r2_Verticesc_3) ∧
 Q (.agg ⟨[.slice r2_Verticesa_3 r2_Verticesl_3 r2_Verticesc_3]⟩) H19))
set_option maxRecDepth 100000 in
theorem fw_graph_Take {r0b : Nat} {H : AH} {Q : Value → AH → Prop} (h : VC_graph_Take r0b H Q) : FW Ee F_graph_Take [.pointer (some ⟨r0b, 0, none⟩)] H Q := by
  have e : VC_graph_Take r0b H Q = wpF Ee ⟨[], []⟩ F_graph_Take [.pointer (some ⟨r0b, 0, none⟩)] H Q := by kernel_rfl
  letI : Sy := sy0
  exact wpF_sound (Eq.mp e h)
end Go.Proofs.Cx
