/- What calls come to, as formulas: printed by a program. -/
import Derived.Test.YtkegomailfhnpaaGreatVc0
namespace Go.Proofs.Cx
open Go Go.Ev
set_option linter.unusedVariables false
set_option maxRecDepth 100000
/-- cohort/graph.edges -/
def VC_graph_edges (g0_Verticesa : Option Addr) (g0_Verticesl : Nat) (g0_Verticesc : Nat) (v1_ID : Int) (v1_Value : Int) (v1_Edgesa : Option Addr) (v1_Edgesl : Nat) (v1_Edgesc : Nat) (H : AH) (Q : Value → AH → Prop) : Prop :=
  ∀ (H1 : AH),
  H1 = H.new (.cells [.slice g0_Verticesa g0_Verticesl g0_Verticesc] 0) →
  ∀ (H2 : AH),
  H2 = H1.new (.cells [.int .i64 v1_ID, .int .i64 v1_Value, .slice v1_Edgesa v1_Edgesl v1_Edgesc] 0) →
  ∃ (t10a : Option Addr) (t10l : Nat) (t10c : Nat),
  H2.cell H1.next 2 = some (.slice t10a t10l t10c) ∧
  ∃ (Inv : Nat → Bool → Int → AH → Prop),
  (
    ∃ (n_1 : Nat),
    Inv n_1 false 0 H2) ∧
  ∀ (n : Nat),
  ∀ (t4 : Bool) (t12 : Int) (H3 : AH),
  Inv n t4 t12 H3 →
  cond (decide (t12 < (((t10l : Nat) : Int)))) (
    grd t10a.isSome (
      (0 : Int) ≤ t12 ∧
      (t12 : Int) < ((t10l : Nat) : Int) ∧
      ∃ (t16_To : Int) (t16_Weight : Int),
      H3.cell ((adr t10a).block) ((adr t10a).off + (t12 : Int).toNat * 2 + 0) = some (.int .i64 t16_To) ∧
      H3.cell ((adr t10a).block) ((adr t10a).off + (t12 : Int).toNat * 2 + 1) = some (.int .i64 t16_Weight) ∧
      ∀ (H4 : AH),
      H4 = H3.new (.cells [.int .i64 0, .int .i64 0] 0) →
      ∃ (H5 : AH),
      storeCellsv H4 H3.next 0 [.int .i64 t16_To, .int .i64 t16_Weight] = some H5 ∧
      ∃ (t18_Verticesa : Option Addr) (t18_Verticesl : Nat) (t18_Verticesc : Nat),
      H5.cell H.next (0 + 0) = some (.slice t18_Verticesa t18_Verticesl t18_Verticesc) ∧
      ∃ (t20 : Int),
      H5.cell H3.next 0 = some (.int .i64 t20) ∧
      FW Ee F_graph_Find [.agg ⟨[.slice t18_Verticesa t18_Verticesl t18_Verticesc]⟩, .int .i64 t20] H5 fun v H6 =>
        ∃ (r21_0 : Int) (r21_1 : Bool),
        v = .tuple ⟨[.int .i64 r21_0, .bool r21_1]⟩ ∧
        cond (!r21_1) (
          Q (.bool false) H6) (
          cond (decide (t12 > 0)) (
            ∃ (t31a : Option Addr) (t31l : Nat) (t31c : Nat),
            H6.cell H1.next 2 = some (.slice t31a t31l t31c) ∧
            ∀ (t33 : Int),
            t33 = IntKind.i64.wrap (t12 - 1) →
            grd t31a.isSome (
              (0 : Int) ≤ t33 ∧
              (t33 : Int) < ((t31l : Nat) : Int) ∧
              ∃ (t36 : Int),
              H6.cell ((adr t31a).block) ((adr t31a).off + (t33 : Int).toNat * 2) = some (.int .i64 t36) ∧
              ∃ (t38 : Int),
              H6.cell H3.next 0 = some (.int .i64 t38) ∧
              cond (decide (t36 ≥ t38)) (
                Q (.bool false) H6) (
                ∀ (t42 : Int),
                t42 = IntKind.i64.wrap (t12 + 1) →
                ∃ (m : Nat),
                m < n ∧
                Inv m t4 t42 H6))) (
            ∀ (t42_1 : Int),
            t42_1 = IntKind.i64.wrap (t12 + 1) →
            ∃ (m : Nat),
            m < n ∧
            Inv m t4 t42_1 H6)))) (
    Q (.bool true) H3)
set_option maxRecDepth 100000 in
theorem fw_graph_edges {g0_Verticesa : Option Addr} {g0_Verticesl : Nat} {g0_Verticesc : Nat} {v1_ID : Int} {v1_Value : Int} {v1_Edgesa : Option Addr} {v1_Edgesl : Nat} {v1_Edgesc : Nat} {H : AH} {Q : Value → AH → Prop} (h : VC_graph_edges g0_Verticesa g0_Verticesl g0_Verticesc v1_ID v1_Value v1_Edgesa v1_Edgesl v1_Edgesc H Q) : FW Ee F_graph_edges [.agg ⟨[.slice g0_Verticesa g0_Verticesl g0_Verticesc]⟩, .agg ⟨[.int .i64 v1_ID, .int .i64 v1_Value, .slice v1_Edgesa v1_Edgesl v1_Edgesc]⟩] H Q := by
  have e : VC_graph_edges g0_Verticesa g0_Verticesl g0_Verticesc v1_ID v1_Value v1_Edgesa v1_Edgesl v1_Edgesc H Q = wpF Ee ⟨[], []⟩ F_graph_edges [.agg ⟨[.slice g0_Verticesa g0_Verticesl g0_Verticesc]⟩, .agg ⟨[.int .i64 v1_ID, .int .i64 v1_Value, .slice v1_Edgesa v1_Edgesl v1_Edgesc]⟩] H Q := by kernel_rfl
  letI : Sy := sy0
  exact wpF_sound (Eq.mp e h)
/-- cohort/graph.Edges -/
def VC_graph_Edges (g0_Verticesa : Option Addr) (g0_Verticesl : Nat) (g0_Verticesc : Nat) (H : AH) (Q : Value → AH → Prop) : Prop :=
  ∀ (H1 : AH),
  H1 = H.new (.cells [.slice g0_Verticesa g0_Verticesl g0_Verticesc] 0) →
  ∀ (H2 : AH),
  H2 = H1.new (.cells [.int .i64 0] 0) →
  ∃ (H3 : AH),
  storeCellsv H2 H1.next 0 [.int .i64 0] = some H3 ∧
  ∃ (t4_Verticesa : Option Addr) (t4_Verticesl : Nat) (t4_Verticesc : Nat),
  H3.cell H.next (0 + 0) = some (.slice t4_Verticesa t4_Verticesl t4_Verticesc) ∧
  FW Ee F_graph_All [.agg ⟨[.slice t4_Verticesa t4_Verticesl t4_Verticesc]⟩] H3 fun v H4 =>
    ∃ (b5 : Nat),
    v = .func (.func F_graph_All_1) ⟨[]⟩ ⟨[.pointer (some ⟨b5, 0, none⟩)]⟩ ∧
    ∀ (L : ALoop),
    RdL 11 Ee.g [(3, .pointer (some ⟨H1.next, 0, none⟩))] (rfOf Ee F_graph_Edges 0) L →
    L.st = .ready →
    L.pend = none →
    FW Ee F_graph_All_1 [.func (.yield H4.next) ⟨[]⟩ ⟨[]⟩, .pointer (some ⟨b5, 0, none⟩)] (H4.new (.loop L)) fun _ H5 =>
      ∃ (L_1 : ALoop),
      H5.get H4.next = some (.loop L_1) ∧
      L_1.st ≠ .busy ∧
      match L_1.pend with
      | none =>
        ∃ (t10_1 : Int),
        (H5.set H4.next (.loop { L_1 with st := .exhausted })).cell H1.next 0 = some (.int .i64 t10_1) ∧
        Q (.int .i64 t10_1) ((H5.set H4.next (.loop { L_1 with st := .exhausted })))
      | some (.exit i) =>
        cond (Nat.beq i 0) (
          ∃ (t10 : Int),
          (H5.set H4.next (.loop { L_1 with st := .exhausted })).cell H1.next 0 = some (.int .i64 t10) ∧
          Q (.int .i64 t10) ((H5.set H4.next (.loop { L_1 with st := .exhausted })))) (
          False)
      | some .ret =>
        Q (.int .i64 0) ((H5.set H4.next (.loop { L_1 with st := .exhausted })))
      | _ =>
        False
set_option maxRecDepth 100000 in
theorem fw_graph_Edges {g0_Verticesa : Option Addr} {g0_Verticesl : Nat} {g0_Verticesc : Nat} {H : AH} {Q : Value → AH → Prop} (h : VC_graph_Edges g0_Verticesa g0_Verticesl g0_Verticesc H Q) : FW Ee F_graph_Edges [.agg ⟨[.slice g0_Verticesa g0_Verticesl g0_Verticesc]⟩] H Q := by
  have e : VC_graph_Edges g0_Verticesa g0_Verticesl g0_Verticesc H Q = wpF Ee ⟨[], []⟩ F_graph_Edges [.agg ⟨[.slice g0_Verticesa g0_Verticesl g0_Verticesc]⟩] H Q := by kernel_rfl
  letI : Sy := sy0
  exact wpF_sound (Eq.mp e h)
/-- cohort/graph.Edges: a round -/
def VC_graph_Edges_r0 (n3b : Nat) (n3o : Nat) (p6 : Int) (p7_To : Int) (p7_Weight : Int) (l : Nat) (H : AH) (Q : Value → AH → Prop) : Prop :=
  ∃ (L : ALoop),
  H.get l = some (.loop L) ∧
  L.st = .ready ∧
  L.body = (rfOf Ee F_graph_Edges 0).2.2 ∧
  ∃ (t8 : Int),
  (H.set l (.loop { L with st := .busy })).cell n3b n3o = some (.int .i64 t8) ∧
  ∀ (t9 : Int),
  t9 = IntKind.i64.wrap (t8 + 1) →
  ∃ (H1 : AH),
  storeCellsv ((H.set l (.loop { L with st := .busy }))) n3b n3o [.int .i64 t9] = some H1 ∧
  ∃ (L_1 : ALoop),
  H1.get l = some (.loop L_1) ∧
  Q (.bool true) (H1.set l (.loop { L_1 with st := .ready, pend := none }))
set_option maxRecDepth 100000 in
theorem rw_graph_Edges_r0 {n3b : Nat} {n3o : Nat} {p6 : Int} {p7_To : Int} {p7_Weight : Int} {l : Nat} {H : AH} {Q : Value → AH → Prop} {L : ALoop} (hl : H.get l = some (.loop L)) (hR : RdL 11 Ee.g [(3, .pointer (some ⟨n3b, n3o, none⟩))] (rfOf Ee F_graph_Edges 0) L) (h : VC_graph_Edges_r0 n3b n3o p6 p7_To p7_Weight l H Q) : RW Ee l [.int .i64 p6, .agg ⟨[.int .i64 p7_To, .int .i64 p7_Weight]⟩] H Q := by
  have e : VC_graph_Edges_r0 n3b n3o p6 p7_To p7_Weight l H Q = wpRound Ee ⟨[], []⟩ (frm 11 Ee.g [(3, .pointer (some ⟨n3b, n3o, none⟩))]) (rfOf Ee F_graph_Edges 0).1 (rfOf Ee F_graph_Edges 0).2.1 (rfOf Ee F_graph_Edges 0).2.2 l [.int .i64 p6, .agg ⟨[.int .i64 p7_To, .int .i64 p7_Weight]⟩] H Q := by kernel_rfl
  letI : Sy := sy0
  exact wpRoundR_sound hl hR (Eq.mp e h)
/-- cohort/graph.Check -/
def VC_graph_Check (g0_Verticesa : Option Addr) (g0_Verticesl : Nat) (g0_Verticesc : Nat) (H : AH) (Q : Value → AH → Prop) : Prop :=
  ∀ (H1 : AH),
  H1 = H.new (.cells [.slice g0_Verticesa g0_Verticesl g0_Verticesc] 0) →
  ∃ (t8a : Option Addr) (t8l : Nat) (t8c : Nat),
  H1.cell H.next 0 = some (.slice t8a t8l t8c) ∧
  cond (decide ((((t8l : Nat) : Int)) > 256)) (
    Q (.int .i64 30) H1) (
    ∃ (t12a : Option Addr) (t12l : Nat) (t12c : Nat),
    H1.cell H.next 0 = some (.slice t12a t12l t12c) ∧
    ∃ (Inv : Nat → Int → Int → AH → Prop),
    (
      ∃ (n_1 : Nat),
      Inv n_1 0 0 H1) ∧
    ∀ (n : Nat),
    ∀ (t2 : Int) (t14 : Int) (H2 : AH),
    Inv n t2 t14 H2 →
    cond (decide (t14 < (((t12l : Nat) : Int)))) (
      grd t12a.isSome (
        (0 : Int) ≤ t14 ∧
        (t14 : Int) < ((t12l : Nat) : Int) ∧
        ∃ (t18_ID : Int) (t18_Value : Int) (t18_Edgesa : Option Addr) (t18_Edgesl : Nat) (t18_Edgesc : Nat),
        H2.cell ((adr t12a).block) ((adr t12a).off + (t14 : Int).toNat * 3 + 0) = some (.int .i64 t18_ID) ∧
        H2.cell ((adr t12a).block) ((adr t12a).off + (t14 : Int).toNat * 3 + 1) = some (.int .i64 t18_Value) ∧
        H2.cell ((adr t12a).block) ((adr t12a).off + (t14 : Int).toNat * 3 + 2) = some (.slice t18_Edgesa t18_Edgesl t18_Edgesc) ∧
        ∀ (H3 : AH),
        H3 = H2.new (.cells [.int .i64 0, .int .i64 0, .slice none 0 0] 0) →
        ∃ (H4 : AH),
        storeCellsv H3 H2.next 0 [.int .i64 t18_ID, .int .i64 t18_Value, .slice t18_Edgesa t18_Edgesl t18_Edgesc] = some H4 ∧
        cond (decide (t14 > 0)) (
          ∃ (t23a : Option Addr) (t23l : Nat) (t23c : Nat),
          H4.cell H.next 0 = some (.slice t23a t23l t23c) ∧
          ∀ (t25 : Int),
          t25 = IntKind.i64.wrap (t14 - 1) →
          grd t23a.isSome (
            (0 : Int) ≤ t25 ∧
            (t25 : Int) < ((t23l : Nat) : Int) ∧
            ∃ (t28 : Int),
            H4.cell ((adr t23a).block) ((adr t23a).off + (t25 : Int).toNat * 3) = some (.int .i64 t28) ∧
            ∃ (t30 : Int),
            H4.cell H2.next 0 = some (.int .i64 t30) ∧
            cond (decide (t28 ≥ t30)) (
              Q (.int .i64 30) H4) (
              ∀ (t33 : Int),
              t33 = IntKind.i64.wrap (t14 + 1) →
              ∃ (m : Nat),
              m < n ∧
              Inv m t2 t33 H4))) (
          ∀ (t33_1 : Int),
          t33_1 = IntKind.i64.wrap (t14 + 1) →
          ∃ (m : Nat),
          m < n ∧
          Inv m t2 t33_1 H4))) (
      ∃ (t34_Verticesa : Option Addr) (t34_Verticesl : Nat) (t34_Verticesc : Nat),
      H2.cell H.next (0 + 0) = some (.slice t34_Verticesa t34_Verticesl t34_Verticesc) ∧
      FW Ee F_graph_Edges [.agg ⟨[.slice t34_Verticesa t34_Verticesl t34_Verticesc]⟩] H2 fun v H5 =>
        ∃ (r35 : Int),
        v = .int .i64 r35 ∧
        cond (decide (r35 > 2048)) (
          Q (.int .i64 31) H5) (
          ∃ (t38a : Option Addr) (t38l : Nat) (t38c : Nat),
          H5.cell H.next 0 = some (.slice t38a t38l t38c) ∧
          ∃ (Inv_1 : Nat → Int → Int → AH → Prop),
          (
            ∃ (n_3 : Nat),
            Inv_1 n_3 t2 0 H5) ∧
          ∀ (n_2 : Nat),
          ∀ (t2_1 : Int) (t40 : Int) (H6 : AH),
          Inv_1 n_2 t2_1 t40 H6 →
          cond (decide (t40 < (((t38l : Nat) : Int)))) (
            grd t38a.isSome (
              (0 : Int) ≤ t40 ∧
              (t40 : Int) < ((t38l : Nat) : Int) ∧
              ∃ (t43_ID : Int) (t43_Value : Int) (t43_Edgesa : Option Addr) (t43_Edgesl : Nat) (t43_Edgesc : Nat),
              H6.cell ((adr t38a).block) ((adr t38a).off + (t40 : Int).toNat * 3 + 0) = some (.int .i64 t43_ID) ∧
              H6.cell ((adr t38a).block) ((adr t38a).off + (t40 : Int).toNat * 3 + 1) = some (.int .i64 t43_Value) ∧
              H6.cell ((adr t38a).block) ((adr t38a).off + (t40 : Int).toNat * 3 + 2) = some (.slice t43_Edgesa t43_Edgesl t43_Edgesc) ∧
              ∀ (H7 : AH),
              H7 = H6.new (.cells [.int .i64 0, .int .i64 0, .slice none 0 0] 0) →
              ∃ (H8 : AH),
              storeCellsv H7 H6.next 0 [.int .i64 t43_ID, .int .i64 t43_Value, .slice t43_Edgesa t43_Edgesl t43_Edgesc] = some H8 ∧
              ∃ (t44_Verticesa : Option Addr) (t44_Verticesl : Nat) (t44_Verticesc : Nat),
              H8.cell H.next (0 + 0) = some (.slice t44_Verticesa t44_Verticesl t44_Verticesc) ∧
              ∃ (t45_ID : Int) (t45_Value : Int) (t45_Edgesa : Option Addr) (t45_Edgesl : Nat) (t45_Edgesc : Nat),
              H8.cell H6.next (0 + 0) = some (.int .i64 t45_ID) ∧
              H8.cell H6.next (0 + 1) = some (.int .i64 t45_Value) ∧
              H8.cell H6.next (0 + 2) = some (.slice t45_Edgesa t45_Edgesl t45_Edgesc) ∧
              FW Ee F_graph_edges [.agg ⟨[.slice t44_Verticesa t44_Verticesl t44_Verticesc]⟩, .agg ⟨[.int .i64 t45_ID, .int .i64 t45_Value, .slice t45_Edgesa t45_Edgesl t45_Edgesc]⟩] H8 fun v_1 H9 =>
                ∃ (r46 : Bool),
                v_1 = .bool r46 ∧
                cond (!r46) (
                  Q (.int .i64 31) H9) (
                  ∀ (t48 : Int),
                  t48 = IntKind.i64.wrap (t40 + 1) →
                  ∃ (m_1 : Nat),
                  m_1 < n_2 ∧
                  Inv_1 m_1 t2_1 t48 H9))) (
            Q (.int .i64 0) H6))))
set_option maxRecDepth 100000 in
theorem fw_graph_Check {g0_Verticesa : Option Addr} {g0_Verticesl : Nat} {g0_Verticesc : Nat} {H : AH} {Q : Value → AH → Prop} (h : VC_graph_Check g0_Verticesa g0_Verticesl g0_Verticesc H Q) : FW Ee F_graph_Check [.agg ⟨[.slice g0_Verticesa g0_Verticesl g0_Verticesc]⟩] H Q := by
  have e : VC_graph_Check g0_Verticesa g0_Verticesl g0_Verticesc H Q = wpF Ee ⟨[], []⟩ F_graph_Check [.agg ⟨[.slice g0_Verticesa g0_Verticesl g0_Verticesc]⟩] H Q := by kernel_rfl
  letI : Sy := sy0
  exact wpF_sound (Eq.mp e h)
/-- cohort/graph.PutVertex -/
def VC_graph_PutVertex (w0b : Nat) (v1_ID : Int) (v1_Value : Int) (v1_Edgesa : Option Addr) (v1_Edgesl : Nat) (v1_Edgesc : Nat) (H : AH) (Q : Value → AH → Prop) : Prop :=
  ∀ (H1 : AH),
  H1 = H.new (.cells [.int .i64 v1_ID, .int .i64 v1_Value, .slice v1_Edgesa v1_Edgesl v1_Edgesc] 0) →
  ∃ (t8 : Int),
  H1.cell H.next 0 = some (.int .i64 t8) ∧
  FW Ee F_wire_Writer_Signed [.pointer (some ⟨w0b, 0, none⟩), .int .i64 t8] H1 fun v H2 =>
    v = .tuple ⟨[]⟩ ∧
    ∃ (t12 : Int),
    H2.cell H.next 1 = some (.int .i64 t12) ∧
    FW Ee F_wire_Writer_Signed [.pointer (some ⟨w0b, 0, none⟩), .int .i64 t12] H2 fun v_1 H3 =>
      v_1 = .tuple ⟨[]⟩ ∧
      ∃ (t16a : Option Addr) (t16l : Nat) (t16c : Nat),
      H3.cell H.next 2 = some (.slice t16a t16l t16c) ∧
      FW Ee F_wire_Writer_Count [.pointer (some ⟨w0b, 0, none⟩), .int .i64 (((t16l : Nat) : Int))] H3 fun v_2 H4 =>
        v_2 = .tuple ⟨[]⟩ ∧
        ∃ (t20a : Option Addr) (t20l : Nat) (t20c : Nat),
        H4.cell H.next 2 = some (.slice t20a t20l t20c) ∧
        ∃ (Inv : Nat → Int → AH → Prop),
        (
          ∃ (n_1 : Nat),
          Inv n_1 0 H4) ∧
        ∀ (n : Nat),
        ∀ (t22 : Int) (H5 : AH),
        Inv n t22 H5 →
        cond (decide (t22 < (((t20l : Nat) : Int)))) (
          grd t20a.isSome (
            (0 : Int) ≤ t22 ∧
            (t22 : Int) < ((t20l : Nat) : Int) ∧
            ∃ (t25_To : Int) (t25_Weight : Int),
            H5.cell ((adr t20a).block) ((adr t20a).off + (t22 : Int).toNat * 2 + 0) = some (.int .i64 t25_To) ∧
            H5.cell ((adr t20a).block) ((adr t20a).off + (t22 : Int).toNat * 2 + 1) = some (.int .i64 t25_Weight) ∧
            ∀ (H6 : AH),
            H6 = H5.new (.cells [.int .i64 0, .int .i64 0] 0) →
            ∃ (H7 : AH),
            storeCellsv H6 H5.next 0 [.int .i64 t25_To, .int .i64 t25_Weight] = some H7 ∧
            ∃ (t28 : Int),
            H7.cell H5.next 0 = some (.int .i64 t28) ∧
            FW Ee F_wire_Writer_Signed [.pointer (some ⟨w0b, 0, none⟩), .int .i64 t28] H7 fun v_3 H8 =>
              v_3 = .tuple ⟨[]⟩ ∧
              ∃ (t32 : Int),
              H8.cell H5.next 1 = some (.int .i64 t32) ∧
              FW Ee F_wire_Writer_Signed [.pointer (some ⟨w0b, 0, none⟩), .int .i64 t32] H8 fun v_4 H9 =>
                v_4 = .tuple ⟨[]⟩ ∧
                ∀ (t34 : Int),
                t34 = IntKind.i64.wrap (t22 + 1) →
                ∃ (m : Nat),
                m < n ∧
                Inv m t34 H9)) (
          Q (.tuple ⟨[]⟩) H5)
set_option maxRecDepth 100000 in
theorem fw_graph_PutVertex {w0b : Nat} {v1_ID : Int} {v1_Value : Int} {v1_Edgesa : Option Addr} {v1_Edgesl : Nat} {v1_Edgesc : Nat} {H : AH} {Q : Value → AH → Prop} (h : VC_graph_PutVertex w0b v1_ID v1_Value v1_Edgesa v1_Edgesl v1_Edgesc H Q) : FW Ee F_graph_PutVertex [.pointer (some ⟨w0b, 0, none⟩), .agg ⟨[.int .i64 v1_ID, .int .i64 v1_Value, .slice v1_Edgesa v1_Edgesl v1_Edgesc]⟩] H Q := by
  have e : VC_graph_PutVertex w0b v1_ID v1_Value v1_Edgesa v1_Edgesl v1_Edgesc H Q = wpF Ee ⟨[], []⟩ F_graph_PutVertex [.pointer (some ⟨w0b, 0, none⟩), .agg ⟨[.int .i64 v1_ID, .int .i64 v1_Value, .slice v1_Edgesa v1_Edgesl v1_Edgesc]⟩] H Q := by kernel_rfl
  letI : Sy := sy0
  exact wpF_sound (Eq.mp e h)
/-- cohort/graph.Put -/
def VC_graph_Put (w0b : Nat) (g1_Verticesa : Option Addr) (g1_Verticesl : Nat) (g1_Verticesc : Nat) (H : AH) (Q : Value → AH → Prop) : Prop :=
  ∀ (H1 : AH),
  H1 = H.new (.cells [.slice g1_Verticesa g1_Verticesl g1_Verticesc] 0) →
  ∃ (t8a : Option Addr) (t8l : Nat) (t8c : Nat),
  H1.cell H.next 0 = some (.slice t8a t8l t8c) ∧
  FW Ee F_wire_Writer_Count [.pointer (some ⟨w0b, 0, none⟩), .int .i64 (((t8l : Nat) : Int))] H1 fun v H2 =>
    v = .tuple ⟨[]⟩ ∧
    ∃ (t12a : Option Addr) (t12l : Nat) (t12c : Nat),
    H2.cell H.next 0 = some (.slice t12a t12l t12c) ∧
    ∃ (Inv : Nat → Int → AH → Prop),
    (
      ∃ (n_1 : Nat),
      Inv n_1 0 H2) ∧
    ∀ (n : Nat),
    ∀ (t14 : Int) (H3 : AH),
    Inv n t14 H3 →
    cond (decide (t14 < (((t12l : Nat) : Int)))) (
      grd t12a.isSome (
        (0 : Int) ≤ t14 ∧
        (t14 : Int) < ((t12l : Nat) : Int) ∧
        ∃ (t17_ID : Int) (t17_Value : Int) (t17_Edgesa : Option Addr) (t17_Edgesl : Nat) (t17_Edgesc : Nat),
        H3.cell ((adr t12a).block) ((adr t12a).off + (t14 : Int).toNat * 3 + 0) = some (.int .i64 t17_ID) ∧
        H3.cell ((adr t12a).block) ((adr t12a).off + (t14 : Int).toNat * 3 + 1) = some (.int .i64 t17_Value) ∧
        H3.cell ((adr t12a).block) ((adr t12a).off + (t14 : Int).toNat * 3 + 2) = some (.slice t17_Edgesa t17_Edgesl t17_Edgesc) ∧
        ∀ (H4 : AH),
        H4 = H3.new (.cells [.int .i64 0, .int .i64 0, .slice none 0 0] 0) →
        ∃ (H5 : AH),
        storeCellsv H4 H3.next 0 [.int .i64 t17_ID, .int .i64 t17_Value, .slice t17_Edgesa t17_Edgesl t17_Edgesc] = some H5 ∧
        ∃ (t19_ID : Int) (t19_Value : Int) (t19_Edgesa : Option Addr) (t19_Edgesl : Nat) (t19_Edgesc : Nat),
        H5.cell H3.next (0 + 0) = some (.int .i64 t19_ID) ∧
        H5.cell H3.next (0 + 1) = some (.int .i64 t19_Value) ∧
        H5.cell H3.next (0 + 2) = some (.slice t19_Edgesa t19_Edgesl t19_Edgesc) ∧
        FW Ee F_graph_PutVertex [.pointer (some ⟨w0b, 0, none⟩), .agg ⟨[.int .i64 t19_ID, .int .i64 t19_Value, .slice t19_Edgesa t19_Edgesl t19_Edgesc]⟩] H5 fun v_1 H6 =>
          v_1 = .tuple ⟨[]⟩ ∧
          ∀ (t21 : Int),
          t21 = IntKind.i64.wrap (t14 + 1) →
          ∃ (m : Nat),
          m < n ∧
          Inv m t21 H6)) (
      Q (.tuple ⟨[]⟩) H3)
set_option maxRecDepth 100000 in
theorem fw_graph_Put {w0b : Nat} {g1_Verticesa : Option Addr} {g1_Verticesl : Nat} {g1_Verticesc : Nat} {H : AH} {Q : Value → AH → Prop} (h : VC_graph_Put w0b g1_Verticesa g1_Verticesl g1_Verticesc H Q) : FW Ee F_graph_Put [.pointer (some ⟨w0b, 0, none⟩), .agg ⟨[.slice g1_Verticesa g1_Verticesl g1_Verticesc]⟩] H Q := by
  have e : VC_graph_Put w0b g1_Verticesa g1_Verticesl g1_Verticesc H Q = wpF Ee ⟨[], []⟩ F_graph_Put [.pointer (some ⟨w0b, 0, none⟩), .agg ⟨[.slice g1_Verticesa g1_Verticesl g1_Verticesc]⟩] H Q := by kernel_rfl
  letI : Sy := sy0
  exact wpF_sound (Eq.mp e h)
/-- cohort/graph.TakeVertex -/
def VC_graph_TakeVertex (r0b : Nat) (H : AH) (Q : Value → AH → Prop) : Prop :=
  ∀ (H1 : AH),
  H1 = H.new (.cells [.int .i64 0, .int .i64 0, .slice none 0 0] 0) →
  FW Ee F_wire_Reader_Signed [.pointer (some ⟨r0b, 0, none⟩)] H1 fun v H2 =>
    ∃ (r6 : Int),
    v = .int .i64 r6 ∧
    FW Ee F_wire_Reader_Signed [.pointer (some ⟨r0b, 0, none⟩)] H2 fun v_1 H3 =>
      ∃ (r8 : Int),
      v_1 = .int .i64 r8 ∧
      ∀ (H4 : AH),
      H4 = H3.new (.cells [.int .i64 0, .int .i64 0, .slice none 0 0] 0) →
      ∃ (H5 : AH),
      storeCellsv H4 H3.next 0 [.int .i64 r6, .int .i64 r8, .slice none 0 0] = some H5 ∧
      FW Ee F_wire_Reader_Count [.pointer (some ⟨r0b, 0, none⟩), .int .i64 2048] H5 fun v_2 H6 =>
        ∃ (r11 : Int),
        v_2 = .int .i64 r11 ∧
        ∃ (Inv : Nat → Int → AH → Prop),
        (
          ∃ (n_1 : Nat),
          Inv n_1 r11 H6) ∧
        ∀ (n : Nat),
        ∀ (n4 : Int) (H7 : AH),
        Inv n n4 H7 →
        cond (decide (n4 > 0)) (
          FW Ee F_wire_Reader_Err [.pointer (some ⟨r0b, 0, none⟩)] H7 fun v_3 H8 =>
            ∃ (r16 : Int),
            v_3 = .int .i64 r16 ∧
            cond (r16 == 0) (
              ∃ (t22a : Option Addr) (t22l : Nat) (t22c : Nat),
              H8.cell H3.next 2 = some (.slice t22a t22l t22c) ∧
              FW Ee F_wire_Reader_Signed [.pointer (some ⟨r0b, 0, none⟩)] H8 fun v_4 H9 =>
                ∃ (r24 : Int),
                v_4 = .int .i64 r24 ∧
                FW Ee F_wire_Reader_Signed [.pointer (some ⟨r0b, 0, none⟩)] H9 fun v_5 H10 =>
                  ∃ (r26 : Int),
                  v_5 = .int .i64 r26 ∧
                  ∀ (H11 : AH),
                  H11 = H10.new (.cells [.int .i64 r24, .int .i64 r26] 0) →
                  ∃ (t29a : Option Addr) (t29l : Nat) (t29c : Nat) (H12 : AH),
                  apnd H11 2 16 t22a t22l t22c (.slice (some ⟨H10.next, 0, none⟩) 1 2) = some (.slice t29a t29l t29c, H12) ∧
                  ∃ (H13 : AH),
                  storeCellsv H12 H3.next 2 [.slice t29a t29l t29c] = some H13 ∧
                  H11.cell H3.next 2 = some (.slice t22a t22l t22c) ∧
                  H9.cell H3.next 2 = some (.slice t22a t22l t22c) ∧
                  ∀ (t20 : Int),
                  t20 = IntKind.i64.wrap (n4 - 1) →
                  ∃ (m : Nat),
                  m < n ∧
                  Inv m t20 H13) (
              ∃ (t31_ID : Int) (t31_Value : Int) (t31_Edgesa : Option Addr) (t31_Edgesl : Nat) (t31_Edgesc : Nat),
              H8.cell H3.next (0 + 0) = some (.int .i64 t31_ID) ∧
              H8.cell H3.next (0 + 1) = some (.int .i64 t31_Value) ∧
              H8.cell H3.next (0 + 2) = some (.slice t31_Edgesa t31_Edgesl t31_Edgesc) ∧
              ∃ (H14 : AH),
              storeCellsv H8 H.next 0 [.int .i64 t31_ID, .int .i64 t31_Value, .slice t31_Edgesa t31_Edgesl t31_Edgesc] = some H14 ∧
              ∃ (r2_ID : Int) (r2_Value : Int) (r2_Edgesa : Option Addr) (r2_Edgesl : Nat) (r2_Edgesc : Nat),
              H14.cell H.next (0 + 0) = some (.int .i64 r2_ID) ∧
              H14.cell H.next (0 + 1) = some (.int .i64 r2_Value) ∧
              H14.cell H.next (0 + 2) = some (.slice r2_Edgesa r2_Edgesl r2_Edgesc) ∧
              Q (.agg ⟨[.int .i64 r2_ID, .int .i64 r2_Value, .slice r2_Edgesa r2_Edgesl r2_Edgesc]⟩) H14)) (
          ∃ (t31_ID_1 : Int) (t31_Value_1 : Int) (t31_Edgesa_1 : Option Addr) (t31_Edgesl_1 : Nat) (t31_Edgesc_1 : Nat),
          H7.cell H3.next (0 + 0) = some (.int .i64 t31_ID_1) ∧
          H7.cell H3.next (0 + 1) = some (.int .i64 t31_Value_1) ∧
          H7.cell H3.next (0 + 2) = some (.slice t31_Edgesa_1 t31_Edgesl_1 t31_Edgesc_1) ∧
          ∃ (H15 : AH),
          storeCellsv H7 H.next 0 [.int .i64 t31_ID_1, .int .i64 t31_Value_1, .slice t31_Edgesa_1 t31_Edgesl_1 t31_Edgesc_1] = some H15 ∧
          ∃ (r2_ID_1 : Int) (r2_Value_1 : Int) (r2_Edgesa_1 : Option Addr) (r2_Edgesl_1 : Nat) (r2_Edgesc_1 : Nat),
          H15.cell H.next (0 + 0) = some (.int .i64 r2_ID_1) ∧
          H15.cell H.next (0 + 1) = some (.int .i64 r2_Value_1) ∧
          H15.cell H.next (0 + 2) = some (.slice r2_Edgesa_1 r2_Edgesl_1 r2_Edgesc_1) ∧
          Q (.agg ⟨[.int .i64 r2_ID_1, .int .i64 r2_Value_1, .slice r2_Edgesa_1 r2_Edgesl_1 r2_Edgesc_1]⟩) H15)
set_option maxRecDepth 100000 in
theorem fw_graph_TakeVertex {r0b : Nat} {H : AH} {Q : Value → AH → Prop} (h : VC_graph_TakeVertex r0b H Q) : FW Ee F_graph_TakeVertex [.pointer (some ⟨r0b, 0, none⟩)] H Q := by
  have e : VC_graph_TakeVertex r0b H Q = wpF Ee ⟨[], []⟩ F_graph_TakeVertex [.pointer (some ⟨r0b, 0, none⟩)] H Q := by kernel_rfl
  letI : Sy := sy0
  exact wpF_sound (Eq.mp e h)
/-- cohort/graph.Take -/
def VC_graph_Take (r0b : Nat) (H : AH) (Q : Value → AH → Prop) : Prop :=
  ∀ (H1 : AH),
  H1 = H.new (.cells [.slice none 0 0] 0) →
  ∀ (H2 : AH),
  H2 = H1.new (.cells [.slice none 0 0] 0) →
  FW Ee F_wire_Reader_Count [.pointer (some ⟨r0b, 0, none⟩), .int .i64 256] H2 fun v H3 =>
    ∃ (r6 : Int),
    v = .int .i64 r6 ∧
    ∃ (Inv : Nat → Int → AH → Prop),
    (
      ∃ (n_1 : Nat),
      Inv n_1 r6 H3) ∧
    ∀ (n : Nat),
    ∀ (n4 : Int) (H4 : AH),
    Inv n n4 H4 →
    cond (decide (n4 > 0)) (
      FW Ee F_wire_Reader_Err [.pointer (some ⟨r0b, 0, none⟩)] H4 fun v_1 H5 =>
        ∃ (r11 : Int),
        v_1 = .int .i64 r11 ∧
        cond (r11 == 0) (
          ∃ (t17a : Option Addr) (t17l : Nat) (t17c : Nat),
          H5.cell H1.next 0 = some (.slice t17a t17l t17c) ∧
          FW Ee F_graph_TakeVertex [.pointer (some ⟨r0b, 0, none⟩)] H5 fun v_2 H6 =>
            ∃ (r19_ID : Int) (r19_Value : Int) (r19_Edgesa : Option Addr) (r19_Edgesl : Nat) (r19_Edgesc : Nat),
            v_2 = .agg ⟨[.int .i64 r19_ID, .int .i64 r19_Value, .slice r19_Edgesa r19_Edgesl r19_Edgesc]⟩ ∧
            ∀ (H7 : AH),
            H7 = H6.new (.cells [.int .i64 r19_ID, .int .i64 r19_Value, .slice r19_Edgesa r19_Edgesl r19_Edgesc] 0) →
            ∃ (t21a : Option Addr) (t21l : Nat) (t21c : Nat) (H8 : AH),
            apnd H7 3 40 t17a t17l t17c (.slice (some ⟨H6.next, 0, none⟩) 1 2) = some (.slice t21a t21l t21c, H8) ∧
            ∃ (H9 : AH),
            storeCellsv H8 H1.next 0 [.slice t21a t21l t21c] = some H9 ∧
            H7.cell H1.next 0 = some (.slice t17a t17l t17c) ∧
            ∀ (t15 : Int),
            t15 = IntKind.i64.wrap (n4 - 1) →
            ∃ (m : Nat),
            m < n ∧
            Inv m t15 H9) (
          FW Ee F_wire_Reader_Err [.pointer (some ⟨r0b, 0, none⟩)] H5 fun v_3 H10 =>
            ∃ (r24 : Int),
            v_3 = .int .i64 r24 ∧
            cond (r24 == 0) (
              ∃ (t27_Verticesa : Option Addr) (t27_Verticesl : Nat) (t27_Verticesc : Nat),
              H10.cell H1.next (0 + 0) = some (.slice t27_Verticesa t27_Verticesl t27_Verticesc) ∧
              FW Ee F_graph_Check [.agg ⟨[.slice t27_Verticesa t27_Verticesl t27_Verticesc]⟩] H10 fun v_4 H11 =>
                ∃ (r28 : Int),
                v_4 = .int .i64 r28 ∧
                FW Ee F_wire_Reader_Fail [.pointer (some ⟨r0b, 0, none⟩), .int .i64 r28] H11 fun v_5 H12 =>
                  v_5 = .tuple ⟨[]⟩ ∧
                  ∃ (t30_Verticesa : Option Addr) (t30_Verticesl : Nat) (t30_Verticesc : Nat),
                  H12.cell H1.next (0 + 0) = some (.slice t30_Verticesa t30_Verticesl t30_Verticesc) ∧
                  ∃ (H13 : AH),
                  storeCellsv H12 H.next 0 [.slice t30_Verticesa t30_Verticesl t30_Verticesc] = some H13 ∧
                  ∃ (r2_Verticesa : Option Addr) (r2_Verticesl : Nat) (r2_Verticesc : Nat),
                  H13.cell H.next (0 + 0) = some (.slice r2_Verticesa r2_Verticesl r2_Verticesc) ∧
                  Q (.agg ⟨[.slice r2_Verticesa r2_Verticesl r2_Verticesc]⟩) H13) (
              ∃ (t30_Verticesa_1 : Option Addr) (t30_Verticesl_1 : Nat) (t30_Verticesc_1 : Nat),
              H10.cell H1.next (0 + 0) = some (.slice t30_Verticesa_1 t30_Verticesl_1 t30_Verticesc_1) ∧
              ∃ (H14 : AH),
              storeCellsv H10 H.next 0 [.slice t30_Verticesa_1 t30_Verticesl_1 t30_Verticesc_1] = some H14 ∧
              ∃ (r2_Verticesa_1 : Option Addr) (r2_Verticesl_1 : Nat) (r2_Verticesc_1 : Nat),
              H14.cell H.next (0 + 0) = some (.slice r2_Verticesa_1 r2_Verticesl_1 r2_Verticesc_1) ∧
              Q (.agg ⟨[.slice r2_Verticesa_1 r2_Verticesl_1 r2_Verticesc_1]⟩) H14))) (
      FW Ee F_wire_Reader_Err [.pointer (some ⟨r0b, 0, none⟩)] H4 fun v_6 H15 =>
        ∃ (r24_1 : Int),
        v_6 = .int .i64 r24_1 ∧
        cond (r24_1 == 0) (
          ∃ (t27_Verticesa_1 : Option Addr) (t27_Verticesl_1 : Nat) (t27_Verticesc_1 : Nat),
          H15.cell H1.next (0 + 0) = some (.slice t27_Verticesa_1 t27_Verticesl_1 t27_Verticesc_1) ∧
          FW Ee F_graph_Check [.agg ⟨[.slice t27_Verticesa_1 t27_Verticesl_1 t27_Verticesc_1]⟩] H15 fun v_7 H16 =>
            ∃ (r28_1 : Int),
            v_7 = .int .i64 r28_1 ∧
            FW Ee F_wire_Reader_Fail [.pointer (some ⟨r0b, 0, none⟩), .int .i64 r28_1] H16 fun v_8 H17 =>
              v_8 = .tuple ⟨[]⟩ ∧
              ∃ (t30_Verticesa_2 : Option Addr) (t30_Verticesl_2 : Nat) (t30_Verticesc_2 : Nat),
              H17.cell H1.next (0 + 0) = some (.slice t30_Verticesa_2 t30_Verticesl_2 t30_Verticesc_2) ∧
              ∃ (H18 : AH),
              storeCellsv H17 H.next 0 [.slice t30_Verticesa_2 t30_Verticesl_2 t30_Verticesc_2] = some H18 ∧
              ∃ (r2_Verticesa_2 : Option Addr) (r2_Verticesl_2 : Nat) (r2_Verticesc_2 : Nat),
              H18.cell H.next (0 + 0) = some (.slice r2_Verticesa_2 r2_Verticesl_2 r2_Verticesc_2) ∧
              Q (.agg ⟨[.slice r2_Verticesa_2 r2_Verticesl_2 r2_Verticesc_2]⟩) H18) (
          ∃ (t30_Verticesa_3 : Option Addr) (t30_Verticesl_3 : Nat) (t30_Verticesc_3 : Nat),
          H15.cell H1.next (0 + 0) = some (.slice t30_Verticesa_3 t30_Verticesl_3 t30_Verticesc_3) ∧
          ∃ (H19 : AH),
          storeCellsv H15 H.next 0 [.slice t30_Verticesa_3 t30_Verticesl_3 t30_Verticesc_3] = some H19 ∧
          ∃ (r2_Verticesa_3 : Option Addr) (r2_Verticesl_3 : Nat) (r2_Verticesc_3 : Nat),
          H19.cell H.next (0 + 0) = some (.slice r2_Verticesa_3 r2_Verticesl_3 r2_Verticesc_3) ∧
          Q (.agg ⟨[.slice r2_Verticesa_3 r2_Verticesl_3 r2_Verticesc_3]⟩) H19))
set_option maxRecDepth 100000 in
theorem fw_graph_Take {r0b : Nat} {H : AH} {Q : Value → AH → Prop} (h : VC_graph_Take r0b H Q) : FW Ee F_graph_Take [.pointer (some ⟨r0b, 0, none⟩)] H Q := by
  have e : VC_graph_Take r0b H Q = wpF Ee ⟨[], []⟩ F_graph_Take [.pointer (some ⟨r0b, 0, none⟩)] H Q := by kernel_rfl
  letI : Sy := sy0
  exact wpF_sound (Eq.mp e h)
/-- cohort/cohortref03.VertexBytes -/
def VC_cohortref03_VertexBytes (v0_ID : Int) (v0_Value : Int) (v0_Edgesa : Option Addr) (v0_Edgesl : Nat) (v0_Edgesc : Nat) (H : AH) (Q : Value → AH → Prop) : Prop :=
  ∀ (H1 : AH),
  H1 = H.new (.cells [.int .i64 v0_ID, .int .i64 v0_Value, .slice v0_Edgesa v0_Edgesl v0_Edgesc] 0) →
  ∃ (t6 : Int),
  H1.cell H.next 0 = some (.int .i64 t6) ∧
  FW Ee F_cohortref01_Signed [.int .i64 t6] H1 fun v H2 =>
    ∃ (r7 : List UInt8),
    v = .string ⟨⟨r7⟩⟩ ∧
    ∃ (t9 : Int),
    H2.cell H.next 1 = some (.int .i64 t9) ∧
    FW Ee F_cohortref01_Signed [.int .i64 t9] H2 fun v_1 H3 =>
      ∃ (r10 : List UInt8),
      v_1 = .string ⟨⟨r10⟩⟩ ∧
      (r7 : List UInt8).length + (r10 : List UInt8).length < 4611686018427387904 ∧
      ∃ (t13a : Option Addr) (t13l : Nat) (t13c : Nat),
      H3.cell H.next 2 = some (.slice t13a t13l t13c) ∧
      ∀ (t15 : Int),
      t15 = IntKind.u64.wrap (((t13l : Nat) : Int)) →
      FW Ee F_cohortref01_Number [.int .u64 t15] H3 fun v_2 H4 =>
        ∃ (r16 : List UInt8),
        v_2 = .string ⟨⟨r16⟩⟩ ∧
        (r7 ++ r10 : List UInt8).length + (r16 : List UInt8).length < 4611686018427387904 ∧
        H2.cell H.next 2 = some (.slice t13a t13l t13c) ∧
        H1.cell H.next 2 = some (.slice t13a t13l t13c) ∧
        H1.cell H.next 1 = some (.int .i64 t9) ∧
        ∃ (Inv : Nat → List UInt8 → Int → AH → Prop),
        (
          ∃ (n_1 : Nat),
          Inv n_1 ((r7 ++ r10) ++ r16) 0 H4) ∧
        ∀ (n : Nat),
        ∀ (s3 : List UInt8) (i4 : Int) (H5 : AH),
        Inv n s3 i4 H5 →
        ∃ (t20a : Option Addr) (t20l : Nat) (t20c : Nat),
        H5.cell H.next 2 = some (.slice t20a t20l t20c) ∧
        cond (decide (i4 < (((t20l : Nat) : Int)))) (
          ∃ (t27a : Option Addr) (t27l : Nat) (t27c : Nat),
          H5.cell H.next 2 = some (.slice t27a t27l t27c) ∧
          grd t27a.isSome (
            (0 : Int) ≤ i4 ∧
            (i4 : Int) < ((t27l : Nat) : Int) ∧
            ∃ (t31 : Int),
            H5.cell ((adr t27a).block) ((adr t27a).off + (i4 : Int).toNat * 2) = some (.int .i64 t31) ∧
            FW Ee F_cohortref01_Signed [.int .i64 t31] H5 fun v_3 H6 =>
              ∃ (r32 : List UInt8),
              v_3 = .string ⟨⟨r32⟩⟩ ∧
              ∃ (t34a : Option Addr) (t34l : Nat) (t34c : Nat),
              H6.cell H.next 2 = some (.slice t34a t34l t34c) ∧
              grd t34a.isSome (
                (0 : Int) ≤ i4 ∧
                (i4 : Int) < ((t34l : Nat) : Int) ∧
                ∃ (t38 : Int),
                H6.cell ((adr t34a).block) ((adr t34a).off + (i4 : Int).toNat * 2 + 1) = some (.int .i64 t38) ∧
                FW Ee F_cohortref01_Signed [.int .i64 t38] H6 fun v_4 H7 =>
                  ∃ (r39 : List UInt8),
                  v_4 = .string ⟨⟨r39⟩⟩ ∧
                  (r32 : List UInt8).length + (r39 : List UInt8).length < 4611686018427387904 ∧
                  (s3 : List UInt8).length + (r32 ++ r39 : List UInt8).length < 4611686018427387904 ∧
                  H5.cell ((adr t34a).block) ((adr t34a).off + (i4 : Int).toNat * 2 + 1) = some (.int .i64 t38) ∧
                  H5.cell H.next 2 = some (.slice t34a t34l t34c) ∧
                  ∀ (t24 : Int),
                  t24 = IntKind.i64.wrap (i4 + 1) →
                  ∃ (m : Nat),
                  m < n ∧
                  Inv m (s3 ++ (r32 ++ r39)) t24 H7))) (
          Q (.string ⟨⟨s3⟩⟩) H5)
set_option maxRecDepth 100000 in
theorem fw_cohortref03_VertexBytes {v0_ID : Int} {v0_Value : Int} {v0_Edgesa : Option Addr} {v0_Edgesl : Nat} {v0_Edgesc : Nat} {H : AH} {Q : Value → AH → Prop} (h : VC_cohortref03_VertexBytes v0_ID v0_Value v0_Edgesa v0_Edgesl v0_Edgesc H Q) : FW Ee F_cohortref03_VertexBytes [.agg ⟨[.int .i64 v0_ID, .int .i64 v0_Value, .slice v0_Edgesa v0_Edgesl v0_Edgesc]⟩] H Q := by
  have e : VC_cohortref03_VertexBytes v0_ID v0_Value v0_Edgesa v0_Edgesl v0_Edgesc H Q = wpF Ee ⟨[], []⟩ F_cohortref03_VertexBytes [.agg ⟨[.int .i64 v0_ID, .int .i64 v0_Value, .slice v0_Edgesa v0_Edgesl v0_Edgesc]⟩] H Q := by kernel_rfl
  letI : Sy := sy0
  exact wpF_sound (Eq.mp e h)
/-- cohort/cohortref03.Bytes -/
def VC_cohortref03_Bytes (g0a : Option Addr) (g0l : Nat) (g0c : Nat) (H : AH) (Q : Value → AH → Prop) : Prop :=
  ∀ (t7 : Int),
  t7 = IntKind.u64.wrap (((g0l : Nat) : Int)) →
  FW Ee F_cohortref01_Number [.int .u64 t7] H fun v H1 =>
    ∃ (r8 : List UInt8),
    v = .string ⟨⟨r8⟩⟩ ∧
    ∃ (Inv : Nat → List UInt8 → Int → AH → Prop),
    (
      ∃ (n_1 : Nat),
      Inv n_1 r8 0 H1) ∧
    ∀ (n : Nat),
    ∀ (s3 : List UInt8) (i4 : Int) (H2 : AH),
    Inv n s3 i4 H2 →
    cond (decide (i4 < (((g0l : Nat) : Int)))) (
      grd g0a.isSome (
        (0 : Int) ≤ i4 ∧
        (i4 : Int) < ((g0l : Nat) : Int) ∧
        ∃ (t19_ID : Int) (t19_Value : Int) (t19_Edgesa : Option Addr) (t19_Edgesl : Nat) (t19_Edgesc : Nat),
        H2.cell ((adr g0a).block) ((adr g0a).off + (i4 : Int).toNat * 3 + 0) = some (.int .i64 t19_ID) ∧
        H2.cell ((adr g0a).block) ((adr g0a).off + (i4 : Int).toNat * 3 + 1) = some (.int .i64 t19_Value) ∧
        H2.cell ((adr g0a).block) ((adr g0a).off + (i4 : Int).toNat * 3 + 2) = some (.slice t19_Edgesa t19_Edgesl t19_Edgesc) ∧
        FW Ee F_cohortref03_VertexBytes [.agg ⟨[.int .i64 t19_ID, .int .i64 t19_Value, .slice t19_Edgesa t19_Edgesl t19_Edgesc]⟩] H2 fun v_1 H3 =>
          ∃ (r20 : List UInt8),
          v_1 = .string ⟨⟨r20⟩⟩ ∧
          (s3 : List UInt8).length + (r20 : List UInt8).length < 4611686018427387904 ∧
          ∀ (t14 : Int),
          t14 = IntKind.i64.wrap (i4 + 1) →
          ∃ (m : Nat),
          m < n ∧
          Inv m (s3 ++ r20) t14 H3)) (
      Q (.string ⟨⟨s3⟩⟩) H2)
set_option maxRecDepth 100000 in
theorem fw_cohortref03_Bytes {g0a : Option Addr} {g0l : Nat} {g0c : Nat} {H : AH} {Q : Value → AH → Prop} (h : VC_cohortref03_Bytes g0a g0l g0c H Q) : FW Ee F_cohortref03_Bytes [.slice g0a g0l g0c] H Q := by
  have e : VC_cohortref03_Bytes g0a g0l g0c H Q = wpF Ee ⟨[], []⟩ F_cohortref03_Bytes [.slice g0a g0l g0c] H Q := by kernel_rfl
  letI : Sy := sy0
  exact wpF_sound (Eq.mp e h)
/-- cohort/cohortref03.TakeVertex -/
def VC_cohortref03_TakeVertex (r0_S : List UInt8) (r0_At : Int) (r0_Err : Int) (H : AH) (Q : Value → AH → Prop) : Prop :=
  ∀ (H1 : AH),
  H1 = H.new (.cells [.string ⟨⟨r0_S⟩⟩, .int .i64 r0_At, .int .i64 r0_Err] 0) →
  ∀ (H2 : AH),
  H2 = H1.new (.cells [.string ⟨⟨[]⟩⟩, .int .i64 0, .int .i64 0] 0) →
  ∀ (H3 : AH),
  H3 = H2.new (.cells [.int .i64 0, .int .i64 0, .slice none 0 0] 0) →
  ∀ (H4 : AH),
  H4 = H3.new (.cells [.int .i64 0, .int .i64 0, .slice none 0 0] 0) →
  ∃ (H5 : AH),
  storeCellsv H4 H3.next 0 [.int .i64 0, .int .i64 0, .slice none 0 0] = some H5 ∧
  ∃ (t13_S : List UInt8) (t13_At : Int) (t13_Err : Int),
  H5.cell H.next (0 + 0) = some (.string ⟨⟨t13_S⟩⟩) ∧
  H5.cell H.next (0 + 1) = some (.int .i64 t13_At) ∧
  H5.cell H.next (0 + 2) = some (.int .i64 t13_Err) ∧
  FW Ee F_cohortref01_Reader_Signed [.agg ⟨[.string ⟨⟨t13_S⟩⟩, .int .i64 t13_At, .int .i64 t13_Err]⟩] H5 fun v H6 =>
    ∃ (r14_0_S : List UInt8) (r14_0_At : Int) (r14_0_Err : Int) (r14_1 : Int),
    v = .tuple ⟨[.agg ⟨[.string ⟨⟨r14_0_S⟩⟩, .int .i64 r14_0_At, .int .i64 r14_0_Err]⟩, .int .i64 r14_1]⟩ ∧
    ∃ (H7 : AH),
    storeCellsv H6 H.next 0 [.string ⟨⟨r14_0_S⟩⟩, .int .i64 r14_0_At, .int .i64 r14_0_Err] = some H7 ∧
    ∃ (H8 : AH),
    storeCellsv H7 H3.next 0 [.int .i64 r14_1] = some H8 ∧
    ∃ (t19_S : List UInt8) (t19_At : Int) (t19_Err : Int),
    H8.cell H.next (0 + 0) = some (.string ⟨⟨t19_S⟩⟩) ∧
    H8.cell H.next (0 + 1) = some (.int .i64 t19_At) ∧
    H8.cell H.next (0 + 2) = some (.int .i64 t19_Err) ∧
    FW Ee F_cohortref01_Reader_Signed [.agg ⟨[.string ⟨⟨t19_S⟩⟩, .int .i64 t19_At, .int .i64 t19_Err]⟩] H8 fun v_1 H9 =>
      ∃ (r20_0_S : List UInt8) (r20_0_At : Int) (r20_0_Err : Int) (r20_1 : Int),
      v_1 = .tuple ⟨[.agg ⟨[.string ⟨⟨r20_0_S⟩⟩, .int .i64 r20_0_At, .int .i64 r20_0_Err]⟩, .int .i64 r20_1]⟩ ∧
      ∃ (H10 : AH),
      storeCellsv H9 H.next 0 [.string ⟨⟨r20_0_S⟩⟩, .int .i64 r20_0_At, .int .i64 r20_0_Err] = some H10 ∧
      ∃ (H11 : AH),
      storeCellsv H10 H3.next 1 [.int .i64 r20_1] = some H11 ∧
      ∃ (t25_S : List UInt8) (t25_At : Int) (t25_Err : Int),
      H11.cell H.next (0 + 0) = some (.string ⟨⟨t25_S⟩⟩) ∧
      H11.cell H.next (0 + 1) = some (.int .i64 t25_At) ∧
      H11.cell H.next (0 + 2) = some (.int .i64 t25_Err) ∧
      FW Ee F_cohortref01_Reader_Count [.agg ⟨[.string ⟨⟨t25_S⟩⟩, .int .i64 t25_At, .int .i64 t25_Err]⟩, .int .i64 2048] H11 fun v_2 H12 =>
        ∃ (r26_0_S : List UInt8) (r26_0_At : Int) (r26_0_Err : Int) (r26_1 : Int),
        v_2 = .tuple ⟨[.agg ⟨[.string ⟨⟨r26_0_S⟩⟩, .int .i64 r26_0_At, .int .i64 r26_0_Err]⟩, .int .i64 r26_1]⟩ ∧
        ∃ (H13 : AH),
        storeCellsv H12 H.next 0 [.string ⟨⟨r26_0_S⟩⟩, .int .i64 r26_0_At, .int .i64 r26_0_Err] = some H13 ∧
        ∃ (Inv : Nat → Int → AH → Prop),
        (
          ∃ (n_1 : Nat),
          Inv n_1 0 H13) ∧
        ∀ (n : Nat),
        ∀ (i6 : Int) (H14 : AH),
        Inv n i6 H14 →
        cond (decide (i6 < r26_1)) (
          ∃ (t34 : Int),
          H14.cell H.next 2 = some (.int .i64 t34) ∧
          cond (t34 == 0) (
            ∀ (H15 : AH),
            H15 = H14.new (.cells [.int .i64 0, .int .i64 0] 0) →
            ∃ (H16 : AH),
            storeCellsv H15 H14.next 0 [.int .i64 0, .int .i64 0] = some H16 ∧
            ∃ (t41_S : List UInt8) (t41_At : Int) (t41_Err : Int),
            H16.cell H.next (0 + 0) = some (.string ⟨⟨t41_S⟩⟩) ∧
            H16.cell H.next (0 + 1) = some (.int .i64 t41_At) ∧
            H16.cell H.next (0 + 2) = some (.int .i64 t41_Err) ∧
            FW Ee F_cohortref01_Reader_Signed [.agg ⟨[.string ⟨⟨t41_S⟩⟩, .int .i64 t41_At, .int .i64 t41_Err]⟩] H16 fun v_3 H17 =>
              ∃ (r42_0_S : List UInt8) (r42_0_At : Int) (r42_0_Err : Int) (r42_1 : Int),
              v_3 = .tuple ⟨[.agg ⟨[.string ⟨⟨r42_0_S⟩⟩, .int .i64 r42_0_At, .int .i64 r42_0_Err]⟩, .int .i64 r42_1]⟩ ∧
              ∀ (H18 : AH),
              H18 = H17.new (.cells [.string ⟨⟨[]⟩⟩, .int .i64 0, .int .i64 0] 0) →
              ∃ (H19 : AH),
              storeCellsv H18 H17.next 0 [.string ⟨⟨r42_0_S⟩⟩, .int .i64 r42_0_At, .int .i64 r42_0_Err] = some H19 ∧
              ∃ (t46_S : List UInt8) (t46_At : Int) (t46_Err : Int),
              H19.cell H17.next (0 + 0) = some (.string ⟨⟨t46_S⟩⟩) ∧
              H19.cell H17.next (0 + 1) = some (.int .i64 t46_At) ∧
              H19.cell H17.next (0 + 2) = some (.int .i64 t46_Err) ∧
              FW Ee F_cohortref01_Reader_Signed [.agg ⟨[.string ⟨⟨t46_S⟩⟩, .int .i64 t46_At, .int .i64 t46_Err]⟩] H19 fun v_4 H20 =>
                ∃ (r47_0_S : List UInt8) (r47_0_At : Int) (r47_0_Err : Int) (r47_1 : Int),
                v_4 = .tuple ⟨[.agg ⟨[.string ⟨⟨r47_0_S⟩⟩, .int .i64 r47_0_At, .int .i64 r47_0_Err]⟩, .int .i64 r47_1]⟩ ∧
                ∃ (H21 : AH),
                storeCellsv H20 H17.next 0 [.string ⟨⟨r47_0_S⟩⟩, .int .i64 r47_0_At, .int .i64 r47_0_Err] = some H21 ∧
                ∃ (t50_S : List UInt8) (t50_At : Int) (t50_Err : Int),
                H21.cell H17.next (0 + 0) = some (.string ⟨⟨t50_S⟩⟩) ∧
                H21.cell H17.next (0 + 1) = some (.int .i64 t50_At) ∧
                H21.cell H17.next (0 + 2) = some (.int .i64 t50_Err) ∧
                ∃ (H22 : AH),
                storeCellsv H21 H.next 0 [.string ⟨⟨t50_S⟩⟩, .int .i64 t50_At, .int .i64 t50_Err] = some H22 ∧
                ∃ (H23 : AH),
                storeCellsv H22 H14.next 0 [.int .i64 r42_1] = some H23 ∧
                ∃ (H24 : AH),
                storeCellsv H23 H14.next 1 [.int .i64 r47_1] = some H24 ∧
                ∃ (t56a : Option Addr) (t56l : Nat) (t56c : Nat),
                H24.cell H3.next 2 = some (.slice t56a t56l t56c) ∧
                ∃ (t57_To : Int) (t57_Weight : Int),
                H24.cell H14.next (0 + 0) = some (.int .i64 t57_To) ∧
                H24.cell H14.next (0 + 1) = some (.int .i64 t57_Weight) ∧
                ∀ (H25 : AH),
                H25 = H24.new (.cells [.int .i64 t57_To, .int .i64 t57_Weight] 0) →
                ∃ (t59a : Option Addr) (t59l : Nat) (t59c : Nat) (H26 : AH),
                apnd H25 2 16 t56a t56l t56c (.slice (some ⟨H24.next, 0, none⟩) 1 2) = some (.slice t59a t59l t59c, H26) ∧
                ∃ (H27 : AH),
                storeCellsv H26 H3.next 2 [.slice t59a t59l t59c] = some H27 ∧
                ∀ (t38 : Int),
                t38 = IntKind.i64.wrap (i6 + 1) →
                ∃ (m : Nat),
                m < n ∧
                Inv m t38 H27) (
            ∃ (t61_S : List UInt8) (t61_At : Int) (t61_Err : Int),
            H14.cell H.next (0 + 0) = some (.string ⟨⟨t61_S⟩⟩) ∧
            H14.cell H.next (0 + 1) = some (.int .i64 t61_At) ∧
            H14.cell H.next (0 + 2) = some (.int .i64 t61_Err) ∧
            ∃ (t62_ID : Int) (t62_Value : Int) (t62_Edgesa : Option Addr) (t62_Edgesl : Nat) (t62_Edgesc : Nat),
            H14.cell H3.next (0 + 0) = some (.int .i64 t62_ID) ∧
            H14.cell H3.next (0 + 1) = some (.int .i64 t62_Value) ∧
            H14.cell H3.next (0 + 2) = some (.slice t62_Edgesa t62_Edgesl t62_Edgesc) ∧
            ∃ (H28 : AH),
            storeCellsv H14 H1.next 0 [.string ⟨⟨t61_S⟩⟩, .int .i64 t61_At, .int .i64 t61_Err] = some H28 ∧
            ∃ (H29 : AH),
            storeCellsv H28 H2.next 0 [.int .i64 t62_ID, .int .i64 t62_Value, .slice t62_Edgesa t62_Edgesl t62_Edgesc] = some H29 ∧
            H28.cell H3.next (0 + 0) = some (.int .i64 t62_ID) ∧
            H28.cell H3.next (0 + 1) = some (.int .i64 t62_Value) ∧
            H28.cell H3.next (0 + 2) = some (.slice t62_Edgesa t62_Edgesl t62_Edgesc) ∧
            ∃ (r2_S : List UInt8) (r2_At : Int) (r2_Err : Int),
            H29.cell H1.next (0 + 0) = some (.string ⟨⟨r2_S⟩⟩) ∧
            H29.cell H1.next (0 + 1) = some (.int .i64 r2_At) ∧
            H29.cell H1.next (0 + 2) = some (.int .i64 r2_Err) ∧
            ∃ (r3_ID : Int) (r3_Value : Int) (r3_Edgesa : Option Addr) (r3_Edgesl : Nat) (r3_Edgesc : Nat),
            H29.cell H2.next (0 + 0) = some (.int .i64 r3_ID) ∧
            H29.cell H2.next (0 + 1) = some (.int .i64 r3_Value) ∧
            H29.cell H2.next (0 + 2) = some (.slice r3_Edgesa r3_Edgesl r3_Edgesc) ∧
            Q (.tuple ⟨[.agg ⟨[.string ⟨⟨r2_S⟩⟩, .int .i64 r2_At, .int .i64 r2_Err]⟩, .agg ⟨[.int .i64 r3_ID, .int .i64 r3_Value, .slice r3_Edgesa r3_Edgesl r3_Edgesc]⟩]⟩) H29)) (
          ∃ (t61_S_1 : List UInt8) (t61_At_1 : Int) (t61_Err_1 : Int),
          H14.cell H.next (0 + 0) = some (.string ⟨⟨t61_S_1⟩⟩) ∧
          H14.cell H.next (0 + 1) = some (.int .i64 t61_At_1) ∧
          H14.cell H.next (0 + 2) = some (.int .i64 t61_Err_1) ∧
          ∃ (t62_ID_1 : Int) (t62_Value_1 : Int) (t62_Edgesa_1 : Option Addr) (t62_Edgesl_1 : Nat) (t62_Edgesc_1 : Nat),
          H14.cell H3.next (0 + 0) = some (.int .i64 t62_ID_1) ∧
          H14.cell H3.next (0 + 1) = some (.int .i64 t62_Value_1) ∧
          H14.cell H3.next (0 + 2) = some (.slice t62_Edgesa_1 t62_Edgesl_1 t62_Edgesc_1) ∧
          ∃ (H30 : AH),
          storeCellsv H14 H1.next 0 [.string ⟨⟨t61_S_1⟩⟩, .int .i64 t61_At_1, .int .i64 t61_Err_1] = some H30 ∧
          ∃ (H31 : AH),
          storeCellsv H30 H2.next 0 [.int .i64 t62_ID_1, .int .i64 t62_Value_1, .slice t62_Edgesa_1 t62_Edgesl_1 t62_Edgesc_1] = some H31 ∧
          H30.cell H3.next (0 + 0) = some (.int .i64 t62_ID_1) ∧
          H30.cell H3.next (0 + 1) = some (.int .i64 t62_Value_1) ∧
          H30.cell H3.next (0 + 2) = some (.slice t62_Edgesa_1 t62_Edgesl_1 t62_Edgesc_1) ∧
          ∃ (r2_S_1 : List UInt8) (r2_At_1 : Int) (r2_Err_1 : Int),
          H31.cell H1.next (0 + 0) = some (.string ⟨⟨r2_S_1⟩⟩) ∧
          H31.cell H1.next (0 + 1) = some (.int .i64 r2_At_1) ∧
          H31.cell H1.next (0 + 2) = some (.int .i64 r2_Err_1) ∧
          ∃ (r3_ID_1 : Int) (r3_Value_1 : Int) (r3_Edgesa_1 : Option Addr) (r3_Edgesl_1 : Nat) (r3_Edgesc_1 : Nat),
          H31.cell H2.next (0 + 0) = some (.int .i64 r3_ID_1) ∧
          H31.cell H2.next (0 + 1) = some (.int .i64 r3_Value_1) ∧
          H31.cell H2.next (0 + 2) = some (.slice r3_Edgesa_1 r3_Edgesl_1 r3_Edgesc_1) ∧
          Q (.tuple ⟨[.agg ⟨[.string ⟨⟨r2_S_1⟩⟩, .int .i64 r2_At_1, .int .i64 r2_Err_1]⟩, .agg ⟨[.int .i64 r3_ID_1, .int .i64 r3_Value_1, .slice r3_Edgesa_1 r3_Edgesl_1 r3_Edgesc_1]⟩]⟩) H31)
set_option maxRecDepth 100000 in
theorem fw_cohortref03_TakeVertex {r0_S : List UInt8} {r0_At : Int} {r0_Err : Int} {H : AH} {Q : Value → AH → Prop} (h : VC_cohortref03_TakeVertex r0_S r0_At r0_Err H Q) : FW Ee F_cohortref03_TakeVertex [.agg ⟨[.string ⟨⟨r0_S⟩⟩, .int .i64 r0_At, .int .i64 r0_Err]⟩] H Q := by
  have e : VC_cohortref03_TakeVertex r0_S r0_At r0_Err H Q = wpF Ee ⟨[], []⟩ F_cohortref03_TakeVertex [.agg ⟨[.string ⟨⟨r0_S⟩⟩, .int .i64 r0_At, .int .i64 r0_Err]⟩] H Q := by kernel_rfl
  letI : Sy := sy0
  exact wpF_sound (Eq.mp e h)
/-- cohort/cohortref03.Take -/
def VC_cohortref03_Take (r0_S : List UInt8) (r0_At : Int) (r0_Err : Int) (H : AH) (Q : Value → AH → Prop) : Prop :=
  ∀ (H1 : AH),
  H1 = H.new (.cells [.string ⟨⟨r0_S⟩⟩, .int .i64 r0_At, .int .i64 r0_Err] 0) →
  ∀ (H2 : AH),
  H2 = H1.new (.cells [.string ⟨⟨[]⟩⟩, .int .i64 0, .int .i64 0] 0) →
  ∀ (H3 : AH),
  H3 = H2.new (.cells [] 0) →
  ∃ (t11_S : List UInt8) (t11_At : Int) (t11_Err : Int),
  H3.cell H.next (0 + 0) = some (.string ⟨⟨t11_S⟩⟩) ∧
  H3.cell H.next (0 + 1) = some (.int .i64 t11_At) ∧
  H3.cell H.next (0 + 2) = some (.int .i64 t11_Err) ∧
  FW Ee F_cohortref01_Reader_Count [.agg ⟨[.string ⟨⟨t11_S⟩⟩, .int .i64 t11_At, .int .i64 t11_Err]⟩, .int .i64 256] H3 fun v H4 =>
    ∃ (r12_0_S : List UInt8) (r12_0_At : Int) (r12_0_Err : Int) (r12_1 : Int),
    v = .tuple ⟨[.agg ⟨[.string ⟨⟨r12_0_S⟩⟩, .int .i64 r12_0_At, .int .i64 r12_0_Err]⟩, .int .i64 r12_1]⟩ ∧
    ∃ (H5 : AH),
    storeCellsv H4 H.next 0 [.string ⟨⟨r12_0_S⟩⟩, .int .i64 r12_0_At, .int .i64 r12_0_Err] = some H5 ∧
    ∃ (Inv : Nat → Option Addr → Nat → Nat → Int → AH → Prop),
    (
      ∃ (n_1 : Nat),
      Inv n_1 (some ⟨H2.next, 0, none⟩) 0 0 0 H5) ∧
    ∀ (n : Nat),
    ∀ (g4a : Option Addr) (g4l : Nat) (g4c : Nat) (i6 : Int) (H6 : AH),
    Inv n g4a g4l g4c i6 H6 →
    cond (decide (i6 < r12_1)) (
      ∃ (t20 : Int),
      H6.cell H.next 2 = some (.int .i64 t20) ∧
      cond (t20 == 0) (
        ∃ (t26_S : List UInt8) (t26_At : Int) (t26_Err : Int),
        H6.cell H.next (0 + 0) = some (.string ⟨⟨t26_S⟩⟩) ∧
        H6.cell H.next (0 + 1) = some (.int .i64 t26_At) ∧
        H6.cell H.next (0 + 2) = some (.int .i64 t26_Err) ∧
        FW Ee F_cohortref03_TakeVertex [.agg ⟨[.string ⟨⟨t26_S⟩⟩, .int .i64 t26_At, .int .i64 t26_Err]⟩] H6 fun v_1 H7 =>
          ∃ (r27_0_S : List UInt8) (r27_0_At : Int) (r27_0_Err : Int) (r27_1_ID : Int) (r27_1_Value : Int) (r27_1_Edgesa : Option Addr) (r27_1_Edgesl : Nat) (r27_1_Edgesc : Nat),
          v_1 = .tuple ⟨[.agg ⟨[.string ⟨⟨r27_0_S⟩⟩, .int .i64 r27_0_At, .int .i64 r27_0_Err]⟩, .agg ⟨[.int .i64 r27_1_ID, .int .i64 r27_1_Value, .slice r27_1_Edgesa r27_1_Edgesl r27_1_Edgesc]⟩]⟩ ∧
          ∀ (H8 : AH),
          H8 = H7.new (.cells [.string ⟨⟨[]⟩⟩, .int .i64 0, .int .i64 0] 0) →
          ∀ (H9 : AH),
          H9 = H8.new (.cells [.int .i64 0, .int .i64 0, .slice none 0 0] 0) →
          ∃ (H10 : AH),
          storeCellsv H9 H7.next 0 [.string ⟨⟨r27_0_S⟩⟩, .int .i64 r27_0_At, .int .i64 r27_0_Err] = some H10 ∧
          ∃ (H11 : AH),
          storeCellsv H10 H8.next 0 [.int .i64 r27_1_ID, .int .i64 r27_1_Value, .slice r27_1_Edgesa r27_1_Edgesl r27_1_Edgesc] = some H11 ∧
          ∃ (t30_S : List UInt8) (t30_At : Int) (t30_Err : Int),
          H11.cell H7.next (0 + 0) = some (.string ⟨⟨t30_S⟩⟩) ∧
          H11.cell H7.next (0 + 1) = some (.int .i64 t30_At) ∧
          H11.cell H7.next (0 + 2) = some (.int .i64 t30_Err) ∧
          ∃ (H12 : AH),
          storeCellsv H11 H.next 0 [.string ⟨⟨t30_S⟩⟩, .int .i64 t30_At, .int .i64 t30_Err] = some H12 ∧
          ∃ (t32_ID : Int) (t32_Value : Int) (t32_Edgesa : Option Addr) (t32_Edgesl : Nat) (t32_Edgesc : Nat),
          H12.cell H8.next (0 + 0) = some (.int .i64 t32_ID) ∧
          H12.cell H8.next (0 + 1) = some (.int .i64 t32_Value) ∧
          H12.cell H8.next (0 + 2) = some (.slice t32_Edgesa t32_Edgesl t32_Edgesc) ∧
          ∀ (H13 : AH),
          H13 = H12.new (.cells [.int .i64 t32_ID, .int .i64 t32_Value, .slice t32_Edgesa t32_Edgesl t32_Edgesc] 0) →
          ∃ (t34a : Option Addr) (t34l : Nat) (t34c : Nat) (H14 : AH),
          apnd H13 3 40 g4a g4l g4c (.slice (some ⟨H12.next, 0, none⟩) 1 2) = some (.slice t34a t34l t34c, H14) ∧
          ∀ (t24 : Int),
          t24 = IntKind.i64.wrap (i6 + 1) →
          ∃ (m : Nat),
          m < n ∧
          Inv m t34a t34l t34c t24 H14) (
        ∃ (t36 : Int),
        H6.cell H.next 2 = some (.int .i64 t36) ∧
        cond (t36 == 0) (
          FW Ee F_cohortref03_Check [.slice g4a g4l g4c] H6 fun v_2 H15 =>
            ∃ (r39 : Int),
            v_2 = .int .i64 r39 ∧
            ∃ (H16 : AH),
            storeCellsv H15 H.next 2 [.int .i64 r39] = some H16 ∧
            ∃ (t41_S : List UInt8) (t41_At : Int) (t41_Err : Int),
            H16.cell H.next (0 + 0) = some (.string ⟨⟨t41_S⟩⟩) ∧
            H16.cell H.next (0 + 1) = some (.int .i64 t41_At) ∧
            H16.cell H.next (0 + 2) = some (.int .i64 t41_Err) ∧
            ∃ (H17 : AH),
            storeCellsv H16 H1.next 0 [.string ⟨⟨t41_S⟩⟩, .int .i64 t41_At, .int .i64 t41_Err] = some H17 ∧
            ∃ (r2_S : List UInt8) (r2_At : Int) (r2_Err : Int),
            H17.cell H1.next (0 + 0) = some (.string ⟨⟨r2_S⟩⟩) ∧
            H17.cell H1.next (0 + 1) = some (.int .i64 r2_At) ∧
            H17.cell H1.next (0 + 2) = some (.int .i64 r2_Err) ∧
            Q (.tuple ⟨[.agg ⟨[.string ⟨⟨r2_S⟩⟩, .int .i64 r2_At, .int .i64 r2_Err]⟩, .slice g4a g4l g4c]⟩) H17) (
          ∃ (t41_S_1 : List UInt8) (t41_At_1 : Int) (t41_Err_1 : Int),
          H6.cell H.next (0 + 0) = some (.string ⟨⟨t41_S_1⟩⟩) ∧
          H6.cell H.next (0 + 1) = some (.int .i64 t41_At_1) ∧
          H6.cell H.next (0 + 2) = some (.int .i64 t41_Err_1) ∧
          ∃ (H18 : AH),
          storeCellsv H6 H1.next 0 [.string ⟨⟨t41_S_1⟩⟩, .int .i64 t41_At_1, .int .i64 t41_Err_1] = some H18 ∧
          ∃ (r2_S_1 : List UInt8) (r2_At_1 : Int) (r2_Err_1 : Int),
          H18.cell H1.next (0 + 0) = some (.string ⟨⟨r2_S_1⟩⟩) ∧
          H18.cell H1.next (0 + 1) = some (.int .i64 r2_At_1) ∧
          H18.cell H1.next (0 + 2) = some (.int .i64 r2_Err_1) ∧
          Q (.tuple ⟨[.agg ⟨[.string ⟨⟨r2_S_1⟩⟩, .int .i64 r2_At_1, .int .i64 r2_Err_1]⟩, .slice g4a g4l g4c]⟩) H18))) (
      ∃ (t36_1 : Int),
      H6.cell H.next 2 = some (.int .i64 t36_1) ∧
      cond (t36_1 == 0) (
        FW Ee F_cohortref03_Check [.slice g4a g4l g4c] H6 fun v_3 H19 =>
          ∃ (r39_1 : Int),
          v_3 = .int .i64 r39_1 ∧
          ∃ (H20 : AH),
          storeCellsv H19 H.next 2 [.int .i64 r39_1] = some H20 ∧
          ∃ (t41_S_2 : List UInt8) (t41_At_2 : Int) (t41_Err_2 : Int),
          H20.cell H.next (0 + 0) = some (.string ⟨⟨t41_S_2⟩⟩) ∧
          H20.cell H.next (0 + 1) = some (.int .i64 t41_At_2) ∧
          H20.cell H.next (0 + 2) = some (.int .i64 t41_Err_2) ∧
          ∃ (H21 : AH),
          storeCellsv H20 H1.next 0 [.string ⟨⟨t41_S_2⟩⟩, .int .i64 t41_At_2, .int .i64 t41_Err_2] = some H21 ∧
          ∃ (r2_S_2 : List UInt8) (r2_At_2 : Int) (r2_Err_2 : Int),
          H21.cell H1.next (0 + 0) = some (.string ⟨⟨r2_S_2⟩⟩) ∧
          H21.cell H1.next (0 + 1) = some (.int .i64 r2_At_2) ∧
          H21.cell H1.next (0 + 2) = some (.int .i64 r2_Err_2) ∧
          Q (.tuple ⟨[.agg ⟨[.string ⟨⟨r2_S_2⟩⟩, .int .i64 r2_At_2, .int .i64 r2_Err_2]⟩, .slice g4a g4l g4c]⟩) H21) (
        ∃ (t41_S_3 : List UInt8) (t41_At_3 : Int) (t41_Err_3 : Int),
        H6.cell H.next (0 + 0) = some (.string ⟨⟨t41_S_3⟩⟩) ∧
        H6.cell H.next (0 + 1) = some (.int .i64 t41_At_3) ∧
        H6.cell H.next (0 + 2) = some (.int .i64 t41_Err_3) ∧
        ∃ (H22 : AH),
        storeCellsv H6 H1.next 0 [.string ⟨⟨t41_S_3⟩⟩, .int .i64 t41_At_3, .int .i64 t41_Err_3] = some H22 ∧
        ∃ (r2_S_3 : List UInt8) (r2_At_3 : Int) (r2_Err_3 : Int),
        H22.cell H1.next (0 + 0) = some (.string ⟨⟨r2_S_3⟩⟩) ∧
        H22.cell H1.next (0 + 1) = some (.int .i64 r2_At_3) ∧
        H22.cell H1.next (0 + 2) = some (.int .i64 r2_Err_3) ∧
        Q (.tuple ⟨[.agg ⟨[.string ⟨⟨r2_S_3⟩⟩, .int .i64 r2_At_3, .int .i64 r2_Err_3]⟩, .slice g4a g4l g4c]⟩) H22))
set_option maxRecDepth 100000 in
theorem fw_cohortref03_Take {r0_S : List UInt8} {r0_At : Int} {r0_Err : Int} {H : AH} {Q : Value → AH → Prop} (h : VC_cohortref03_Take r0_S r0_At r0_Err H Q) : FW Ee F_cohortref03_Take [.agg ⟨[.string ⟨⟨r0_S⟩⟩, .int .i64 r0_At, .int .i64 r0_Err]⟩] H Q := by
  have e : VC_cohortref03_Take r0_S r0_At r0_Err H Q = wpF Ee ⟨[], []⟩ F_cohortref03_Take [.agg ⟨[.string ⟨⟨r0_S⟩⟩, .int .i64 r0_At, .int .i64 r0_Err]⟩] H Q := by kernel_rfl
  letI : Sy := sy0
  exact wpF_sound (Eq.mp e h)
end Go.Proofs.Cx
