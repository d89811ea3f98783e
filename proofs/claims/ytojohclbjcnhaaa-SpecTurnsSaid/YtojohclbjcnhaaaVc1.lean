/- What calls come to, as formulas: printed by a program. -/
import Derived.Test.YtojohclbjcnhaaaVc0
namespace Go.Proofs.Cx
open Go Go.Ev
set_option linter.unusedVariables false
/-- cmp.isNaN[int64] -/
def VC_cmp_isNaN_int64 (x0 : Int) (H : AH) (Q : Value → AH → Prop) : Prop :=
  Q (.bool (x0 != x0)) H
set_option maxRecDepth 100000 in
theorem fw_cmp_isNaN_int64 {x0 : Int} {H : AH} {Q : Value → AH → Prop} (h : VC_cmp_isNaN_int64 x0 H Q) : FW Ee F_cmp_isNaN_int64 [.int .i64 x0] H Q := by
  have e : VC_cmp_isNaN_int64 x0 H Q = wpF Ee ⟨[], []⟩ F_cmp_isNaN_int64 [.int .i64 x0] H Q := by kernel_rfl
  letI : Sy := sy0
  exact wpF_sound (Eq.mp e h)
/-- cmp.Compare[int64] -/
def VC_cmp_Compare_int64 (x0 : Int) (y1 : Int) (H : AH) (Q : Value → AH → Prop) : Prop :=
  FW Ee F_cmp_isNaN_int64 [.int .i64 x0] H fun v H1 =>
    ∃ (r8 : Bool),
    v = .bool r8 ∧
    FW Ee F_cmp_isNaN_int64 [.int .i64 y1] H1 fun v_1 H2 =>
      ∃ (r10 : Bool),
      v_1 = .bool r10 ∧
      cond (r8) (
        cond (r10) (
          Q (.int .i64 0) H2) (
          Q (.int .i64 (-1)) H2)) (
        cond (r10) (
          Q (.int .i64 1) H2) (
          cond (decide (x0 < y1)) (
            Q (.int .i64 (-1)) H2) (
            cond (decide (x0 > y1)) (
              Q (.int .i64 1) H2) (
              Q (.int .i64 0) H2))))
set_option maxRecDepth 100000 in
theorem fw_cmp_Compare_int64 {x0 : Int} {y1 : Int} {H : AH} {Q : Value → AH → Prop} (h : VC_cmp_Compare_int64 x0 y1 H Q) : FW Ee F_cmp_Compare_int64 [.int .i64 x0, .int .i64 y1] H Q := by
  have e : VC_cmp_Compare_int64 x0 y1 H Q = wpF Ee ⟨[], []⟩ F_cmp_Compare_int64 [.int .i64 x0, .int .i64 y1] H Q := by kernel_rfl
  letI : Sy := sy0
  exact wpF_sound (Eq.mp e h)
/-- cohort/graph.Find$1 -/
def VC_graph_Find_1 (v0_ID : Int) (v0_Value : Int) (v0_Edgesa : Option Addr) (v0_Edgesl : Nat) (v0_Edgesc : Nat) (id1 : Int) (H : AH) (Q : Value → AH → Prop) : Prop :=
  ∀ (H1 : AH),
  H1 = H.new (.cells [.int .i64 v0_ID, .int .i64 v0_Value, .slice v0_Edgesa v0_Edgesl v0_Edgesc] 0) →
  ∃ (t6 : Int),
  H1.cell H.next 0 = some (.int .i64 t6) ∧
  FW Ee F_cmp_Compare_int64 [.int .i64 t6, .int .i64 id1] H1 fun v H2 =>
    ∃ (r8 : Int),
    v = .int .i64 r8 ∧
    Q (.int .i64 r8) H2
set_option maxRecDepth 100000 in
theorem fw_graph_Find_1 {v0_ID : Int} {v0_Value : Int} {v0_Edgesa : Option Addr} {v0_Edgesl : Nat} {v0_Edgesc : Nat} {id1 : Int} {H : AH} {Q : Value → AH → Prop} (h : VC_graph_Find_1 v0_ID v0_Value v0_Edgesa v0_Edgesl v0_Edgesc id1 H Q) : FW Ee F_graph_Find_1 [.agg ⟨[.int .i64 v0_ID, .int .i64 v0_Value, .slice v0_Edgesa v0_Edgesl v0_Edgesc]⟩, .int .i64 id1] H Q := by
  have e : VC_graph_Find_1 v0_ID v0_Value v0_Edgesa v0_Edgesl v0_Edgesc id1 H Q = wpF Ee ⟨[], []⟩ F_graph_Find_1 [.agg ⟨[.int .i64 v0_ID, .int .i64 v0_Value, .slice v0_Edgesa v0_Edgesl v0_Edgesc]⟩, .int .i64 id1] H Q := by kernel_rfl
  letI : Sy := sy0
  exact wpF_sound (Eq.mp e h)
/-- slices.BinarySearchFunc[[]cohort/api.Vertex,cohort/api.Vertex,int64] -/
def VC_slices_BinarySearchFunc_L_api_Vertex_api_Vertex_int64 (x0a : Option Addr) (x0l : Nat) (x0c : Nat) (target1 : Int) (H : AH) (Q : Value → AH → Prop) : Prop :=
  ∃ (Inv : Nat → Int → Int → AH → Prop),
  (
    ∃ (n_1 : Nat),
    Inv n_1 0 (((x0l : Nat) : Int)) H) ∧
  ∀ (n : Nat),
  ∀ (i9 : Int) (j10 : Int) (H1 : AH),
  Inv n i9 j10 H1 →
  cond (decide (i9 < j10)) (
    ∀ (t20 : Int),
    t20 = IntKind.i64.wrap (i9 + j10) →
    ∀ (t21 : Int),
    t21 = IntKind.u64.wrap (t20) →
    (0 : Int) ≤ 1 ∧
    ∀ (t22 : Int),
    t22 = (t21 : Int).fdiv (2 ^ (min (1 : Int).toNat IntKind.u64.bits)) →
    ∀ (t23 : Int),
    t23 = IntKind.i64.wrap (t22) →
    grd x0a.isSome (
      (0 : Int) ≤ t23 ∧
      (t23 : Int) < ((x0l : Nat) : Int) ∧
      ∃ (t28_ID : Int) (t28_Value : Int) (t28_Edgesa : Option Addr) (t28_Edgesl : Nat) (t28_Edgesc : Nat),
      H1.cell ((adr x0a).block) ((adr x0a).off + (t23 : Int).toNat * 3 + 0) = some (.int .i64 t28_ID) ∧
      H1.cell ((adr x0a).block) ((adr x0a).off + (t23 : Int).toNat * 3 + 1) = some (.int .i64 t28_Value) ∧
      H1.cell ((adr x0a).block) ((adr x0a).off + (t23 : Int).toNat * 3 + 2) = some (.slice t28_Edgesa t28_Edgesl t28_Edgesc) ∧
      FW Ee F_graph_Find_1 [.agg ⟨[.int .i64 t28_ID, .int .i64 t28_Value, .slice t28_Edgesa t28_Edgesl t28_Edgesc]⟩, .int .i64 target1] H1 fun v H2 =>
        ∃ (r30 : Int),
        v = .int .i64 r30 ∧
        cond (decide (r30 < 0)) (
          ∀ (t33 : Int),
          t33 = IntKind.i64.wrap (t23 + 1) →
          ∃ (m : Nat),
          m < n ∧
          Inv m t33 j10 H2) (
          ∃ (m : Nat),
          m < n ∧
          Inv m i9 t23 H2))) (
    cond (decide (i9 < (((x0l : Nat) : Int)))) (
      grd x0a.isSome (
        (0 : Int) ≤ i9 ∧
        (i9 : Int) < ((x0l : Nat) : Int) ∧
        ∃ (t44_ID : Int) (t44_Value : Int) (t44_Edgesa : Option Addr) (t44_Edgesl : Nat) (t44_Edgesc : Nat),
        H1.cell ((adr x0a).block) ((adr x0a).off + (i9 : Int).toNat * 3 + 0) = some (.int .i64 t44_ID) ∧
        H1.cell ((adr x0a).block) ((adr x0a).off + (i9 : Int).toNat * 3 + 1) = some (.int .i64 t44_Value) ∧
        H1.cell ((adr x0a).block) ((adr x0a).off + (i9 : Int).toNat * 3 + 2) = some (.slice t44_Edgesa t44_Edgesl t44_Edgesc) ∧
        FW Ee F_graph_Find_1 [.agg ⟨[.int .i64 t44_ID, .int .i64 t44_Value, .slice t44_Edgesa t44_Edgesl t44_Edgesc]⟩, .int .i64 target1] H1 fun v_1 H3 =>
          ∃ (r46 : Int),
          v_1 = .int .i64 r46 ∧
          Q (.tuple ⟨[.int .i64 i9, .bool (r46 == 0)]⟩) H3)) (
      Q (.tuple ⟨[.int .i64 i9, .bool false]⟩) H1))
set_option maxRecDepth 100000 in
theorem fw_slices_BinarySearchFunc_L_api_Vertex_api_Vertex_int64 {x0a : Option Addr} {x0l : Nat} {x0c : Nat} {target1 : Int} {H : AH} {Q : Value → AH → Prop} (h : VC_slices_BinarySearchFunc_L_api_Vertex_api_Vertex_int64 x0a x0l x0c target1 H Q) : FW Ee F_slices_BinarySearchFunc_L_api_Vertex_api_Vertex_int64 [.slice x0a x0l x0c, .int .i64 target1, .func (.func F_graph_Find_1) ⟨[]⟩ ⟨[]⟩] H Q := by
  have e : VC_slices_BinarySearchFunc_L_api_Vertex_api_Vertex_int64 x0a x0l x0c target1 H Q = wpF Ee ⟨[], []⟩ F_slices_BinarySearchFunc_L_api_Vertex_api_Vertex_int64 [.slice x0a x0l x0c, .int .i64 target1, .func (.func F_graph_Find_1) ⟨[]⟩ ⟨[]⟩] H Q := by kernel_rfl
  letI : Sy := sy0
  exact wpF_sound (Eq.mp e h)
/-- cohort/graph.Find -/
def VC_graph_Find (g0_Verticesa : Option Addr) (g0_Verticesl : Nat) (g0_Verticesc : Nat) (id1 : Int) (H : AH) (Q : Value → AH → Prop) : Prop :=
  ∀ (H1 : AH),
  H1 = H.new (.cells [.slice g0_Verticesa g0_Verticesl g0_Verticesc] 0) →
  ∃ (t7a : Option Addr) (t7l : Nat) (t7c : Nat),
  H1.cell H.next 0 = some (.slice t7a t7l t7c) ∧
  FW Ee F_slices_BinarySearchFunc_L_api_Vertex_api_Vertex_int64 [.slice t7a t7l t7c, .int .i64 id1, .func (.func F_graph_Find_1) ⟨[]⟩ ⟨[]⟩] H1 fun v H2 =>
    ∃ (r9_0 : Int) (r9_1 : Bool),
    v = .tuple ⟨[.int .i64 r9_0, .bool r9_1]⟩ ∧
    Q (.tuple ⟨[.int .i64 r9_0, .bool r9_1]⟩) H2
set_option maxRecDepth 100000 in
theorem fw_graph_Find {g0_Verticesa : Option Addr} {g0_Verticesl : Nat} {g0_Verticesc : Nat} {id1 : Int} {H : AH} {Q : Value → AH → Prop} (h : VC_graph_Find g0_Verticesa g0_Verticesl g0_Verticesc id1 H Q) : FW Ee F_graph_Find [.agg ⟨[.slice g0_Verticesa g0_Verticesl g0_Verticesc]⟩, .int .i64 id1] H Q := by
  have e : VC_graph_Find g0_Verticesa g0_Verticesl g0_Verticesc id1 H Q = wpF Ee ⟨[], []⟩ F_graph_Find [.agg ⟨[.slice g0_Verticesa g0_Verticesl g0_Verticesc]⟩, .int .i64 id1] H Q := by kernel_rfl
  letI : Sy := sy0
  exact wpF_sound (Eq.mp e h)
/-- cohort/cohortref03.Find -/
def VC_cohortref03_Find (g0a : Option Addr) (g0l : Nat) (g0c : Nat) (id1 : Int) (H : AH) (Q : Value → AH → Prop) : Prop :=
  ∃ (Inv : Nat → Int → AH → Prop),
  (
    ∃ (n_1 : Nat),
    Inv n_1 0 H) ∧
  ∀ (n : Nat),
  ∀ (at6 : Int) (H1 : AH),
  Inv n at6 H1 →
  cond (decide (at6 < (((g0l : Nat) : Int)))) (
    grd g0a.isSome (
      (0 : Int) ≤ at6 ∧
      (at6 : Int) < ((g0l : Nat) : Int) ∧
      ∃ (t16 : Int),
      H1.cell ((adr g0a).block) ((adr g0a).off + (at6 : Int).toNat * 3) = some (.int .i64 t16) ∧
      cond (decide (t16 < id1)) (
        ∀ (t21 : Int),
        t21 = IntKind.i64.wrap (at6 + 1) →
        ∃ (m : Nat),
        m < n ∧
        Inv m t21 H1) (
        cond (decide (at6 < (((g0l : Nat) : Int)))) (
          grd g0a.isSome (
            (0 : Int) ≤ at6 ∧
            (at6 : Int) < ((g0l : Nat) : Int) ∧
            ∃ (t32 : Int),
            H1.cell ((adr g0a).block) ((adr g0a).off + (at6 : Int).toNat * 3) = some (.int .i64 t32) ∧
            Q (.tuple ⟨[.int .i64 at6, .bool (t32 == id1)]⟩) H1)) (
          Q (.tuple ⟨[.int .i64 at6, .bool false]⟩) H1)))) (
    cond (decide (at6 < (((g0l : Nat) : Int)))) (
      grd g0a.isSome (
        (0 : Int) ≤ at6 ∧
        (at6 : Int) < ((g0l : Nat) : Int) ∧
        ∃ (t32_1 : Int),
        H1.cell ((adr g0a).block) ((adr g0a).off + (at6 : Int).toNat * 3) = some (.int .i64 t32_1) ∧
        Q (.tuple ⟨[.int .i64 at6, .bool (t32_1 == id1)]⟩) H1)) (
      Q (.tuple ⟨[.int .i64 at6, .bool false]⟩) H1))
set_option maxRecDepth 100000 in
theorem fw_cohortref03_Find {g0a : Option Addr} {g0l : Nat} {g0c : Nat} {id1 : Int} {H : AH} {Q : Value → AH → Prop} (h : VC_cohortref03_Find g0a g0l g0c id1 H Q) : FW Ee F_cohortref03_Find [.slice g0a g0l g0c, .int .i64 id1] H Q := by
  have e : VC_cohortref03_Find g0a g0l g0c id1 H Q = wpF Ee ⟨[], []⟩ F_cohortref03_Find [.slice g0a g0l g0c, .int .i64 id1] H Q := by kernel_rfl
  letI : Sy := sy0
  exact wpF_sound (Eq.mp e h)
/-- cohort/cohortref03.Edges -/
def VC_cohortref03_Edges (g0a : Option Addr) (g0l : Nat) (g0c : Nat) (H : AH) (Q : Value → AH → Prop) : Prop :=
  ∃ (Inv : Nat → Int → Int → AH → Prop),
  (
    ∃ (n_1 : Nat),
    Inv n_1 0 0 H) ∧
  ∀ (n : Nat),
  ∀ (n3 : Int) (i4 : Int) (H1 : AH),
  Inv n n3 i4 H1 →
  cond (decide (i4 < (((g0l : Nat) : Int)))) (
    grd g0a.isSome (
      (0 : Int) ≤ i4 ∧
      (i4 : Int) < ((g0l : Nat) : Int) ∧
      ∃ (t16a : Option Addr) (t16l : Nat) (t16c : Nat),
      H1.cell ((adr g0a).block) ((adr g0a).off + (i4 : Int).toNat * 3 + 2) = some (.slice t16a t16l t16c) ∧
      ∀ (t18 : Int),
      t18 = IntKind.i64.wrap (n3 + (((t16l : Nat) : Int))) →
      ∀ (t10 : Int),
      t10 = IntKind.i64.wrap (i4 + 1) →
      ∃ (m : Nat),
      m < n ∧
      Inv m t18 t10 H1)) (
    Q (.int .i64 n3) H1)
set_option maxRecDepth 100000 in
theorem fw_cohortref03_Edges {g0a : Option Addr} {g0l : Nat} {g0c : Nat} {H : AH} {Q : Value → AH → Prop} (h : VC_cohortref03_Edges g0a g0l g0c H Q) : FW Ee F_cohortref03_Edges [.slice g0a g0l g0c] H Q := by
  have e : VC_cohortref03_Edges g0a g0l g0c H Q = wpF Ee ⟨[], []⟩ F_cohortref03_Edges [.slice g0a g0l g0c] H Q := by kernel_rfl
  letI : Sy := sy0
  exact wpF_sound (Eq.mp e h)
/-- cohort/cohortref03.Check -/
def VC_cohortref03_Check (g0a : Option Addr) (g0l : Nat) (g0c : Nat) (H : AH) (Q : Value → AH → Prop) : Prop :=
  cond (decide ((((g0l : Nat) : Int)) > 256)) (
    Q (.int .i64 30) H) (
    ∃ (Inv : Nat → Int → Int → AH → Prop),
    (
      ∃ (n_1 : Nat),
      Inv n_1 0 1 H) ∧
    ∀ (n : Nat),
    ∀ (t2 : Int) (i3 : Int) (H1 : AH),
    Inv n t2 i3 H1 →
    cond (decide (i3 < (((g0l : Nat) : Int)))) (
      ∀ (t20 : Int),
      t20 = IntKind.i64.wrap (i3 - 1) →
      grd g0a.isSome (
        (0 : Int) ≤ t20 ∧
        (t20 : Int) < ((g0l : Nat) : Int) ∧
        ∃ (t23 : Int),
        H1.cell ((adr g0a).block) ((adr g0a).off + (t20 : Int).toNat * 3) = some (.int .i64 t23) ∧
        grd g0a.isSome (
          (0 : Int) ≤ i3 ∧
          (i3 : Int) < ((g0l : Nat) : Int) ∧
          ∃ (t28 : Int),
          H1.cell ((adr g0a).block) ((adr g0a).off + (i3 : Int).toNat * 3) = some (.int .i64 t28) ∧
          cond (decide (t23 ≥ t28)) (
            Q (.int .i64 30) H1) (
            ∀ (t17 : Int),
            t17 = IntKind.i64.wrap (i3 + 1) →
            ∃ (m : Nat),
            m < n ∧
            Inv m t2 t17 H1)))) (
      FW Ee F_cohortref03_Edges [.slice g0a g0l g0c] H1 fun v H2 =>
        ∃ (r31 : Int),
        v = .int .i64 r31 ∧
        cond (decide (r31 > 2048)) (
          Q (.int .i64 31) H2) (
          ∃ (Inv_1 : Nat → Int → Int → AH → Prop),
          (
            ∃ (n_3 : Nat),
            Inv_1 n_3 t2 0 H2) ∧
          ∀ (n_2 : Nat),
          ∀ (t2_1 : Int) (i4 : Int) (H3 : AH),
          Inv_1 n_2 t2_1 i4 H3 →
          cond (decide (i4 < (((g0l : Nat) : Int)))) (
            grd g0a.isSome (
              (0 : Int) ≤ i4 ∧
              (i4 : Int) < ((g0l : Nat) : Int) ∧
              ∃ (t43a : Option Addr) (t43l : Nat) (t43c : Nat),
              H3.cell ((adr g0a).block) ((adr g0a).off + (i4 : Int).toNat * 3 + 2) = some (.slice t43a t43l t43c) ∧
              ∃ (Inv_2 : Nat → Int → Int → AH → Prop),
              (
                ∃ (n_5 : Nat),
                Inv_2 n_5 t2_1 0 H3) ∧
              ∀ (n_4 : Nat),
              ∀ (t2_2 : Int) (k6 : Int) (H4 : AH),
              Inv_2 n_4 t2_2 k6 H4 →
              cond (decide (k6 < (((t43l : Nat) : Int)))) (
                grd t43a.isSome (
                  (0 : Int) ≤ k6 ∧
                  (k6 : Int) < ((t43l : Nat) : Int) ∧
                  ∃ (t56 : Int),
                  H4.cell ((adr t43a).block) ((adr t43a).off + (k6 : Int).toNat * 2) = some (.int .i64 t56) ∧
                  FW Ee F_cohortref03_Find [.slice g0a g0l g0c, .int .i64 t56] H4 fun v_1 H5 =>
                    ∃ (r57_0 : Int) (r57_1 : Bool),
                    v_1 = .tuple ⟨[.int .i64 r57_0, .bool r57_1]⟩ ∧
                    cond (!r57_1) (
                      Q (.int .i64 31) H5) (
                      cond (decide (k6 > 0)) (
                        ∀ (t68 : Int),
                        t68 = IntKind.i64.wrap (k6 - 1) →
                        grd t43a.isSome (
                          (0 : Int) ≤ t68 ∧
                          (t68 : Int) < ((t43l : Nat) : Int) ∧
                          ∃ (t71 : Int),
                          H5.cell ((adr t43a).block) ((adr t43a).off + (t68 : Int).toNat * 2) = some (.int .i64 t71) ∧
                          grd t43a.isSome (
                            (0 : Int) ≤ k6 ∧
                            (k6 : Int) < ((t43l : Nat) : Int) ∧
                            ∃ (t76 : Int),
                            H5.cell ((adr t43a).block) ((adr t43a).off + (k6 : Int).toNat * 2) = some (.int .i64 t76) ∧
                            cond (decide (t71 ≥ t76)) (
                              Q (.int .i64 31) H5) (
                              ∀ (t49 : Int),
                              t49 = IntKind.i64.wrap (k6 + 1) →
                              ∃ (m_2 : Nat),
                              m_2 < n_4 ∧
                              Inv_2 m_2 t2_2 t49 H5)))) (
                        ∀ (t49_1 : Int),
                        t49_1 = IntKind.i64.wrap (k6 + 1) →
                        ∃ (m_2 : Nat),
                        m_2 < n_4 ∧
                        Inv_2 m_2 t2_2 t49_1 H5)))) (
                ∀ (t38 : Int),
                t38 = IntKind.i64.wrap (i4 + 1) →
                ∃ (m_1 : Nat),
                m_1 < n_2 ∧
                Inv_1 m_1 t2_2 t38 H4))) (
            Q (.int .i64 0) H3))))
set_option maxRecDepth 100000 in
theorem fw_cohortref03_Check {g0a : Option Addr} {g0l : Nat} {g0c : Nat} {H : AH} {Q : Value → AH → Prop} (h : VC_cohortref03_Check g0a g0l g0c H Q) : FW Ee F_cohortref03_Check [.slice g0a g0l g0c] H Q := by
  have e : VC_cohortref03_Check g0a g0l g0c H Q = wpF Ee ⟨[], []⟩ F_cohortref03_Check [.slice g0a g0l g0c] H Q := by kernel_rfl
  letI : Sy := sy0
  exact wpF_sound (Eq.mp e h)
/-- cohort/cohortlaw03.Ref -/
def VC_cohortlaw03_Ref (g0_Verticesa : Option Addr) (g0_Verticesl : Nat) (g0_Verticesc : Nat) (H : AH) (Q : Value → AH → Prop) : Prop :=
  ∀ (H1 : AH),
  H1 = H.new (.cells [.slice g0_Verticesa g0_Verticesl g0_Verticesc] 0) →
  ∀ (H2 : AH),
  H2 = H1.new (.cells [] 0) →
  ∃ (Inv : Nat → Option Addr → Nat → Nat → Int → AH → Prop),
  (
    ∃ (n_1 : Nat),
    Inv n_1 (some ⟨H1.next, 0, none⟩) 0 0 0 H2) ∧
  ∀ (n : Nat),
  ∀ (out3a : Option Addr) (out3l : Nat) (out3c : Nat) (i4 : Int) (H3 : AH),
  Inv n out3a out3l out3c i4 H3 →
  ∃ (t11a : Option Addr) (t11l : Nat) (t11c : Nat),
  H3.cell H.next 0 = some (.slice t11a t11l t11c) ∧
  cond (decide (i4 < (((t11l : Nat) : Int)))) (
    ∃ (t17a : Option Addr) (t17l : Nat) (t17c : Nat),
    H3.cell H.next 0 = some (.slice t17a t17l t17c) ∧
    grd t17a.isSome (
      (0 : Int) ≤ i4 ∧
      (i4 : Int) < ((t17l : Nat) : Int) ∧
      ∃ (t20_ID : Int) (t20_Value : Int) (t20_Edgesa : Option Addr) (t20_Edgesl : Nat) (t20_Edgesc : Nat),
      H3.cell ((adr t17a).block) ((adr t17a).off + (i4 : Int).toNat * 3 + 0) = some (.int .i64 t20_ID) ∧
      H3.cell ((adr t17a).block) ((adr t17a).off + (i4 : Int).toNat * 3 + 1) = some (.int .i64 t20_Value) ∧
      H3.cell ((adr t17a).block) ((adr t17a).off + (i4 : Int).toNat * 3 + 2) = some (.slice t20_Edgesa t20_Edgesl t20_Edgesc) ∧
      ∀ (H4 : AH),
      H4 = H3.new (.cells [.int .i64 0, .int .i64 0, .slice none 0 0] 0) →
      ∃ (H5 : AH),
      storeCellsv H4 H3.next 0 [.int .i64 t20_ID, .int .i64 t20_Value, .slice t20_Edgesa t20_Edgesl t20_Edgesc] = some H5 ∧
      ∃ (t22 : Int),
      H5.cell H3.next 0 = some (.int .i64 t22) ∧
      ∃ (t24 : Int),
      H5.cell H3.next 1 = some (.int .i64 t24) ∧
      ∀ (H6 : AH),
      H6 = H5.new (.cells [.int .i64 0, .int .i64 0, .slice none 0 0] 0) →
      ∃ (H7 : AH),
      storeCellsv H6 H5.next 0 [.int .i64 t22, .int .i64 t24, .slice none 0 0] = some H7 ∧
      ∃ (Inv_1 : Nat → Int → AH → Prop),
      (
        ∃ (n_3 : Nat),
        Inv_1 n_3 0 H7) ∧
      ∀ (n_2 : Nat),
      ∀ (k7 : Int) (H8 : AH),
      Inv_1 n_2 k7 H8 →
      ∃ (t28a : Option Addr) (t28l : Nat) (t28c : Nat),
      H8.cell H3.next 2 = some (.slice t28a t28l t28c) ∧
      cond (decide (k7 < (((t28l : Nat) : Int)))) (
        ∃ (t34a : Option Addr) (t34l : Nat) (t34c : Nat),
        H8.cell H5.next 2 = some (.slice t34a t34l t34c) ∧
        ∃ (t36a : Option Addr) (t36l : Nat) (t36c : Nat),
        H8.cell H3.next 2 = some (.slice t36a t36l t36c) ∧
        grd t36a.isSome (
          (0 : Int) ≤ k7 ∧
          (k7 : Int) < ((t36l : Nat) : Int) ∧
          ∃ (t40 : Int),
          H8.cell ((adr t36a).block) ((adr t36a).off + (k7 : Int).toNat * 2) = some (.int .i64 t40) ∧
          ∃ (t42a : Option Addr) (t42l : Nat) (t42c : Nat),
          H8.cell H3.next 2 = some (.slice t42a t42l t42c) ∧
          grd t42a.isSome (
            (0 : Int) ≤ k7 ∧
            (k7 : Int) < ((t42l : Nat) : Int) ∧
            ∃ (t46 : Int),
            H8.cell ((adr t42a).block) ((adr t42a).off + (k7 : Int).toNat * 2 + 1) = some (.int .i64 t46) ∧
            ∀ (H9 : AH),
            H9 = H8.new (.cells [.int .i64 t40, .int .i64 t46] 0) →
            ∃ (t49a : Option Addr) (t49l : Nat) (t49c : Nat) (H10 : AH),
            apnd H9 2 16 t34a t34l t34c (.slice (some ⟨H8.next, 0, none⟩) 1 2) = some (.slice t49a t49l t49c, H10) ∧
            ∃ (H11 : AH),
            storeCellsv H10 H5.next 2 [.slice t49a t49l t49c] = some H11 ∧
            H9.cell ((adr t42a).block) ((adr t42a).off + (k7 : Int).toNat * 2 + 1) = some (.int .i64 t46) ∧
            H9.cell H3.next 2 = some (.slice t42a t42l t42c) ∧
            H9.cell ((adr t36a).block) ((adr t36a).off + (k7 : Int).toNat * 2) = some (.int .i64 t40) ∧
            H9.cell H3.next 2 = some (.slice t36a t36l t36c) ∧
            H9.cell H5.next 2 = some (.slice t34a t34l t34c) ∧
            ∀ (t32 : Int),
            t32 = IntKind.i64.wrap (k7 + 1) →
            ∃ (m_1 : Nat),
            m_1 < n_2 ∧
            Inv_1 m_1 t32 H11))) (
        ∃ (t52_ID : Int) (t52_Value : Int) (t52_Edgesa : Option Addr) (t52_Edgesl : Nat) (t52_Edgesc : Nat),
        H8.cell H5.next (0 + 0) = some (.int .i64 t52_ID) ∧
        H8.cell H5.next (0 + 1) = some (.int .i64 t52_Value) ∧
        H8.cell H5.next (0 + 2) = some (.slice t52_Edgesa t52_Edgesl t52_Edgesc) ∧
        ∀ (H12 : AH),
        H12 = H8.new (.cells [.int .i64 t52_ID, .int .i64 t52_Value, .slice t52_Edgesa t52_Edgesl t52_Edgesc] 0) →
        ∃ (t54a : Option Addr) (t54l : Nat) (t54c : Nat) (H13 : AH),
        apnd H12 3 40 out3a out3l out3c (.slice (some ⟨H8.next, 0, none⟩) 1 2) = some (.slice t54a t54l t54c, H13) ∧
        ∀ (t15 : Int),
        t15 = IntKind.i64.wrap (i4 + 1) →
        ∃ (m : Nat),
        m < n ∧
        Inv m t54a t54l t54c t15 H13))) (
    Q (.slice out3a out3l out3c) H3)
set_option maxRecDepth 100000 in
theorem fw_cohortlaw03_Ref {g0_Verticesa : Option Addr} {g0_Verticesl : Nat} {g0_Verticesc : Nat} {H : AH} {Q : Value → AH → Prop} (h : VC_cohortlaw03_Ref g0_Verticesa g0_Verticesl g0_Verticesc H Q) : FW Ee F_cohortlaw03_Ref [.agg ⟨[.slice g0_Verticesa g0_Verticesl g0_Verticesc]⟩] H Q := by
  have e : VC_cohortlaw03_Ref g0_Verticesa g0_Verticesl g0_Verticesc H Q = wpF Ee ⟨[], []⟩ F_cohortlaw03_Ref [.agg ⟨[.slice g0_Verticesa g0_Verticesl g0_Verticesc]⟩] H Q := by kernel_rfl
  letI : Sy := sy0
  exact wpF_sound (Eq.mp e h)
/-- cohort/cohortlaw10.good -/
def VC_cohortlaw10_good (g0_Verticesa : Option Addr) (g0_Verticesl : Nat) (g0_Verticesc : Nat) (H : AH) (Q : Value → AH → Prop) : Prop :=
  ∀ (H1 : AH),
  H1 = H.new (.cells [.slice g0_Verticesa g0_Verticesl g0_Verticesc] 0) →
  ∃ (t5_Verticesa : Option Addr) (t5_Verticesl : Nat) (t5_Verticesc : Nat),
  H1.cell H.next (0 + 0) = some (.slice t5_Verticesa t5_Verticesl t5_Verticesc) ∧
  FW Ee F_cohortlaw03_Ref [.agg ⟨[.slice t5_Verticesa t5_Verticesl t5_Verticesc]⟩] H1 fun v H2 =>
    ∃ (r6a : Option Addr) (r6l : Nat) (r6c : Nat),
    v = .slice r6a r6l r6c ∧
    FW Ee F_cohortref03_Check [.slice r6a r6l r6c] H2 fun v_1 H3 =>
      ∃ (r7 : Int),
      v_1 = .int .i64 r7 ∧
      cond (r7 != 0) (
        Q (.bool false) H3) (
        ∃ (t11a : Option Addr) (t11l : Nat) (t11c : Nat),
        H3.cell H.next 0 = some (.slice t11a t11l t11c) ∧
        cond (decide ((((t11l : Nat) : Int)) > 20)) (
          Q (.bool false) H3) (
          ∃ (Inv : Nat → Bool → Int → AH → Prop),
          (
            ∃ (n_1 : Nat),
            Inv n_1 false 0 H3) ∧
          ∀ (n : Nat),
          ∀ (t2 : Bool) (i3 : Int) (H4 : AH),
          Inv n t2 i3 H4 →
          ∃ (t17a : Option Addr) (t17l : Nat) (t17c : Nat),
          H4.cell H.next 0 = some (.slice t17a t17l t17c) ∧
          cond (decide (i3 < (((t17l : Nat) : Int)))) (
            ∃ (Inv_1 : Nat → Bool → Int → AH → Prop),
            (
              ∃ (n_3 : Nat),
              Inv_1 n_3 t2 0 H4) ∧
            ∀ (n_2 : Nat),
            ∀ (t2_1 : Bool) (k4 : Int) (H5 : AH),
            Inv_1 n_2 t2_1 k4 H5 →
            ∃ (t24a : Option Addr) (t24l : Nat) (t24c : Nat),
            H5.cell H.next 0 = some (.slice t24a t24l t24c) ∧
            grd t24a.isSome (
              (0 : Int) ≤ i3 ∧
              (i3 : Int) < ((t24l : Nat) : Int) ∧
              ∃ (t28a : Option Addr) (t28l : Nat) (t28c : Nat),
              H5.cell ((adr t24a).block) ((adr t24a).off + (i3 : Int).toNat * 3 + 2) = some (.slice t28a t28l t28c) ∧
              cond (decide (k4 < (((t28l : Nat) : Int)))) (
                ∃ (t34a : Option Addr) (t34l : Nat) (t34c : Nat),
                H5.cell H.next 0 = some (.slice t34a t34l t34c) ∧
                grd t34a.isSome (
                  (0 : Int) ≤ i3 ∧
                  (i3 : Int) < ((t34l : Nat) : Int) ∧
                  ∃ (t38a : Option Addr) (t38l : Nat) (t38c : Nat),
                  H5.cell ((adr t34a).block) ((adr t34a).off + (i3 : Int).toNat * 3 + 2) = some (.slice t38a t38l t38c) ∧
                  grd t38a.isSome (
                    (0 : Int) ≤ k4 ∧
                    (k4 : Int) < ((t38l : Nat) : Int) ∧
                    ∃ (t42 : Int),
                    H5.cell ((adr t38a).block) ((adr t38a).off + (k4 : Int).toNat * 2 + 1) = some (.int .i64 t42) ∧
                    cond (decide (t42 < 0)) (
                      Q (.bool false) H5) (
                      ∀ (t32 : Int),
                      t32 = IntKind.i64.wrap (k4 + 1) →
                      ∃ (m_1 : Nat),
                      m_1 < n_2 ∧
                      Inv_1 m_1 t2_1 t32 H5)))) (
                ∀ (t21 : Int),
                t21 = IntKind.i64.wrap (i3 + 1) →
                ∃ (m : Nat),
                m < n ∧
                Inv m t2_1 t21 H5))) (
            Q (.bool true) H4)))
set_option maxRecDepth 100000 in
theorem fw_cohortlaw10_good {g0_Verticesa : Option Addr} {g0_Verticesl : Nat} {g0_Verticesc : Nat} {H : AH} {Q : Value → AH → Prop} (h : VC_cohortlaw10_good g0_Verticesa g0_Verticesl g0_Verticesc H Q) : FW Ee F_cohortlaw10_good [.agg ⟨[.slice g0_Verticesa g0_Verticesl g0_Verticesc]⟩] H Q := by
  have e : VC_cohortlaw10_good g0_Verticesa g0_Verticesl g0_Verticesc H Q = wpF Ee ⟨[], []⟩ F_cohortlaw10_good [.agg ⟨[.slice g0_Verticesa g0_Verticesl g0_Verticesc]⟩] H Q := by kernel_rfl
  letI : Sy := sy0
  exact wpF_sound (Eq.mp e h)
/-- cohort/graph.All -/
def VC_graph_All (g0_Verticesa : Option Addr) (g0_Verticesl : Nat) (g0_Verticesc : Nat) (H : AH) (Q : Value → AH → Prop) : Prop :=
  ∀ (H1 : AH),
  H1 = H.new (.cells [.slice g0_Verticesa g0_Verticesl g0_Verticesc] 0) →
  Q (.func (.func F_graph_All_1) ⟨[]⟩ ⟨[.pointer (some ⟨H.next, 0, none⟩)]⟩) H1
set_option maxRecDepth 100000 in
theorem fw_graph_All {g0_Verticesa : Option Addr} {g0_Verticesl : Nat} {g0_Verticesc : Nat} {H : AH} {Q : Value → AH → Prop} (h : VC_graph_All g0_Verticesa g0_Verticesl g0_Verticesc H Q) : FW Ee F_graph_All [.agg ⟨[.slice g0_Verticesa g0_Verticesl g0_Verticesc]⟩] H Q := by
  have e : VC_graph_All g0_Verticesa g0_Verticesl g0_Verticesc H Q = wpF Ee ⟨[], []⟩ F_graph_All [.agg ⟨[.slice g0_Verticesa g0_Verticesl g0_Verticesc]⟩] H Q := by kernel_rfl
  letI : Sy := sy0
  exact wpF_sound (Eq.mp e h)
/-- cohort/graph.All$1 -/
def VC_graph_All_1 (yield0l : Nat) (t1b : Nat) (t1o : Nat) (H : AH) (Q : Value → AH → Prop) : Prop :=
  ∃ (t8a : Option Addr) (t8l : Nat) (t8c : Nat),
  H.cell t1b t1o = some (.slice t8a t8l t8c) ∧
  ∃ (Inv : Nat → Int → AH → Prop),
  (
    ∃ (n_1 : Nat),
    Inv n_1 0 H) ∧
  ∀ (n : Nat),
  ∀ (t10 : Int) (H1 : AH),
  Inv n t10 H1 →
  cond (decide (t10 < (((t8l : Nat) : Int)))) (
    grd t8a.isSome (
      (0 : Int) ≤ t10 ∧
      (t10 : Int) < ((t8l : Nat) : Int) ∧
      ∃ (t13_ID : Int) (t13_Value : Int) (t13_Edgesa : Option Addr) (t13_Edgesl : Nat) (t13_Edgesc : Nat),
      H1.cell ((adr t8a).block) ((adr t8a).off + (t10 : Int).toNat * 3 + 0) = some (.int .i64 t13_ID) ∧
      H1.cell ((adr t8a).block) ((adr t8a).off + (t10 : Int).toNat * 3 + 1) = some (.int .i64 t13_Value) ∧
      H1.cell ((adr t8a).block) ((adr t8a).off + (t10 : Int).toNat * 3 + 2) = some (.slice t13_Edgesa t13_Edgesl t13_Edgesc) ∧
      ∀ (H2 : AH),
      H2 = H1.new (.cells [.int .i64 0, .int .i64 0, .slice none 0 0] 0) →
      ∃ (H3 : AH),
      storeCellsv H2 H1.next 0 [.int .i64 t13_ID, .int .i64 t13_Value, .slice t13_Edgesa t13_Edgesl t13_Edgesc] = some H3 ∧
      ∃ (t15a : Option Addr) (t15l : Nat) (t15c : Nat),
      H3.cell H1.next 2 = some (.slice t15a t15l t15c) ∧
      ∃ (Inv_1 : Nat → Int → AH → Prop),
      (
        ∃ (n_3 : Nat),
        Inv_1 n_3 0 H3) ∧
      ∀ (n_2 : Nat),
      ∀ (t17 : Int) (H4 : AH),
      Inv_1 n_2 t17 H4 →
      cond (decide (t17 < (((t15l : Nat) : Int)))) (
        grd t15a.isSome (
          (0 : Int) ≤ t17 ∧
          (t17 : Int) < ((t15l : Nat) : Int) ∧
          ∃ (t20_To : Int) (t20_Weight : Int),
          H4.cell ((adr t15a).block) ((adr t15a).off + (t17 : Int).toNat * 2 + 0) = some (.int .i64 t20_To) ∧
          H4.cell ((adr t15a).block) ((adr t15a).off + (t17 : Int).toNat * 2 + 1) = some (.int .i64 t20_Weight) ∧
          ∀ (H5 : AH),
          H5 = H4.new (.cells [.int .i64 0, .int .i64 0] 0) →
          ∃ (H6 : AH),
          storeCellsv H5 H4.next 0 [.int .i64 t20_To, .int .i64 t20_Weight] = some H6 ∧
          ∃ (t23 : Int),
          H6.cell H1.next 0 = some (.int .i64 t23) ∧
          ∃ (t24_To : Int) (t24_Weight : Int),
          H6.cell H4.next (0 + 0) = some (.int .i64 t24_To) ∧
          H6.cell H4.next (0 + 1) = some (.int .i64 t24_Weight) ∧
          RW Ee yield0l [.int .i64 t23, .agg ⟨[.int .i64 t24_To, .int .i64 t24_Weight]⟩] H6 fun v H7 =>
            ∃ (t25 : Bool),
            v = .bool t25 ∧
            cond (!t25) (
              Q (.tuple ⟨[]⟩) H7) (
              ∀ (t27 : Int),
              t27 = IntKind.i64.wrap (t17 + 1) →
              ∃ (m_1 : Nat),
              m_1 < n_2 ∧
              Inv_1 m_1 t27 H7))) (
        ∀ (t28 : Int),
        t28 = IntKind.i64.wrap (t10 + 1) →
        ∃ (m : Nat),
        m < n ∧
        Inv m t28 H4))) (
    Q (.tuple ⟨[]⟩) H1)
set_option maxRecDepth 100000 in
theorem fw_graph_All_1 {yield0l : Nat} {t1b : Nat} {t1o : Nat} {H : AH} {Q : Value → AH → Prop} (h : VC_graph_All_1 yield0l t1b t1o H Q) : FW Ee F_graph_All_1 [.func (.yield yield0l) ⟨[]⟩ ⟨[]⟩, .pointer (some ⟨t1b, t1o, none⟩)] H Q := by
  have e : VC_graph_All_1 yield0l t1b t1o H Q = wpF Ee ⟨[], []⟩ F_graph_All_1 [.func (.yield yield0l) ⟨[]⟩ ⟨[]⟩, .pointer (some ⟨t1b, t1o, none⟩)] H Q := by kernel_rfl
  letI : Sy := sy0
  exact wpF_sound (Eq.mp e h)
/-- cohort/spec.Degrees -/
def VC_spec_Degrees (g0_Verticesa : Option Addr) (g0_Verticesl : Nat) (g0_Verticesc : Nat) (H : AH) (Q : Value → AH → Prop) : Prop :=
  ∀ (H1 : AH),
  H1 = H.new (.cells [.slice g0_Verticesa g0_Verticesl g0_Verticesc] 0) →
  ∃ (t11a : Option Addr) (t11l : Nat) (t11c : Nat),
  H1.cell H.next 0 = some (.slice t11a t11l t11c) ∧
  (0 : Int) ≤ ((t11l : Nat) : Int) ∧
  (((t11l : Nat) : Int) : Int) ≤ ((t11l : Nat) : Int) ∧
  (((t11l : Nat) : Int) : Int) < 4294967296 ∧
  (((t11l : Nat) : Int) : Int).toNat * 8 ≤ 140737488355328 ∧
  ∀ (H2 : AH),
  H2 = H1.new (.cells ((List.replicate (((t11l : Nat) : Int) : Int).toNat [.int .i64 0]).flatten) 0) →
  ∀ (H3 : AH),
  H3 = H2.new (.cells [.slice none 0 0] 0) →
  ∃ (H4 : AH),
  storeCellsv H3 H2.next 0 [.slice (some ⟨H1.next, 0, none⟩) ((((t11l : Nat) : Int) : Int).toNat) (2 * (((t11l : Nat) : Int) : Int).toNat)] = some H4 ∧
  ∃ (t14_Verticesa : Option Addr) (t14_Verticesl : Nat) (t14_Verticesc : Nat),
  H4.cell H.next (0 + 0) = some (.slice t14_Verticesa t14_Verticesl t14_Verticesc) ∧
  FW Ee F_graph_All [.agg ⟨[.slice t14_Verticesa t14_Verticesl t14_Verticesc]⟩] H4 fun v H5 =>
    ∃ (b15 : Nat),
    v = .func (.func F_graph_All_1) ⟨[]⟩ ⟨[.pointer (some ⟨b15, 0, none⟩)]⟩ ∧
    ∀ (L : ALoop),
    RdL 44 Ee.g [(1, .pointer (some ⟨H.next, 0, none⟩)), (3, .pointer (some ⟨H2.next, 0, none⟩))] (rfOf Ee F_spec_Degrees 0) L →
    L.st = .ready →
    L.pend = none →
    FW Ee F_graph_All_1 [.func (.yield H5.next) ⟨[]⟩ ⟨[]⟩, .pointer (some ⟨b15, 0, none⟩)] (H5.new (.loop L)) fun _ H6 =>
      ∃ (L_1 : ALoop),
      H6.get H5.next = some (.loop L_1) ∧
      L_1.st ≠ .busy ∧
      match L_1.pend with
      | none =>
        ∃ (t43a_1 : Option Addr) (t43l_1 : Nat) (t43c_1 : Nat),
        (H6.set H5.next (.loop { L_1 with st := .exhausted })).cell H2.next 0 = some (.slice t43a_1 t43l_1 t43c_1) ∧
        Q (.slice t43a_1 t43l_1 t43c_1) ((H6.set H5.next (.loop { L_1 with st := .exhausted })))
      | some (.exit i) =>
        cond (Nat.beq i 0) (
          ∃ (t43a : Option Addr) (t43l : Nat) (t43c : Nat),
          (H6.set H5.next (.loop { L_1 with st := .exhausted })).cell H2.next 0 = some (.slice t43a t43l t43c) ∧
          Q (.slice t43a t43l t43c) ((H6.set H5.next (.loop { L_1 with st := .exhausted })))) (
          False)
      | some .ret =>
        Q (.slice none 0 0) ((H6.set H5.next (.loop { L_1 with st := .exhausted })))
      | _ =>
        False
set_option maxRecDepth 100000 in
theorem fw_spec_Degrees {g0_Verticesa : Option Addr} {g0_Verticesl : Nat} {g0_Verticesc : Nat} {H : AH} {Q : Value → AH → Prop} (h : VC_spec_Degrees g0_Verticesa g0_Verticesl g0_Verticesc H Q) : FW Ee F_spec_Degrees [.agg ⟨[.slice g0_Verticesa g0_Verticesl g0_Verticesc]⟩] H Q := by
  have e : VC_spec_Degrees g0_Verticesa g0_Verticesl g0_Verticesc H Q = wpF Ee ⟨[], []⟩ F_spec_Degrees [.agg ⟨[.slice g0_Verticesa g0_Verticesl g0_Verticesc]⟩] H Q := by kernel_rfl
  letI : Sy := sy0
  exact wpF_sound (Eq.mp e h)
/-- cohort/spec.Degrees: a round -/
def VC_spec_Degrees_r0 (g1b : Nat) (g1o : Nat) (out3b : Nat) (out3o : Nat) (p16 : Int) (p17_To : Int) (p17_Weight : Int) (l : Nat) (H : AH) (Q : Value → AH → Prop) : Prop :=
  ∀ (H1 : AH),
  H1 = H.new (.cells [.int .i64 0, .int .i64 0] 0) →
  ∃ (H2 : AH),
  storeCellsv H1 H.next 0 [.int .i64 p17_To, .int .i64 p17_Weight] = some H2 ∧
  ∃ (L : ALoop),
  H2.get l = some (.loop L) ∧
  L.st = .ready ∧
  L.body = (rfOf Ee F_spec_Degrees 0).2.2 ∧
  ∃ (t19_Verticesa : Option Addr) (t19_Verticesl : Nat) (t19_Verticesc : Nat),
  (H2.set l (.loop { L with st := .busy })).cell g1b (g1o + 0) = some (.slice t19_Verticesa t19_Verticesl t19_Verticesc) ∧
  FW Ee F_graph_Find [.agg ⟨[.slice t19_Verticesa t19_Verticesl t19_Verticesc]⟩, .int .i64 p16] ((H2.set l (.loop { L with st := .busy }))) fun v H3 =>
    ∃ (r21_0 : Int) (r21_1 : Bool),
    v = .tuple ⟨[.int .i64 r21_0, .bool r21_1]⟩ ∧
    ∃ (t25_Verticesa : Option Addr) (t25_Verticesl : Nat) (t25_Verticesc : Nat),
    H3.cell g1b (g1o + 0) = some (.slice t25_Verticesa t25_Verticesl t25_Verticesc) ∧
    ∃ (t27 : Int),
    H3.cell H.next 0 = some (.int .i64 t27) ∧
    FW Ee F_graph_Find [.agg ⟨[.slice t25_Verticesa t25_Verticesl t25_Verticesc]⟩, .int .i64 t27] H3 fun v_1 H4 =>
      ∃ (r28_0 : Int) (r28_1 : Bool),
      v_1 = .tuple ⟨[.int .i64 r28_0, .bool r28_1]⟩ ∧
      ∃ (t31a : Option Addr) (t31l : Nat) (t31c : Nat),
      H4.cell out3b out3o = some (.slice t31a t31l t31c) ∧
      grd t31a.isSome (
        (0 : Int) ≤ r21_0 ∧
        (r21_0 : Int) < ((t31l : Nat) : Int) ∧
        ∃ (t34 : Int),
        H4.cell ((adr t31a).block) ((adr t31a).off + (r21_0 : Int).toNat * 1) = some (.int .i64 t34) ∧
        ∀ (t35 : Int),
        t35 = IntKind.i64.wrap (t34 + 1) →
        grd t31a.isSome (
          (0 : Int) ≤ r21_0 ∧
          (r21_0 : Int) < ((t31l : Nat) : Int) ∧
          ∃ (H5 : AH),
          storeCellsv H4 ((adr t31a).block) ((adr t31a).off + (r21_0 : Int).toNat * 1) [.int .i64 t35] = some H5 ∧
          ∃ (t37a : Option Addr) (t37l : Nat) (t37c : Nat),
          H5.cell out3b out3o = some (.slice t37a t37l t37c) ∧
          grd t37a.isSome (
            (0 : Int) ≤ r28_0 ∧
            (r28_0 : Int) < ((t37l : Nat) : Int) ∧
            ∃ (t40 : Int),
            H5.cell ((adr t37a).block) ((adr t37a).off + (r28_0 : Int).toNat * 1) = some (.int .i64 t40) ∧
            ∀ (t41 : Int),
            t41 = IntKind.i64.wrap (t40 + 1) →
            grd t37a.isSome (
              (0 : Int) ≤ r28_0 ∧
              (r28_0 : Int) < ((t37l : Nat) : Int) ∧
              ∃ (H6 : AH),
              storeCellsv H5 ((adr t37a).block) ((adr t37a).off + (r28_0 : Int).toNat * 1) [.int .i64 t41] = some H6 ∧
              ∃ (L_1 : ALoop),
              H6.get l = some (.loop L_1) ∧
              Q (.bool true) (H6.set l (.loop { L_1 with st := .ready, pend := none }))))))
set_option maxRecDepth 100000 in
theorem rw_spec_Degrees_r0 {g1b : Nat} {g1o : Nat} {out3b : Nat} {out3o : Nat} {p16 : Int} {p17_To : Int} {p17_Weight : Int} {l : Nat} {H : AH} {Q : Value → AH → Prop} {L : ALoop} (hl : H.get l = some (.loop L)) (hR : RdL 44 Ee.g [(1, .pointer (some ⟨g1b, g1o, none⟩)), (3, .pointer (some ⟨out3b, out3o, none⟩))] (rfOf Ee F_spec_Degrees 0) L) (h : VC_spec_Degrees_r0 g1b g1o out3b out3o p16 p17_To p17_Weight l H Q) : RW Ee l [.int .i64 p16, .agg ⟨[.int .i64 p17_To, .int .i64 p17_Weight]⟩] H Q := by
  have e : VC_spec_Degrees_r0 g1b g1o out3b out3o p16 p17_To p17_Weight l H Q = wpRound Ee ⟨[], []⟩ (frm 44 Ee.g [(1, .pointer (some ⟨g1b, g1o, none⟩)), (3, .pointer (some ⟨out3b, out3o, none⟩))]) (rfOf Ee F_spec_Degrees 0).1 (rfOf Ee F_spec_Degrees 0).2.1 (rfOf Ee F_spec_Degrees 0).2.2 l [.int .i64 p16, .agg ⟨[.int .i64 p17_To, .int .i64 p17_Weight]⟩] H Q := by kernel_rfl
  letI : Sy := sy0
  exact wpRoundR_sound hl hR (Eq.mp e h)
/-- cohort/cohortlaw10.SpecDegrees -/
def VC_cohortlaw10_SpecDegrees (g0_Verticesa : Option Addr) (g0_Verticesl : Nat) (g0_Verticesc : Nat) (H : AH) (Q : Value → AH → Prop) : Prop :=
  ∀ (H1 : AH),
  H1 = H.new (.cells [.slice g0_Verticesa g0_Verticesl g0_Verticesc] 0) →
  ∃ (t10_Verticesa : Option Addr) (t10_Verticesl : Nat) (t10_Verticesc : Nat),
  H1.cell H.next (0 + 0) = some (.slice t10_Verticesa t10_Verticesl t10_Verticesc) ∧
  FW Ee F_cohortlaw10_good [.agg ⟨[.slice t10_Verticesa t10_Verticesl t10_Verticesc]⟩] H1 fun v H2 =>
    ∃ (r11 : Bool),
    v = .bool r11 ∧
    cond (!r11) (
      FW Ee F_cohortlaw10_awake [] H2 fun v_1 H3 =>
        ∃ (r13 : Bool),
        v_1 = .bool r13 ∧
        Q (.bool r13) H3) (
      ∃ (t14_Verticesa : Option Addr) (t14_Verticesl : Nat) (t14_Verticesc : Nat),
      H2.cell H.next (0 + 0) = some (.slice t14_Verticesa t14_Verticesl t14_Verticesc) ∧
      FW Ee F_cohortlaw03_Ref [.agg ⟨[.slice t14_Verticesa t14_Verticesl t14_Verticesc]⟩] H2 fun v_2 H4 =>
        ∃ (r15a : Option Addr) (r15l : Nat) (r15c : Nat),
        v_2 = .slice r15a r15l r15c ∧
        ∃ (t16_Verticesa : Option Addr) (t16_Verticesl : Nat) (t16_Verticesc : Nat),
        H4.cell H.next (0 + 0) = some (.slice t16_Verticesa t16_Verticesl t16_Verticesc) ∧
        FW Ee F_spec_Degrees [.agg ⟨[.slice t16_Verticesa t16_Verticesl t16_Verticesc]⟩] H4 fun v_3 H5 =>
          ∃ (r17a : Option Addr) (r17l : Nat) (r17c : Nat),
          v_3 = .slice r17a r17l r17c ∧
          cond ((((r17l : Nat) : Int)) != (((r15l : Nat) : Int))) (
            Q (.bool false) H5) (
            ∃ (Inv : Nat → Bool → Int → Int → AH → Prop),
            (
              ∃ (n_1 : Nat),
              Inv n_1 false 0 0 H5) ∧
            ∀ (n : Nat),
            ∀ (t2 : Bool) (all5 : Int) (i6 : Int) (H6 : AH),
            Inv n t2 all5 i6 H6 →
            cond (decide (i6 < (((r15l : Nat) : Int)))) (
              grd r15a.isSome (
                (0 : Int) ≤ i6 ∧
                (i6 : Int) < ((r15l : Nat) : Int) ∧
                ∃ (t33a : Option Addr) (t33l : Nat) (t33c : Nat),
                H6.cell ((adr r15a).block) ((adr r15a).off + (i6 : Int).toNat * 3 + 2) = some (.slice t33a t33l t33c) ∧
                ∃ (Inv_1 : Nat → Int → Int → AH → Prop),
                (
                  ∃ (n_3 : Nat),
                  Inv_1 n_3 (((t33l : Nat) : Int)) 0 H6) ∧
                ∀ (n_2 : Nat),
                ∀ (n7 : Int) (k8 : Int) (H7 : AH),
                Inv_1 n_2 n7 k8 H7 →
                cond (decide (k8 < (((r15l : Nat) : Int)))) (
                  ∃ (Inv_2 : Nat → Int → Int → AH → Prop),
                  (
                    ∃ (n_5 : Nat),
                    Inv_2 n_5 n7 0 H7) ∧
                  ∀ (n_4 : Nat),
                  ∀ (n7_1 : Int) (e9 : Int) (H8 : AH),
                  Inv_2 n_4 n7_1 e9 H8 →
                  grd r15a.isSome (
                    (0 : Int) ≤ k8 ∧
                    (k8 : Int) < ((r15l : Nat) : Int) ∧
                    ∃ (t46a : Option Addr) (t46l : Nat) (t46c : Nat),
                    H8.cell ((adr r15a).block) ((adr r15a).off + (k8 : Int).toNat * 3 + 2) = some (.slice t46a t46l t46c) ∧
                    cond (decide (e9 < (((t46l : Nat) : Int)))) (
                      grd r15a.isSome (
                        (0 : Int) ≤ k8 ∧
                        (k8 : Int) < ((r15l : Nat) : Int) ∧
                        ∃ (t55a : Option Addr) (t55l : Nat) (t55c : Nat),
                        H8.cell ((adr r15a).block) ((adr r15a).off + (k8 : Int).toNat * 3 + 2) = some (.slice t55a t55l t55c) ∧
                        grd t55a.isSome (
                          (0 : Int) ≤ e9 ∧
                          (e9 : Int) < ((t55l : Nat) : Int) ∧
                          ∃ (t59 : Int),
                          H8.cell ((adr t55a).block) ((adr t55a).off + (e9 : Int).toNat * 2) = some (.int .i64 t59) ∧
                          grd r15a.isSome (
                            (0 : Int) ≤ i6 ∧
                            (i6 : Int) < ((r15l : Nat) : Int) ∧
                            ∃ (t64 : Int),
                            H8.cell ((adr r15a).block) ((adr r15a).off + (i6 : Int).toNat * 3) = some (.int .i64 t64) ∧
                            cond (t59 == t64) (
                              ∀ (t67 : Int),
                              t67 = IntKind.i64.wrap (n7_1 + 1) →
                              ∀ (t50 : Int),
                              t50 = IntKind.i64.wrap (e9 + 1) →
                              ∃ (m_2 : Nat),
                              m_2 < n_4 ∧
                              Inv_2 m_2 t67 t50 H8) (
                              ∀ (t50_1 : Int),
                              t50_1 = IntKind.i64.wrap (e9 + 1) →
                              ∃ (m_2 : Nat),
                              m_2 < n_4 ∧
                              Inv_2 m_2 n7_1 t50_1 H8))))) (
                      ∀ (t40 : Int),
                      t40 = IntKind.i64.wrap (k8 + 1) →
                      ∃ (m_1 : Nat),
                      m_1 < n_2 ∧
                      Inv_1 m_1 n7_1 t40 H8))) (
                  grd r17a.isSome (
                    (0 : Int) ≤ i6 ∧
                    (i6 : Int) < ((r17l : Nat) : Int) ∧
                    ∃ (t71 : Int),
                    H7.cell ((adr r17a).block) ((adr r17a).off + (i6 : Int).toNat * 1) = some (.int .i64 t71) ∧
                    cond (t71 != n7) (
                      Q (.bool false) H7) (
                      ∀ (t76 : Int),
                      t76 = IntKind.i64.wrap (all5 + n7) →
                      ∀ (t28 : Int),
                      t28 = IntKind.i64.wrap (i6 + 1) →
                      ∃ (m : Nat),
                      m < n ∧
                      Inv m t2 t76 t28 H7))))) (
              FW Ee F_cohortlaw10_awake [] H6 fun v_4 H9 =>
                ∃ (r77 : Bool),
                v_4 = .bool r77 ∧
                cond (r77) (
                  FW Ee F_cohortref03_Edges [.slice r15a r15l r15c] H9 fun v_5 H10 =>
                    ∃ (r81 : Int),
                    v_5 = .int .i64 r81 ∧
                    ∀ (t82 : Int),
                    t82 = IntKind.i64.wrap (2 * r81) →
                    Q (.bool (all5 == t82)) H10) (
                  Q (.bool false) H9))))
set_option maxRecDepth 100000 in
theorem fw_cohortlaw10_SpecDegrees {g0_Verticesa : Option Addr} {g0_Verticesl : Nat} {g0_Verticesc : Nat} {H : AH} {Q : Value → AH → Prop} (h : VC_cohortlaw10_SpecDegrees g0_Verticesa g0_Verticesl g0_Verticesc H Q) : FW Ee F_cohortlaw10_SpecDegrees [.agg ⟨[.slice g0_Verticesa g0_Verticesl g0_Verticesc]⟩] H Q := by
  have e : VC_cohortlaw10_SpecDegrees g0_Verticesa g0_Verticesl g0_Verticesc H Q = wpF Ee ⟨[], []⟩ F_cohortlaw10_SpecDegrees [.agg ⟨[.slice g0_Verticesa g0_Verticesl g0_Verticesc]⟩] H Q := by kernel_rfl
  letI : Sy := sy0
  exact wpF_sound (Eq.mp e h)
end Go.Proofs.Cx
