/- What calls come to, as formulas: printed by a program. -/
import Derived.Test.YtojohclbjcnhaaaVc0
namespace Go.Proofs.Cx
open Go Go.Ev
set_option linter.unusedVariables false
/-- slices.Compact[[]int,int] -/
def VC_slices_Compact_L_int_int (s0a : Option Addr) (s0l : Nat) (s0c : Nat) (H : AH) (Q : Value → AH → Prop) : Prop :=
  cond (decide ((((s0l : Nat) : Int)) < 2)) (
    Q (.slice s0a s0l s0c) H) (
    ∃ (Inv : Nat → Int → Option Addr → Nat → Nat → AH → Prop),
    (
      ∃ (n_1 : Nat),
      Inv n_1 1 none 0 0 H) ∧
    ∀ (n : Nat),
    ∀ (k3 : Int) (t2a : Option Addr) (t2l : Nat) (t2c : Nat) (H1 : AH),
    Inv n k3 t2a t2l t2c H1 →
    cond (decide (k3 < (((s0l : Nat) : Int)))) (
      grd s0a.isSome (
        (0 : Int) ≤ k3 ∧
        (k3 : Int) < ((s0l : Nat) : Int) ∧
        ∃ (t19 : Int),
        H1.cell ((adr s0a).block) ((adr s0a).off + (k3 : Int).toNat * 1) = some (.int .i64 t19) ∧
        ∀ (t22 : Int),
        t22 = IntKind.i64.wrap (k3 - 1) →
        grd s0a.isSome (
          (0 : Int) ≤ t22 ∧
          (t22 : Int) < ((s0l : Nat) : Int) ∧
          ∃ (t24 : Int),
          H1.cell ((adr s0a).block) ((adr s0a).off + (t22 : Int).toNat * 1) = some (.int .i64 t24) ∧
          cond (t19 == t24) (
            ∃ (t28a : Option Addr) (t28l : Nat) (t28c : Nat),
            slcv H1 1 s0a s0l s0c (some (.int .i64 k3)) none none = some (.slice t28a t28l t28c) ∧
            ∃ (Inv_1 : Nat → Int → Int → AH → Prop),
            (
              ∃ (n_3 : Nat),
              Inv_1 n_3 k3 1 H1) ∧
            ∀ (n_2 : Nat),
            ∀ (k3_1 : Int) (k25 : Int) (H2 : AH),
            Inv_1 n_2 k3_1 k25 H2 →
            cond (decide (k25 < (((t28l : Nat) : Int)))) (
              grd t28a.isSome (
                (0 : Int) ≤ k25 ∧
                (k25 : Int) < ((t28l : Nat) : Int) ∧
                ∃ (t38 : Int),
                H2.cell ((adr t28a).block) ((adr t28a).off + (k25 : Int).toNat * 1) = some (.int .i64 t38) ∧
                ∀ (t41 : Int),
                t41 = IntKind.i64.wrap (k25 - 1) →
                grd t28a.isSome (
                  (0 : Int) ≤ t41 ∧
                  (t41 : Int) < ((t28l : Nat) : Int) ∧
                  ∃ (t43 : Int),
                  H2.cell ((adr t28a).block) ((adr t28a).off + (t41 : Int).toNat * 1) = some (.int .i64 t43) ∧
                  cond (t38 != t43) (
                    grd t28a.isSome (
                      (0 : Int) ≤ k25 ∧
                      (k25 : Int) < ((t28l : Nat) : Int) ∧
                      ∃ (t50 : Int),
                      H2.cell ((adr t28a).block) ((adr t28a).off + (k25 : Int).toNat * 1) = some (.int .i64 t50) ∧
                      grd s0a.isSome (
                        (0 : Int) ≤ k3_1 ∧
                        (k3_1 : Int) < ((s0l : Nat) : Int) ∧
                        ∃ (H3 : AH),
                        storeCellsv H2 ((adr s0a).block) ((adr s0a).off + (k3_1 : Int).toNat * 1) [.int .i64 t50] = some H3 ∧
                        ∀ (t53 : Int),
                        t53 = IntKind.i64.wrap (k3_1 + 1) →
                        ∀ (t34 : Int),
                        t34 = IntKind.i64.wrap (k25 + 1) →
                        ∃ (m_1 : Nat),
                        m_1 < n_2 ∧
                        Inv_1 m_1 t53 t34 H3))) (
                    ∀ (t34_1 : Int),
                    t34_1 = IntKind.i64.wrap (k25 + 1) →
                    ∃ (m_1 : Nat),
                    m_1 < n_2 ∧
                    Inv_1 m_1 k3_1 t34_1 H2)))) (
              ∃ (t56a : Option Addr) (t56l : Nat) (t56c : Nat),
              slcv H2 1 s0a s0l s0c (some (.int .i64 k3_1)) none none = some (.slice t56a t56l t56c) ∧
              ∃ (v : Value) (H4 : AH),
              clearv Ee H2 [T_L_int] (.slice t56a t56l t56c) = some (v, H4) ∧
              ∃ (t59a : Option Addr) (t59l : Nat) (t59c : Nat),
              slcv H4 1 s0a s0l s0c none (some (.int .i64 k3_1)) none = some (.slice t59a t59l t59c) ∧
              Q (.slice t59a t59l t59c) H4)) (
            ∀ (t15 : Int),
            t15 = IntKind.i64.wrap (k3 + 1) →
            ∃ (m : Nat),
            m < n ∧
            Inv m t15 t2a t2l t2c H1)))) (
      Q (.slice s0a s0l s0c) H1))
set_option maxRecDepth 100000 in
theorem fw_slices_Compact_L_int_int {s0a : Option Addr} {s0l : Nat} {s0c : Nat} {H : AH} {Q : Value → AH → Prop} (h : VC_slices_Compact_L_int_int s0a s0l s0c H Q) : FW Ee F_slices_Compact_L_int_int [.slice s0a s0l s0c] H Q := by
  have e : VC_slices_Compact_L_int_int s0a s0l s0c H Q = wpF Ee ⟨[], []⟩ F_slices_Compact_L_int_int [.slice s0a s0l s0c] H Q := by kernel_rfl
  letI : Sy := sy0
  exact wpF_sound (Eq.mp e h)
/-- cohort/spec.of -/
def VC_spec_of (g0_Verticesa : Option Addr) (g0_Verticesl : Nat) (g0_Verticesc : Nat) (H : AH) (Q : Value → AH → Prop) : Prop :=
  ∀ (H1 : AH),
  H1 = H.new (.cells [.slice g0_Verticesa g0_Verticesl g0_Verticesc] 0) →
  ∀ (H2 : AH),
  H2 = H1.new (.cells [.slice none 0 0, .slice none 0 0, .slice none 0 0] 0) →
  ∃ (t12_Verticesa : Option Addr) (t12_Verticesl : Nat) (t12_Verticesc : Nat),
  H2.cell H.next (0 + 0) = some (.slice t12_Verticesa t12_Verticesl t12_Verticesc) ∧
  ∃ (t14a : Option Addr) (t14l : Nat) (t14c : Nat),
  H2.cell H.next 0 = some (.slice t14a t14l t14c) ∧
  (0 : Int) ≤ ((t14l : Nat) : Int) ∧
  (((t14l : Nat) : Int) : Int) ≤ ((t14l : Nat) : Int) ∧
  (((t14l : Nat) : Int) : Int) < 4294967296 ∧
  (((t14l : Nat) : Int) : Int).toNat * 24 ≤ 140737488355328 ∧
  ∀ (H3 : AH),
  H3 = H2.new (.cells ((List.replicate (((t14l : Nat) : Int) : Int).toNat [.slice none 0 0]).flatten) 0) →
  ∃ (t18a : Option Addr) (t18l : Nat) (t18c : Nat),
  H3.cell H.next 0 = some (.slice t18a t18l t18c) ∧
  (0 : Int) ≤ ((t18l : Nat) : Int) ∧
  (((t18l : Nat) : Int) : Int) ≤ ((t18l : Nat) : Int) ∧
  (((t18l : Nat) : Int) : Int) < 4294967296 ∧
  (((t18l : Nat) : Int) : Int).toNat * 24 ≤ 140737488355328 ∧
  ∀ (H4 : AH),
  H4 = H3.new (.cells ((List.replicate (((t18l : Nat) : Int) : Int).toNat [.slice none 0 0]).flatten) 0) →
  ∀ (H5 : AH),
  H5 = H4.new (.cells [.slice none 0 0, .slice none 0 0, .slice none 0 0] 0) →
  ∃ (H6 : AH),
  storeCellsv H5 H4.next 0 [.slice t12_Verticesa t12_Verticesl t12_Verticesc, .slice (some ⟨H2.next, 0, none⟩) ((((t14l : Nat) : Int) : Int).toNat) (2 * (((t14l : Nat) : Int) : Int).toNat), .slice (some ⟨H3.next, 0, none⟩) ((((t18l : Nat) : Int) : Int).toNat) (2 * (((t18l : Nat) : Int) : Int).toNat)] = some H6 ∧
  H5.cell H.next 0 = some (.slice t18a t18l t18c) ∧
  H5.cell H.next 0 = some (.slice t14a t14l t14c) ∧
  H5.cell H.next (0 + 0) = some (.slice t12_Verticesa t12_Verticesl t12_Verticesc) ∧
  ∃ (t22_Verticesa : Option Addr) (t22_Verticesl : Nat) (t22_Verticesc : Nat),
  H6.cell H.next (0 + 0) = some (.slice t22_Verticesa t22_Verticesl t22_Verticesc) ∧
  FW Ee F_graph_All [.agg ⟨[.slice t22_Verticesa t22_Verticesl t22_Verticesc]⟩] H6 fun v H7 =>
    ∃ (b23 : Nat),
    v = .func (.func F_graph_All_1) ⟨[]⟩ ⟨[.pointer (some ⟨b23, 0, none⟩)]⟩ ∧
    ∀ (L : ALoop),
    RdL 96 Ee.g [(1, .pointer (some ⟨H.next, 0, none⟩)), (3, .pointer (some ⟨H4.next, 0, none⟩))] (rfOf Ee F_spec_of 0) L →
    L.st = .ready →
    L.pend = none →
    FW Ee F_graph_All_1 [.func (.yield H7.next) ⟨[]⟩ ⟨[]⟩, .pointer (some ⟨b23, 0, none⟩)] (H7.new (.loop L)) fun _ H8 =>
      ∃ (L_1 : ALoop),
      H8.get H7.next = some (.loop L_1) ∧
      L_1.st ≠ .busy ∧
      match L_1.pend with
      | none =>
        ∃ (t79a_1 : Option Addr) (t79l_1 : Nat) (t79c_1 : Nat),
        (H8.set H7.next (.loop { L_1 with st := .exhausted })).cell H4.next 2 = some (.slice t79a_1 t79l_1 t79c_1) ∧
        ∃ (Inv_1 : Nat → Int → AH → Prop),
        (
          ∃ (n_3 : Nat),
          Inv_1 n_3 0 ((H8.set H7.next (.loop { L_1 with st := .exhausted })))) ∧
        ∀ (n_2 : Nat),
        ∀ (t81_1 : Int) (H14 : AH),
        Inv_1 n_2 t81_1 H14 →
        cond (decide (t81_1 < (((t79l_1 : Nat) : Int)))) (
          grd t79a_1.isSome (
            (0 : Int) ≤ t81_1 ∧
            (t81_1 : Int) < ((t79l_1 : Nat) : Int) ∧
            ∃ (t85a_1 : Option Addr) (t85l_1 : Nat) (t85c_1 : Nat),
            H14.cell ((adr t79a_1).block) ((adr t79a_1).off + (t81_1 : Int).toNat * 1) = some (.slice t85a_1 t85l_1 t85c_1) ∧
            FW Ee F_slices_Sort_L_int_int [.slice t85a_1 t85l_1 t85c_1] H14 fun v_3 H15 =>
              v_3 = .tuple ⟨[]⟩ ∧
              ∃ (t89a_1 : Option Addr) (t89l_1 : Nat) (t89c_1 : Nat),
              H15.cell H4.next 2 = some (.slice t89a_1 t89l_1 t89c_1) ∧
              FW Ee F_slices_Compact_L_int_int [.slice t85a_1 t85l_1 t85c_1] H15 fun v_4 H16 =>
                ∃ (r92a_1 : Option Addr) (r92l_1 : Nat) (r92c_1 : Nat),
                v_4 = .slice r92a_1 r92l_1 r92c_1 ∧
                grd t89a_1.isSome (
                  (0 : Int) ≤ t81_1 ∧
                  (t81_1 : Int) < ((t89l_1 : Nat) : Int) ∧
                  ∃ (H17 : AH),
                  storeCellsv H16 ((adr t89a_1).block) ((adr t89a_1).off + (t81_1 : Int).toNat * 1) [.slice r92a_1 r92l_1 r92c_1] = some H17 ∧
                  H16.cell H4.next 2 = some (.slice t89a_1 t89l_1 t89c_1) ∧
                  ∀ (t94_1 : Int),
                  t94_1 = IntKind.i64.wrap (t81_1 + 1) →
                  ∃ (m_1 : Nat),
                  m_1 < n_2 ∧
                  Inv_1 m_1 t94_1 H17))) (
          ∃ (t95_g_Verticesa_1 : Option Addr) (t95_g_Verticesl_1 : Nat) (t95_g_Verticesc_1 : Nat) (t95_outa_1 : Option Addr) (t95_outl_1 : Nat) (t95_outc_1 : Nat) (t95_botha_1 : Option Addr) (t95_bothl_1 : Nat) (t95_bothc_1 : Nat),
          H14.cell H4.next (0 + 0) = some (.slice t95_g_Verticesa_1 t95_g_Verticesl_1 t95_g_Verticesc_1) ∧
          H14.cell H4.next (0 + 1) = some (.slice t95_outa_1 t95_outl_1 t95_outc_1) ∧
          H14.cell H4.next (0 + 2) = some (.slice t95_botha_1 t95_bothl_1 t95_bothc_1) ∧
          ∃ (H18 : AH),
          storeCellsv H14 H1.next 0 [.slice t95_g_Verticesa_1 t95_g_Verticesl_1 t95_g_Verticesc_1, .slice t95_outa_1 t95_outl_1 t95_outc_1, .slice t95_botha_1 t95_bothl_1 t95_bothc_1] = some H18 ∧
          ∃ (r2_g_Verticesa_1 : Option Addr) (r2_g_Verticesl_1 : Nat) (r2_g_Verticesc_1 : Nat) (r2_outa_1 : Option Addr) (r2_outl_1 : Nat) (r2_outc_1 : Nat) (r2_botha_1 : Option Addr) (r2_bothl_1 : Nat) (r2_bothc_1 : Nat),
          H18.cell H1.next (0 + 0) = some (.slice r2_g_Verticesa_1 r2_g_Verticesl_1 r2_g_Verticesc_1) ∧
          H18.cell H1.next (0 + 1) = some (.slice r2_outa_1 r2_outl_1 r2_outc_1) ∧
          H18.cell H1.next (0 + 2) = some (.slice r2_botha_1 r2_bothl_1 r2_bothc_1) ∧
          Q (.agg ⟨[.slice r2_g_Verticesa_1 r2_g_Verticesl_1 r2_g_Verticesc_1, .slice r2_outa_1 r2_outl_1 r2_outc_1, .slice r2_botha_1 r2_bothl_1 r2_bothc_1]⟩) H18)
      | some (.exit i) =>
        cond (Nat.beq i 0) (
          ∃ (t79a : Option Addr) (t79l : Nat) (t79c : Nat),
          (H8.set H7.next (.loop { L_1 with st := .exhausted })).cell H4.next 2 = some (.slice t79a t79l t79c) ∧
          ∃ (Inv : Nat → Int → AH → Prop),
          (
            ∃ (n_1 : Nat),
            Inv n_1 0 ((H8.set H7.next (.loop { L_1 with st := .exhausted })))) ∧
          ∀ (n : Nat),
          ∀ (t81 : Int) (H9 : AH),
          Inv n t81 H9 →
          cond (decide (t81 < (((t79l : Nat) : Int)))) (
            grd t79a.isSome (
              (0 : Int) ≤ t81 ∧
              (t81 : Int) < ((t79l : Nat) : Int) ∧
              ∃ (t85a : Option Addr) (t85l : Nat) (t85c : Nat),
              H9.cell ((adr t79a).block) ((adr t79a).off + (t81 : Int).toNat * 1) = some (.slice t85a t85l t85c) ∧
              FW Ee F_slices_Sort_L_int_int [.slice t85a t85l t85c] H9 fun v_1 H10 =>
                v_1 = .tuple ⟨[]⟩ ∧
                ∃ (t89a : Option Addr) (t89l : Nat) (t89c : Nat),
                H10.cell H4.next 2 = some (.slice t89a t89l t89c) ∧
                FW Ee F_slices_Compact_L_int_int [.slice t85a t85l t85c] H10 fun v_2 H11 =>
                  ∃ (r92a : Option Addr) (r92l : Nat) (r92c : Nat),
                  v_2 = .slice r92a r92l r92c ∧
                  grd t89a.isSome (
                    (0 : Int) ≤ t81 ∧
                    (t81 : Int) < ((t89l : Nat) : Int) ∧
                    ∃ (H12 : AH),
                    storeCellsv H11 ((adr t89a).block) ((adr t89a).off + (t81 : Int).toNat * 1) [.slice r92a r92l r92c] = some H12 ∧
                    H11.cell H4.next 2 = some (.slice t89a t89l t89c) ∧
                    ∀ (t94 : Int),
                    t94 = IntKind.i64.wrap (t81 + 1) →
                    ∃ (m : Nat),
                    m < n ∧
                    Inv m t94 H12))) (
            ∃ (t95_g_Verticesa : Option Addr) (t95_g_Verticesl : Nat) (t95_g_Verticesc : Nat) (t95_outa : Option Addr) (t95_outl : Nat) (t95_outc : Nat) (t95_botha : Option Addr) (t95_bothl : Nat) (t95_bothc : Nat),
            H9.cell H4.next (0 + 0) = some (.slice t95_g_Verticesa t95_g_Verticesl t95_g_Verticesc) ∧
            H9.cell H4.next (0 + 1) = some (.slice t95_outa t95_outl t95_outc) ∧
            H9.cell H4.next (0 + 2) = some (.slice t95_botha t95_bothl t95_bothc) ∧
            ∃ (H13 : AH),
            storeCellsv H9 H1.next 0 [.slice t95_g_Verticesa t95_g_Verticesl t95_g_Verticesc, .slice t95_outa t95_outl t95_outc, .slice t95_botha t95_bothl t95_bothc] = some H13 ∧
            ∃ (r2_g_Verticesa : Option Addr) (r2_g_Verticesl : Nat) (r2_g_Verticesc : Nat) (r2_outa : Option Addr) (r2_outl : Nat) (r2_outc : Nat) (r2_botha : Option Addr) (r2_bothl : Nat) (r2_bothc : Nat),
            H13.cell H1.next (0 + 0) = some (.slice r2_g_Verticesa r2_g_Verticesl r2_g_Verticesc) ∧
            H13.cell H1.next (0 + 1) = some (.slice r2_outa r2_outl r2_outc) ∧
            H13.cell H1.next (0 + 2) = some (.slice r2_botha r2_bothl r2_bothc) ∧
            Q (.agg ⟨[.slice r2_g_Verticesa r2_g_Verticesl r2_g_Verticesc, .slice r2_outa r2_outl r2_outc, .slice r2_botha r2_bothl r2_bothc]⟩) H13)) (
          False)
      | some .ret =>
        ∃ (r2_g_Verticesa_2 : Option Addr) (r2_g_Verticesl_2 : Nat) (r2_g_Verticesc_2 : Nat) (r2_outa_2 : Option Addr) (r2_outl_2 : Nat) (r2_outc_2 : Nat) (r2_botha_2 : Option Addr) (r2_bothl_2 : Nat) (r2_bothc_2 : Nat),
        (H8.set H7.next (.loop { L_1 with st := .exhausted })).cell H1.next (0 + 0) = some (.slice r2_g_Verticesa_2 r2_g_Verticesl_2 r2_g_Verticesc_2) ∧
        (H8.set H7.next (.loop { L_1 with st := .exhausted })).cell H1.next (0 + 1) = some (.slice r2_outa_2 r2_outl_2 r2_outc_2) ∧
        (H8.set H7.next (.loop { L_1 with st := .exhausted })).cell H1.next (0 + 2) = some (.slice r2_botha_2 r2_bothl_2 r2_bothc_2) ∧
        Q (.agg ⟨[.slice r2_g_Verticesa_2 r2_g_Verticesl_2 r2_g_Verticesc_2, .slice r2_outa_2 r2_outl_2 r2_outc_2, .slice r2_botha_2 r2_bothl_2 r2_bothc_2]⟩) ((H8.set H7.next (.loop { L_1 with st := .exhausted })))
      | _ =>
        False
set_option maxRecDepth 100000 in
theorem fw_spec_of {g0_Verticesa : Option Addr} {g0_Verticesl : Nat} {g0_Verticesc : Nat} {H : AH} {Q : Value → AH → Prop} (h : VC_spec_of g0_Verticesa g0_Verticesl g0_Verticesc H Q) : FW Ee F_spec_of [.agg ⟨[.slice g0_Verticesa g0_Verticesl g0_Verticesc]⟩] H Q := by
  have e : VC_spec_of g0_Verticesa g0_Verticesl g0_Verticesc H Q = wpF Ee ⟨[], []⟩ F_spec_of [.agg ⟨[.slice g0_Verticesa g0_Verticesl g0_Verticesc]⟩] H Q := by kernel_rfl
  letI : Sy := sy0
  exact wpF_sound (Eq.mp e h)
/-- cohort/spec.of: a round -/
def VC_spec_of_r0 (g1b : Nat) (g1o : Nat) (n3b : Nat) (n3o : Nat) (p24 : Int) (p25_To : Int) (p25_Weight : Int) (l : Nat) (H : AH) (Q : Value → AH → Prop) : Prop :=
  ∀ (H1 : AH),
  H1 = H.new (.cells [.int .i64 0, .int .i64 0] 0) →
  ∃ (H2 : AH),
  storeCellsv H1 H.next 0 [.int .i64 p25_To, .int .i64 p25_Weight] = some H2 ∧
  ∃ (L : ALoop),
  H2.get l = some (.loop L) ∧
  L.st = .ready ∧
  L.body = (rfOf Ee F_spec_of 0).2.2 ∧
  ∃ (t27_Verticesa : Option Addr) (t27_Verticesl : Nat) (t27_Verticesc : Nat),
  (H2.set l (.loop { L with st := .busy })).cell g1b (g1o + 0) = some (.slice t27_Verticesa t27_Verticesl t27_Verticesc) ∧
  FW Ee F_graph_Find [.agg ⟨[.slice t27_Verticesa t27_Verticesl t27_Verticesc]⟩, .int .i64 p24] ((H2.set l (.loop { L with st := .busy }))) fun v H3 =>
    ∃ (r29_0 : Int) (r29_1 : Bool),
    v = .tuple ⟨[.int .i64 r29_0, .bool r29_1]⟩ ∧
    ∃ (t33_Verticesa : Option Addr) (t33_Verticesl : Nat) (t33_Verticesc : Nat),
    H3.cell g1b (g1o + 0) = some (.slice t33_Verticesa t33_Verticesl t33_Verticesc) ∧
    ∃ (t35 : Int),
    H3.cell H.next 0 = some (.int .i64 t35) ∧
    FW Ee F_graph_Find [.agg ⟨[.slice t33_Verticesa t33_Verticesl t33_Verticesc]⟩, .int .i64 t35] H3 fun v_1 H4 =>
      ∃ (r36_0 : Int) (r36_1 : Bool),
      v_1 = .tuple ⟨[.int .i64 r36_0, .bool r36_1]⟩ ∧
      ∃ (t40a : Option Addr) (t40l : Nat) (t40c : Nat),
      H4.cell n3b (n3o + 1) = some (.slice t40a t40l t40c) ∧
      ∃ (t43a : Option Addr) (t43l : Nat) (t43c : Nat),
      H4.cell n3b (n3o + 1) = some (.slice t43a t43l t43c) ∧
      grd t43a.isSome (
        (0 : Int) ≤ r29_0 ∧
        (r29_0 : Int) < ((t43l : Nat) : Int) ∧
        ∃ (t46a : Option Addr) (t46l : Nat) (t46c : Nat),
        H4.cell ((adr t43a).block) ((adr t43a).off + (r29_0 : Int).toNat * 1) = some (.slice t46a t46l t46c) ∧
        ∀ (H5 : AH),
        H5 = H4.new (.cells [.int .i64 r36_0] 0) →
        ∃ (t49a : Option Addr) (t49l : Nat) (t49c : Nat) (H6 : AH),
        apnd H5 1 8 t46a t46l t46c (.slice (some ⟨H4.next, 0, none⟩) 1 2) = some (.slice t49a t49l t49c, H6) ∧
        grd t40a.isSome (
          (0 : Int) ≤ r29_0 ∧
          (r29_0 : Int) < ((t40l : Nat) : Int) ∧
          ∃ (H7 : AH),
          storeCellsv H6 ((adr t40a).block) ((adr t40a).off + (r29_0 : Int).toNat * 1) [.slice t49a t49l t49c] = some H7 ∧
          H5.cell ((adr t43a).block) ((adr t43a).off + (r29_0 : Int).toNat * 1) = some (.slice t46a t46l t46c) ∧
          H5.cell n3b (n3o + 1) = some (.slice t43a t43l t43c) ∧
          H6.cell n3b (n3o + 1) = some (.slice t40a t40l t40c) ∧
          H5.cell n3b (n3o + 1) = some (.slice t40a t40l t40c) ∧
          cond (r29_0 != r36_0) (
            ∃ (t55a : Option Addr) (t55l : Nat) (t55c : Nat),
            H7.cell n3b (n3o + 2) = some (.slice t55a t55l t55c) ∧
            ∃ (t58a : Option Addr) (t58l : Nat) (t58c : Nat),
            H7.cell n3b (n3o + 2) = some (.slice t58a t58l t58c) ∧
            ∃ (t61a : Option Addr) (t61l : Nat) (t61c : Nat),
            H7.cell n3b (n3o + 2) = some (.slice t61a t61l t61c) ∧
            grd t61a.isSome (
              (0 : Int) ≤ r29_0 ∧
              (r29_0 : Int) < ((t61l : Nat) : Int) ∧
              ∃ (t64a : Option Addr) (t64l : Nat) (t64c : Nat),
              H7.cell ((adr t61a).block) ((adr t61a).off + (r29_0 : Int).toNat * 1) = some (.slice t64a t64l t64c) ∧
              ∀ (H8 : AH),
              H8 = H7.new (.cells [.int .i64 r36_0] 0) →
              ∃ (t67a : Option Addr) (t67l : Nat) (t67c : Nat) (H9 : AH),
              apnd H8 1 8 t64a t64l t64c (.slice (some ⟨H7.next, 0, none⟩) 1 2) = some (.slice t67a t67l t67c, H9) ∧
              ∃ (t69a : Option Addr) (t69l : Nat) (t69c : Nat),
              H9.cell n3b (n3o + 2) = some (.slice t69a t69l t69c) ∧
              grd t69a.isSome (
                (0 : Int) ≤ r36_0 ∧
                (r36_0 : Int) < ((t69l : Nat) : Int) ∧
                ∃ (t72a : Option Addr) (t72l : Nat) (t72c : Nat),
                H9.cell ((adr t69a).block) ((adr t69a).off + (r36_0 : Int).toNat * 1) = some (.slice t72a t72l t72c) ∧
                ∀ (H10 : AH),
                H10 = H9.new (.cells [.int .i64 r29_0] 0) →
                ∃ (t75a : Option Addr) (t75l : Nat) (t75c : Nat) (H11 : AH),
                apnd H10 1 8 t72a t72l t72c (.slice (some ⟨H9.next, 0, none⟩) 1 2) = some (.slice t75a t75l t75c, H11) ∧
                grd t55a.isSome (
                  (0 : Int) ≤ r29_0 ∧
                  (r29_0 : Int) < ((t55l : Nat) : Int) ∧
                  ∃ (H12 : AH),
                  storeCellsv H11 ((adr t55a).block) ((adr t55a).off + (r29_0 : Int).toNat * 1) [.slice t67a t67l t67c] = some H12 ∧
                  grd t58a.isSome (
                    (0 : Int) ≤ r36_0 ∧
                    (r36_0 : Int) < ((t58l : Nat) : Int) ∧
                    ∃ (H13 : AH),
                    storeCellsv H12 ((adr t58a).block) ((adr t58a).off + (r36_0 : Int).toNat * 1) [.slice t75a t75l t75c] = some H13 ∧
                    H10.cell ((adr t69a).block) ((adr t69a).off + (r36_0 : Int).toNat * 1) = some (.slice t72a t72l t72c) ∧
                    H8.cell ((adr t69a).block) ((adr t69a).off + (r36_0 : Int).toNat * 1) = some (.slice t72a t72l t72c) ∧
                    H10.cell n3b (n3o + 2) = some (.slice t69a t69l t69c) ∧
                    H8.cell n3b (n3o + 2) = some (.slice t69a t69l t69c) ∧
                    H8.cell ((adr t61a).block) ((adr t61a).off + (r29_0 : Int).toNat * 1) = some (.slice t64a t64l t64c) ∧
                    H8.cell n3b (n3o + 2) = some (.slice t61a t61l t61c) ∧
                    H12.cell n3b (n3o + 2) = some (.slice t58a t58l t58c) ∧
                    H11.cell n3b (n3o + 2) = some (.slice t58a t58l t58c) ∧
                    H10.cell n3b (n3o + 2) = some (.slice t58a t58l t58c) ∧
                    H8.cell n3b (n3o + 2) = some (.slice t58a t58l t58c) ∧
                    H11.cell n3b (n3o + 2) = some (.slice t55a t55l t55c) ∧
                    H10.cell n3b (n3o + 2) = some (.slice t55a t55l t55c) ∧
                    H8.cell n3b (n3o + 2) = some (.slice t55a t55l t55c) ∧
                    ∃ (L_1 : ALoop),
                    H13.get l = some (.loop L_1) ∧
                    Q (.bool true) (H13.set l (.loop { L_1 with st := .ready, pend := none }))))))) (
            ∃ (L_2 : ALoop),
            H7.get l = some (.loop L_2) ∧
            Q (.bool true) (H7.set l (.loop { L_2 with st := .ready, pend := none })))))
set_option maxRecDepth 100000 in
theorem rw_spec_of_r0 {g1b : Nat} {g1o : Nat} {n3b : Nat} {n3o : Nat} {p24 : Int} {p25_To : Int} {p25_Weight : Int} {l : Nat} {H : AH} {Q : Value → AH → Prop} {L : ALoop} (hl : H.get l = some (.loop L)) (hR : RdL 96 Ee.g [(1, .pointer (some ⟨g1b, g1o, none⟩)), (3, .pointer (some ⟨n3b, n3o, none⟩))] (rfOf Ee F_spec_of 0) L) (h : VC_spec_of_r0 g1b g1o n3b n3o p24 p25_To p25_Weight l H Q) : RW Ee l [.int .i64 p24, .agg ⟨[.int .i64 p25_To, .int .i64 p25_Weight]⟩] H Q := by
  have e : VC_spec_of_r0 g1b g1o n3b n3o p24 p25_To p25_Weight l H Q = wpRound Ee ⟨[], []⟩ (frm 96 Ee.g [(1, .pointer (some ⟨g1b, g1o, none⟩)), (3, .pointer (some ⟨n3b, n3o, none⟩))]) (rfOf Ee F_spec_of 0).1 (rfOf Ee F_spec_of 0).2.1 (rfOf Ee F_spec_of 0).2.2 l [.int .i64 p24, .agg ⟨[.int .i64 p25_To, .int .i64 p25_Weight]⟩] H Q := by kernel_rfl
  letI : Sy := sy0
  exact wpRoundR_sound hl hR (Eq.mp e h)
/-- slices.Index[[]int,int] -/
def VC_slices_Index_L_int_int (s0a : Option Addr) (s0l : Nat) (s0c : Nat) (v1 : Int) (H : AH) (Q : Value → AH → Prop) : Prop :=
  ∃ (Inv : Nat → Int → Int → AH → Prop),
  (
    ∃ (n_1 : Nat),
    Inv n_1 0 0 H) ∧
  ∀ (n : Nat),
  ∀ (t4 : Int) (t8 : Int) (H1 : AH),
  Inv n t4 t8 H1 →
  cond (decide (t8 < (((s0l : Nat) : Int)))) (
    grd s0a.isSome (
      (0 : Int) ≤ t8 ∧
      (t8 : Int) < ((s0l : Nat) : Int) ∧
      ∃ (t15 : Int),
      H1.cell ((adr s0a).block) ((adr s0a).off + (t8 : Int).toNat * 1) = some (.int .i64 t15) ∧
      cond (v1 == t15) (
        Q (.int .i64 t8) H1) (
        ∀ (t18 : Int),
        t18 = IntKind.i64.wrap (t8 + 1) →
        ∃ (m : Nat),
        m < n ∧
        Inv m t4 t18 H1))) (
    Q (.int .i64 (-1)) H1)
set_option maxRecDepth 100000 in
theorem fw_slices_Index_L_int_int {s0a : Option Addr} {s0l : Nat} {s0c : Nat} {v1 : Int} {H : AH} {Q : Value → AH → Prop} (h : VC_slices_Index_L_int_int s0a s0l s0c v1 H Q) : FW Ee F_slices_Index_L_int_int [.slice s0a s0l s0c, .int .i64 v1] H Q := by
  have e : VC_slices_Index_L_int_int s0a s0l s0c v1 H Q = wpF Ee ⟨[], []⟩ F_slices_Index_L_int_int [.slice s0a s0l s0c, .int .i64 v1] H Q := by kernel_rfl
  letI : Sy := sy0
  exact wpF_sound (Eq.mp e h)
/-- slices.Contains[[]int,int] -/
def VC_slices_Contains_L_int_int (s0a : Option Addr) (s0l : Nat) (s0c : Nat) (v1 : Int) (H : AH) (Q : Value → AH → Prop) : Prop :=
  FW Ee F_slices_Index_L_int_int [.slice s0a s0l s0c, .int .i64 v1] H fun v H1 =>
    ∃ (r7 : Int),
    v = .int .i64 r7 ∧
    Q (.bool (decide (r7 ≥ 0))) H1
set_option maxRecDepth 100000 in
theorem fw_slices_Contains_L_int_int {s0a : Option Addr} {s0l : Nat} {s0c : Nat} {v1 : Int} {H : AH} {Q : Value → AH → Prop} (h : VC_slices_Contains_L_int_int s0a s0l s0c v1 H Q) : FW Ee F_slices_Contains_L_int_int [.slice s0a s0l s0c, .int .i64 v1] H Q := by
  have e : VC_slices_Contains_L_int_int s0a s0l s0c v1 H Q = wpF Ee ⟨[], []⟩ F_slices_Contains_L_int_int [.slice s0a s0l s0c, .int .i64 v1] H Q := by kernel_rfl
  letI : Sy := sy0
  exact wpF_sound (Eq.mp e h)
/-- cohort/spec.Matched$1 -/
def VC_spec_Matched_1 (i0 : Int) (t1b : Nat) (t1o : Nat) (t2b : Nat) (t2o : Nat) (H : AH) (Q : Value → AH → Prop) : Prop :=
  ∃ (t5a : Option Addr) (t5l : Nat) (t5c : Nat),
  H.cell t1b t1o = some (.slice t5a t5l t5c) ∧
  grd t5a.isSome (
    (0 : Int) ≤ i0 ∧
    (i0 : Int) < ((t5l : Nat) : Int) ∧
    ∃ (t8 : Int),
    H.cell ((adr t5a).block) ((adr t5a).off + (i0 : Int).toNat * 1) = some (.int .i64 t8) ∧
    ∃ (t10a : Option Addr) (t10l : Nat) (t10c : Nat),
    H.cell t2b t2o = some (.slice t10a t10l t10c) ∧
    grd t10a.isSome (
      (0 : Int) ≤ i0 ∧
      (i0 : Int) < ((t10l : Nat) : Int) ∧
      ∃ (t14 : Int),
      H.cell ((adr t10a).block) ((adr t10a).off + (i0 : Int).toNat * 3) = some (.int .i64 t14) ∧
      Q (.bool (t8 == t14)) H))
set_option maxRecDepth 100000 in
theorem fw_spec_Matched_1 {i0 : Int} {t1b : Nat} {t1o : Nat} {t2b : Nat} {t2o : Nat} {H : AH} {Q : Value → AH → Prop} (h : VC_spec_Matched_1 i0 t1b t1o t2b t2o H Q) : FW Ee F_spec_Matched_1 [.int .i64 i0, .pointer (some ⟨t1b, t1o, none⟩), .pointer (some ⟨t2b, t2o, none⟩)] H Q := by
  have e : VC_spec_Matched_1 i0 t1b t1o t2b t2o H Q = wpF Ee ⟨[], []⟩ F_spec_Matched_1 [.int .i64 i0, .pointer (some ⟨t1b, t1o, none⟩), .pointer (some ⟨t2b, t2o, none⟩)] H Q := by kernel_rfl
  letI : Sy := sy0
  exact wpF_sound (Eq.mp e h)
/-- cohort/spec.Matched$2 -/
def VC_spec_Matched_2 (to0 : Int) (t1b : Nat) (t1o : Nat) (H : AH) (Q : Value → AH → Prop) : Prop :=
  ∃ (bt4 : Nat) (bt4_1 : Nat),
  H.cell t1b t1o = some (.func (.func F_spec_Matched_1) ⟨[]⟩ ⟨[.pointer (some ⟨bt4, 0, none⟩), .pointer (some ⟨bt4_1, 0, none⟩)]⟩) ∧
  FW Ee F_spec_Matched_1 [.int .i64 to0, .pointer (some ⟨bt4, 0, none⟩), .pointer (some ⟨bt4_1, 0, none⟩)] H fun v H1 =>
    ∃ (r6 : Bool),
    v = .bool r6 ∧
    Q (.bool r6) H1
set_option maxRecDepth 100000 in
theorem fw_spec_Matched_2 {to0 : Int} {t1b : Nat} {t1o : Nat} {H : AH} {Q : Value → AH → Prop} (h : VC_spec_Matched_2 to0 t1b t1o H Q) : FW Ee F_spec_Matched_2 [.int .i64 to0, .pointer (some ⟨t1b, t1o, none⟩)] H Q := by
  have e : VC_spec_Matched_2 to0 t1b t1o H Q = wpF Ee ⟨[], []⟩ F_spec_Matched_2 [.int .i64 to0, .pointer (some ⟨t1b, t1o, none⟩)] H Q := by kernel_rfl
  letI : Sy := sy0
  exact wpF_sound (Eq.mp e h)
/-- slices.IndexFunc[[]int,int] -/
def VC_slices_IndexFunc_L_int_int (s0a : Option Addr) (s0l : Nat) (s0c : Nat) (f1c : Nat) (H : AH) (Q : Value → AH → Prop) : Prop :=
  ∃ (Inv : Nat → Int → Int → AH → Prop),
  (
    ∃ (n_1 : Nat),
    Inv n_1 0 0 H) ∧
  ∀ (n : Nat),
  ∀ (t4 : Int) (t8 : Int) (H1 : AH),
  Inv n t4 t8 H1 →
  cond (decide (t8 < (((s0l : Nat) : Int)))) (
    grd s0a.isSome (
      (0 : Int) ≤ t8 ∧
      (t8 : Int) < ((s0l : Nat) : Int) ∧
      ∃ (t15 : Int),
      H1.cell ((adr s0a).block) ((adr s0a).off + (t8 : Int).toNat * 1) = some (.int .i64 t15) ∧
      FW Ee F_spec_Matched_2 [.int .i64 t15, .pointer (some ⟨f1c, 0, none⟩)] H1 fun v H2 =>
        ∃ (r16 : Bool),
        v = .bool r16 ∧
        cond (r16) (
          Q (.int .i64 t8) H2) (
          ∀ (t18 : Int),
          t18 = IntKind.i64.wrap (t8 + 1) →
          ∃ (m : Nat),
          m < n ∧
          Inv m t4 t18 H2))) (
    Q (.int .i64 (-1)) H1)
set_option maxRecDepth 100000 in
theorem fw_slices_IndexFunc_L_int_int {s0a : Option Addr} {s0l : Nat} {s0c : Nat} {f1c : Nat} {H : AH} {Q : Value → AH → Prop} (h : VC_slices_IndexFunc_L_int_int s0a s0l s0c f1c H Q) : FW Ee F_slices_IndexFunc_L_int_int [.slice s0a s0l s0c, .func (.func F_spec_Matched_2) ⟨[]⟩ ⟨[.pointer (some ⟨f1c, 0, none⟩)]⟩] H Q := by
  have e : VC_slices_IndexFunc_L_int_int s0a s0l s0c f1c H Q = wpF Ee ⟨[], []⟩ F_slices_IndexFunc_L_int_int [.slice s0a s0l s0c, .func (.func F_spec_Matched_2) ⟨[]⟩ ⟨[.pointer (some ⟨f1c, 0, none⟩)]⟩] H Q := by kernel_rfl
  letI : Sy := sy0
  exact wpF_sound (Eq.mp e h)
/-- slices.ContainsFunc[[]int,int] -/
def VC_slices_ContainsFunc_L_int_int (s0a : Option Addr) (s0l : Nat) (s0c : Nat) (f1c : Nat) (H : AH) (Q : Value → AH → Prop) : Prop :=
  FW Ee F_slices_IndexFunc_L_int_int [.slice s0a s0l s0c, .func (.func F_spec_Matched_2) ⟨[]⟩ ⟨[.pointer (some ⟨f1c, 0, none⟩)]⟩] H fun v H1 =>
    ∃ (r7 : Int),
    v = .int .i64 r7 ∧
    Q (.bool (decide (r7 ≥ 0))) H1
set_option maxRecDepth 100000 in
theorem fw_slices_ContainsFunc_L_int_int {s0a : Option Addr} {s0l : Nat} {s0c : Nat} {f1c : Nat} {H : AH} {Q : Value → AH → Prop} (h : VC_slices_ContainsFunc_L_int_int s0a s0l s0c f1c H Q) : FW Ee F_slices_ContainsFunc_L_int_int [.slice s0a s0l s0c, .func (.func F_spec_Matched_2) ⟨[]⟩ ⟨[.pointer (some ⟨f1c, 0, none⟩)]⟩] H Q := by
  have e : VC_slices_ContainsFunc_L_int_int s0a s0l s0c f1c H Q = wpF Ee ⟨[], []⟩ F_slices_ContainsFunc_L_int_int [.slice s0a s0l s0c, .func (.func F_spec_Matched_2) ⟨[]⟩ ⟨[.pointer (some ⟨f1c, 0, none⟩)]⟩] H Q := by kernel_rfl
  letI : Sy := sy0
  exact wpF_sound (Eq.mp e h)
/-- cohort/cohortlaw10.near -/
def VC_cohortlaw10_near (x0a : Option Addr) (x0l : Nat) (x0c : Nat) (a1 : Int) (b2 : Int) (H : AH) (Q : Value → AH → Prop) : Prop :=
  ∃ (Inv : Nat → Bool → Int → AH → Prop),
  (
    ∃ (n_1 : Nat),
    Inv n_1 false 0 H) ∧
  ∀ (n : Nat),
  ∀ (t6 : Bool) (k7 : Int) (H1 : AH),
  Inv n t6 k7 H1 →
  grd x0a.isSome (
    (0 : Int) ≤ a1 ∧
    (a1 : Int) < ((x0l : Nat) : Int) ∧
    ∃ (t14a : Option Addr) (t14l : Nat) (t14c : Nat),
    H1.cell ((adr x0a).block) ((adr x0a).off + (a1 : Int).toNat * 3 + 2) = some (.slice t14a t14l t14c) ∧
    cond (decide (k7 < (((t14l : Nat) : Int)))) (
      grd x0a.isSome (
        (0 : Int) ≤ a1 ∧
        (a1 : Int) < ((x0l : Nat) : Int) ∧
        ∃ (t23a : Option Addr) (t23l : Nat) (t23c : Nat),
        H1.cell ((adr x0a).block) ((adr x0a).off + (a1 : Int).toNat * 3 + 2) = some (.slice t23a t23l t23c) ∧
        grd t23a.isSome (
          (0 : Int) ≤ k7 ∧
          (k7 : Int) < ((t23l : Nat) : Int) ∧
          ∃ (t27 : Int),
          H1.cell ((adr t23a).block) ((adr t23a).off + (k7 : Int).toNat * 2) = some (.int .i64 t27) ∧
          grd x0a.isSome (
            (0 : Int) ≤ b2 ∧
            (b2 : Int) < ((x0l : Nat) : Int) ∧
            ∃ (t32 : Int),
            H1.cell ((adr x0a).block) ((adr x0a).off + (b2 : Int).toNat * 3) = some (.int .i64 t32) ∧
            cond (t27 == t32) (
              cond (a1 != b2) (
                Q (.bool true) H1) (
                ∀ (t18 : Int),
                t18 = IntKind.i64.wrap (k7 + 1) →
                ∃ (m : Nat),
                m < n ∧
                Inv m t6 t18 H1)) (
              ∀ (t18_1 : Int),
              t18_1 = IntKind.i64.wrap (k7 + 1) →
              ∃ (m : Nat),
              m < n ∧
              Inv m t6 t18_1 H1))))) (
      ∃ (Inv_1 : Nat → Bool → Int → AH → Prop),
      (
        ∃ (n_3 : Nat),
        Inv_1 n_3 t6 0 H1) ∧
      ∀ (n_2 : Nat),
      ∀ (t6_1 : Bool) (k8 : Int) (H2 : AH),
      Inv_1 n_2 t6_1 k8 H2 →
      grd x0a.isSome (
        (0 : Int) ≤ b2 ∧
        (b2 : Int) < ((x0l : Nat) : Int) ∧
        ∃ (t44a : Option Addr) (t44l : Nat) (t44c : Nat),
        H2.cell ((adr x0a).block) ((adr x0a).off + (b2 : Int).toNat * 3 + 2) = some (.slice t44a t44l t44c) ∧
        cond (decide (k8 < (((t44l : Nat) : Int)))) (
          grd x0a.isSome (
            (0 : Int) ≤ b2 ∧
            (b2 : Int) < ((x0l : Nat) : Int) ∧
            ∃ (t53a : Option Addr) (t53l : Nat) (t53c : Nat),
            H2.cell ((adr x0a).block) ((adr x0a).off + (b2 : Int).toNat * 3 + 2) = some (.slice t53a t53l t53c) ∧
            grd t53a.isSome (
              (0 : Int) ≤ k8 ∧
              (k8 : Int) < ((t53l : Nat) : Int) ∧
              ∃ (t57 : Int),
              H2.cell ((adr t53a).block) ((adr t53a).off + (k8 : Int).toNat * 2) = some (.int .i64 t57) ∧
              grd x0a.isSome (
                (0 : Int) ≤ a1 ∧
                (a1 : Int) < ((x0l : Nat) : Int) ∧
                ∃ (t62 : Int),
                H2.cell ((adr x0a).block) ((adr x0a).off + (a1 : Int).toNat * 3) = some (.int .i64 t62) ∧
                cond (t57 == t62) (
                  cond (a1 != b2) (
                    Q (.bool true) H2) (
                    ∀ (t48 : Int),
                    t48 = IntKind.i64.wrap (k8 + 1) →
                    ∃ (m_1 : Nat),
                    m_1 < n_2 ∧
                    Inv_1 m_1 t6_1 t48 H2)) (
                  ∀ (t48_1 : Int),
                  t48_1 = IntKind.i64.wrap (k8 + 1) →
                  ∃ (m_1 : Nat),
                  m_1 < n_2 ∧
                  Inv_1 m_1 t6_1 t48_1 H2))))) (
          Q (.bool false) H2))))
set_option maxRecDepth 100000 in
theorem fw_cohortlaw10_near {x0a : Option Addr} {x0l : Nat} {x0c : Nat} {a1 : Int} {b2 : Int} {H : AH} {Q : Value → AH → Prop} (h : VC_cohortlaw10_near x0a x0l x0c a1 b2 H Q) : FW Ee F_cohortlaw10_near [.slice x0a x0l x0c, .int .i64 a1, .int .i64 b2] H Q := by
  have e : VC_cohortlaw10_near x0a x0l x0c a1 b2 H Q = wpF Ee ⟨[], []⟩ F_cohortlaw10_near [.slice x0a x0l x0c, .int .i64 a1, .int .i64 b2] H Q := by kernel_rfl
  letI : Sy := sy0
  exact wpF_sound (Eq.mp e h)
/-- cohort/spec.Matched -/
def VC_spec_Matched (g0_Verticesa : Option Addr) (g0_Verticesl : Nat) (g0_Verticesc : Nat) (l1a : Option Addr) (l1l : Nat) (l1c : Nat) (H : AH) (Q : Value → AH → Prop) : Prop :=
  ∀ (H1 : AH),
  H1 = H.new (.cells [.slice g0_Verticesa g0_Verticesl g0_Verticesc] 0) →
  ∀ (H2 : AH),
  H2 = H1.new (.cells [.slice l1a l1l l1c] 0) →
  ∃ (t11_Verticesa : Option Addr) (t11_Verticesl : Nat) (t11_Verticesc : Nat),
  H2.cell H.next (0 + 0) = some (.slice t11_Verticesa t11_Verticesl t11_Verticesc) ∧
  FW Ee F_spec_of [.agg ⟨[.slice t11_Verticesa t11_Verticesl t11_Verticesc]⟩] H2 fun v H3 =>
    ∃ (r12_g_Verticesa : Option Addr) (r12_g_Verticesl : Nat) (r12_g_Verticesc : Nat) (r12_outa : Option Addr) (r12_outl : Nat) (r12_outc : Nat) (r12_botha : Option Addr) (r12_bothl : Nat) (r12_bothc : Nat),
    v = .agg ⟨[.slice r12_g_Verticesa r12_g_Verticesl r12_g_Verticesc, .slice r12_outa r12_outl r12_outc, .slice r12_botha r12_bothl r12_bothc]⟩ ∧
    ∀ (H4 : AH),
    H4 = H3.new (.cells [.slice none 0 0, .slice none 0 0, .slice none 0 0] 0) →
    ∃ (H5 : AH),
    storeCellsv H4 H3.next 0 [.slice r12_g_Verticesa r12_g_Verticesl r12_g_Verticesc, .slice r12_outa r12_outl r12_outc, .slice r12_botha r12_bothl r12_bothc] = some H5 ∧
    ∃ (t13a : Option Addr) (t13l : Nat) (t13c : Nat),
    H5.cell H1.next 0 = some (.slice t13a t13l t13c) ∧
    ∃ (t16a : Option Addr) (t16l : Nat) (t16c : Nat),
    H5.cell H.next 0 = some (.slice t16a t16l t16c) ∧
    cond ((((t13l : Nat) : Int)) != (((t16l : Nat) : Int))) (
      Q (.bool false) H5) (
      ∀ (H6 : AH),
      H6 = H5.new (.cells [.nilFunc] 0) →
      ∃ (H7 : AH),
      storeCellsv H6 H5.next 0 [.func (.func F_spec_Matched_1) ⟨[]⟩ ⟨[.pointer (some ⟨H1.next, 0, none⟩), .pointer (some ⟨H.next, 0, none⟩)]⟩] = some H7 ∧
      ∃ (t20a : Option Addr) (t20l : Nat) (t20c : Nat),
      H7.cell H1.next 0 = some (.slice t20a t20l t20c) ∧
      ∃ (Inv : Nat → Bool → Int → AH → Prop),
      (
        ∃ (n_1 : Nat),
        Inv n_1 false 0 H7) ∧
      ∀ (n : Nat),
      ∀ (t4 : Bool) (t22 : Int) (H8 : AH),
      Inv n t4 t22 H8 →
      cond (decide (t22 < (((t20l : Nat) : Int)))) (
        grd t20a.isSome (
          (0 : Int) ≤ t22 ∧
          (t22 : Int) < ((t20l : Nat) : Int) ∧
          ∃ (t26 : Int),
          H8.cell ((adr t20a).block) ((adr t20a).off + (t22 : Int).toNat * 1) = some (.int .i64 t26) ∧
          ∃ (bt27 : Nat) (bt27_1 : Nat),
          H8.cell H5.next 0 = some (.func (.func F_spec_Matched_1) ⟨[]⟩ ⟨[.pointer (some ⟨bt27, 0, none⟩), .pointer (some ⟨bt27_1, 0, none⟩)]⟩) ∧
          FW Ee F_spec_Matched_1 [.int .i64 t22, .pointer (some ⟨bt27, 0, none⟩), .pointer (some ⟨bt27_1, 0, none⟩)] H8 fun v_1 H9 =>
            ∃ (r29 : Bool),
            v_1 = .bool r29 ∧
            cond (r29) (
              ∃ (t31a : Option Addr) (t31l : Nat) (t31c : Nat),
              H9.cell H3.next 2 = some (.slice t31a t31l t31c) ∧
              grd t31a.isSome (
                (0 : Int) ≤ t22 ∧
                (t22 : Int) < ((t31l : Nat) : Int) ∧
                ∃ (t34a : Option Addr) (t34l : Nat) (t34c : Nat),
                H9.cell ((adr t31a).block) ((adr t31a).off + (t22 : Int).toNat * 1) = some (.slice t34a t34l t34c) ∧
                FW Ee F_slices_ContainsFunc_L_int_int [.slice t34a t34l t34c, .func (.func F_spec_Matched_2) ⟨[]⟩ ⟨[.pointer (some ⟨H5.next, 0, none⟩)]⟩] H9 fun v_2 H10 =>
                  ∃ (r36 : Bool),
                  v_2 = .bool r36 ∧
                  cond (r36) (
                    Q (.bool false) H10) (
                    ∀ (t68 : Int),
                    t68 = IntKind.i64.wrap (t22 + 1) →
                    ∃ (m : Nat),
                    m < n ∧
                    Inv m t4 t68 H10))) (
              ∃ (t38_Verticesa : Option Addr) (t38_Verticesl : Nat) (t38_Verticesc : Nat),
              H9.cell H.next (0 + 0) = some (.slice t38_Verticesa t38_Verticesl t38_Verticesc) ∧
              FW Ee F_graph_Find [.agg ⟨[.slice t38_Verticesa t38_Verticesl t38_Verticesc]⟩, .int .i64 t26] H9 fun v_3 H11 =>
                ∃ (r40_0 : Int) (r40_1 : Bool),
                v_3 = .tuple ⟨[.int .i64 r40_0, .bool r40_1]⟩ ∧
                cond (!r40_1) (
                  Q (.bool false) H11) (
                  ∃ (t47a : Option Addr) (t47l : Nat) (t47c : Nat),
                  H11.cell H3.next 2 = some (.slice t47a t47l t47c) ∧
                  grd t47a.isSome (
                    (0 : Int) ≤ t22 ∧
                    (t22 : Int) < ((t47l : Nat) : Int) ∧
                    ∃ (t50a : Option Addr) (t50l : Nat) (t50c : Nat),
                    H11.cell ((adr t47a).block) ((adr t47a).off + (t22 : Int).toNat * 1) = some (.slice t50a t50l t50c) ∧
                    FW Ee F_slices_Contains_L_int_int [.slice t50a t50l t50c, .int .i64 r40_0] H11 fun v_4 H12 =>
                      ∃ (r52 : Bool),
                      v_4 = .bool r52 ∧
                      cond (!r52) (
                        Q (.bool false) H12) (
                        ∃ (t56a : Option Addr) (t56l : Nat) (t56c : Nat),
                        H12.cell H1.next 0 = some (.slice t56a t56l t56c) ∧
                        grd t56a.isSome (
                          (0 : Int) ≤ r40_0 ∧
                          (r40_0 : Int) < ((t56l : Nat) : Int) ∧
                          ∃ (t59 : Int),
                          H12.cell ((adr t56a).block) ((adr t56a).off + (r40_0 : Int).toNat * 1) = some (.int .i64 t59) ∧
                          ∃ (t61a : Option Addr) (t61l : Nat) (t61c : Nat),
                          H12.cell H.next 0 = some (.slice t61a t61l t61c) ∧
                          grd t61a.isSome (
                            (0 : Int) ≤ t22 ∧
                            (t22 : Int) < ((t61l : Nat) : Int) ∧
                            ∃ (t65 : Int),
                            H12.cell ((adr t61a).block) ((adr t61a).off + (t22 : Int).toNat * 3) = some (.int .i64 t65) ∧
                            cond (t59 != t65) (
                              Q (.bool false) H12) (
                              ∀ (t68_1 : Int),
                              t68_1 = IntKind.i64.wrap (t22 + 1) →
                              ∃ (m : Nat),
                              m < n ∧
                              Inv m t4 t68_1 H12))))))))) (
        Q (.bool true) H8))
set_option maxRecDepth 100000 in
theorem fw_spec_Matched {g0_Verticesa : Option Addr} {g0_Verticesl : Nat} {g0_Verticesc : Nat} {l1a : Option Addr} {l1l : Nat} {l1c : Nat} {H : AH} {Q : Value → AH → Prop} (h : VC_spec_Matched g0_Verticesa g0_Verticesl g0_Verticesc l1a l1l l1c H Q) : FW Ee F_spec_Matched [.agg ⟨[.slice g0_Verticesa g0_Verticesl g0_Verticesc]⟩, .slice l1a l1l l1c] H Q := by
  have e : VC_spec_Matched g0_Verticesa g0_Verticesl g0_Verticesc l1a l1l l1c H Q = wpF Ee ⟨[], []⟩ F_spec_Matched [.agg ⟨[.slice g0_Verticesa g0_Verticesl g0_Verticesc]⟩, .slice l1a l1l l1c] H Q := by kernel_rfl
  letI : Sy := sy0
  exact wpF_sound (Eq.mp e h)
/-- cohort/cohortlaw10.SpecMatched -/
def VC_cohortlaw10_SpecMatched (g0_Verticesa : Option Addr) (g0_Verticesl : Nat) (g0_Verticesc : Nat) (l1a : Option Addr) (l1l : Nat) (l1c : Nat) (H : AH) (Q : Value → AH → Prop) : Prop :=
  ∀ (H1 : AH),
  H1 = H.new (.cells [.slice g0_Verticesa g0_Verticesl g0_Verticesc] 0) →
  ∃ (t11_Verticesa : Option Addr) (t11_Verticesl : Nat) (t11_Verticesc : Nat),
  H1.cell H.next (0 + 0) = some (.slice t11_Verticesa t11_Verticesl t11_Verticesc) ∧
  FW Ee F_cohortlaw10_good [.agg ⟨[.slice t11_Verticesa t11_Verticesl t11_Verticesc]⟩] H1 fun v H2 =>
    ∃ (r12 : Bool),
    v = .bool r12 ∧
    cond (!r12) (
      FW Ee F_cohortlaw10_awake [] H2 fun v_1 H3 =>
        ∃ (r14 : Bool),
        v_1 = .bool r14 ∧
        Q (.bool r14) H3) (
      ∃ (t15_Verticesa : Option Addr) (t15_Verticesl : Nat) (t15_Verticesc : Nat),
      H2.cell H.next (0 + 0) = some (.slice t15_Verticesa t15_Verticesl t15_Verticesc) ∧
      FW Ee F_cohortlaw03_Ref [.agg ⟨[.slice t15_Verticesa t15_Verticesl t15_Verticesc]⟩] H2 fun v_2 H4 =>
        ∃ (r16a : Option Addr) (r16l : Nat) (r16c : Nat),
        v_2 = .slice r16a r16l r16c ∧
        ∃ (Inv : Nat → Bool → Int → AH → Prop),
        (
          ∃ (n_1 : Nat),
          Inv n_1 ((((l1l : Nat) : Int)) == (((r16l : Nat) : Int))) 0 H4) ∧
        ∀ (n : Nat),
        ∀ (ok6 : Bool) (i7 : Int) (H5 : AH),
        Inv n ok6 i7 H5 →
        cond (decide (i7 < (((r16l : Nat) : Int)))) (
          cond (ok6) (
            grd l1a.isSome (
              (0 : Int) ≤ i7 ∧
              (i7 : Int) < ((l1l : Nat) : Int) ∧
              ∃ (t34 : Int),
              H5.cell ((adr l1a).block) ((adr l1a).off + (i7 : Int).toNat * 1) = some (.int .i64 t34) ∧
              grd r16a.isSome (
                (0 : Int) ≤ i7 ∧
                (i7 : Int) < ((r16l : Nat) : Int) ∧
                ∃ (t39 : Int),
                H5.cell ((adr r16a).block) ((adr r16a).off + (i7 : Int).toNat * 3) = some (.int .i64 t39) ∧
                cond (t34 == t39) (
                  ∃ (Inv_1 : Nat → Bool → Int → AH → Prop),
                  (
                    ∃ (n_3 : Nat),
                    Inv_1 n_3 ok6 0 H5) ∧
                  ∀ (n_2 : Nat),
                  ∀ (ok6_1 : Bool) (a8 : Int) (H6 : AH),
                  Inv_1 n_2 ok6_1 a8 H6 →
                  cond (decide (a8 < (((r16l : Nat) : Int)))) (
                    cond (ok6_1) (
                      FW Ee F_cohortlaw10_near [.slice r16a r16l r16c, .int .i64 i7, .int .i64 a8] H6 fun v_3 H7 =>
                        ∃ (r52 : Bool),
                        v_3 = .bool r52 ∧
                        cond (r52) (
                          grd l1a.isSome (
                            (0 : Int) ≤ a8 ∧
                            (a8 : Int) < ((l1l : Nat) : Int) ∧
                            ∃ (t57 : Int),
                            H7.cell ((adr l1a).block) ((adr l1a).off + (a8 : Int).toNat * 1) = some (.int .i64 t57) ∧
                            grd r16a.isSome (
                              (0 : Int) ≤ a8 ∧
                              (a8 : Int) < ((r16l : Nat) : Int) ∧
                              ∃ (t62 : Int),
                              H7.cell ((adr r16a).block) ((adr r16a).off + (a8 : Int).toNat * 3) = some (.int .i64 t62) ∧
                              ∀ (t46 : Int),
                              t46 = IntKind.i64.wrap (a8 + 1) →
                              ∃ (m_1 : Nat),
                              m_1 < n_2 ∧
                              Inv_1 m_1 (!(t57 == t62)) t46 H7))) (
                          ∀ (t46_1 : Int),
                          t46_1 = IntKind.i64.wrap (a8 + 1) →
                          ∃ (m_1 : Nat),
                          m_1 < n_2 ∧
                          Inv_1 m_1 true t46_1 H7)) (
                      ∀ (t46_2 : Int),
                      t46_2 = IntKind.i64.wrap (a8 + 1) →
                      ∃ (m_1 : Nat),
                      m_1 < n_2 ∧
                      Inv_1 m_1 false t46_2 H6)) (
                    ∀ (t30 : Int),
                    t30 = IntKind.i64.wrap (i7 + 1) →
                    ∃ (m : Nat),
                    m < n ∧
                    Inv m ok6_1 t30 H6)) (
                  grd l1a.isSome (
                    (0 : Int) ≤ i7 ∧
                    (i7 : Int) < ((l1l : Nat) : Int) ∧
                    ∃ (t72 : Int),
                    H5.cell ((adr l1a).block) ((adr l1a).off + (i7 : Int).toNat * 1) = some (.int .i64 t72) ∧
                    FW Ee F_cohortref03_Find [.slice r16a r16l r16c, .int .i64 t72] H5 fun v_4 H8 =>
                      ∃ (r73_0 : Int) (r73_1 : Bool),
                      v_4 = .tuple ⟨[.int .i64 r73_0, .bool r73_1]⟩ ∧
                      cond (r73_1) (
                        FW Ee F_cohortlaw10_near [.slice r16a r16l r16c, .int .i64 i7, .int .i64 r73_0] H8 fun v_5 H9 =>
                          ∃ (r81 : Bool),
                          v_5 = .bool r81 ∧
                          cond (r81) (
                            grd l1a.isSome (
                              (0 : Int) ≤ r73_0 ∧
                              (r73_0 : Int) < ((l1l : Nat) : Int) ∧
                              ∃ (t87 : Int),
                              H9.cell ((adr l1a).block) ((adr l1a).off + (r73_0 : Int).toNat * 1) = some (.int .i64 t87) ∧
                              grd r16a.isSome (
                                (0 : Int) ≤ i7 ∧
                                (i7 : Int) < ((r16l : Nat) : Int) ∧
                                ∃ (t92 : Int),
                                H9.cell ((adr r16a).block) ((adr r16a).off + (i7 : Int).toNat * 3) = some (.int .i64 t92) ∧
                                ∀ (t30_1 : Int),
                                t30_1 = IntKind.i64.wrap (i7 + 1) →
                                ∃ (m : Nat),
                                m < n ∧
                                Inv m (t87 == t92) t30_1 H9))) (
                            ∀ (t30_2 : Int),
                            t30_2 = IntKind.i64.wrap (i7 + 1) →
                            ∃ (m : Nat),
                            m < n ∧
                            Inv m false t30_2 H9)) (
                        ∀ (t30_3 : Int),
                        t30_3 = IntKind.i64.wrap (i7 + 1) →
                        ∃ (m : Nat),
                        m < n ∧
                        Inv m false t30_3 H8)))))) (
            FW Ee F_cohortlaw10_awake [] H5 fun v_6 H10 =>
              ∃ (r95 : Bool),
              v_6 = .bool r95 ∧
              cond (r95) (
                ∃ (t97_Verticesa : Option Addr) (t97_Verticesl : Nat) (t97_Verticesc : Nat),
                H10.cell H.next (0 + 0) = some (.slice t97_Verticesa t97_Verticesl t97_Verticesc) ∧
                FW Ee F_spec_Matched [.agg ⟨[.slice t97_Verticesa t97_Verticesl t97_Verticesc]⟩, .slice l1a l1l l1c] H10 fun v_7 H11 =>
                  ∃ (r99 : Bool),
                  v_7 = .bool r99 ∧
                  Q (.bool (r99 == ok6)) H11) (
                Q (.bool false) H10))) (
          FW Ee F_cohortlaw10_awake [] H5 fun v_8 H12 =>
            ∃ (r95_1 : Bool),
            v_8 = .bool r95_1 ∧
            cond (r95_1) (
              ∃ (t97_Verticesa_1 : Option Addr) (t97_Verticesl_1 : Nat) (t97_Verticesc_1 : Nat),
              H12.cell H.next (0 + 0) = some (.slice t97_Verticesa_1 t97_Verticesl_1 t97_Verticesc_1) ∧
              FW Ee F_spec_Matched [.agg ⟨[.slice t97_Verticesa_1 t97_Verticesl_1 t97_Verticesc_1]⟩, .slice l1a l1l l1c] H12 fun v_9 H13 =>
                ∃ (r99_1 : Bool),
                v_9 = .bool r99_1 ∧
                Q (.bool (r99_1 == ok6)) H13) (
              Q (.bool false) H12)))
set_option maxRecDepth 100000 in
theorem fw_cohortlaw10_SpecMatched {g0_Verticesa : Option Addr} {g0_Verticesl : Nat} {g0_Verticesc : Nat} {l1a : Option Addr} {l1l : Nat} {l1c : Nat} {H : AH} {Q : Value → AH → Prop} (h : VC_cohortlaw10_SpecMatched g0_Verticesa g0_Verticesl g0_Verticesc l1a l1l l1c H Q) : FW Ee F_cohortlaw10_SpecMatched [.agg ⟨[.slice g0_Verticesa g0_Verticesl g0_Verticesc]⟩, .slice l1a l1l l1c] H Q := by
  have e : VC_cohortlaw10_SpecMatched g0_Verticesa g0_Verticesl g0_Verticesc l1a l1l l1c H Q = wpF Ee ⟨[], []⟩ F_cohortlaw10_SpecMatched [.agg ⟨[.slice g0_Verticesa g0_Verticesl g0_Verticesc]⟩, .slice l1a l1l l1c] H Q := by kernel_rfl
  letI : Sy := sy0
  exact wpF_sound (Eq.mp e h)
end Go.Proofs.Cx
