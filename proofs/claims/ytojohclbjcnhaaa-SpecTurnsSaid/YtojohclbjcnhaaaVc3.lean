/- What calls come to, as formulas: printed by a program. -/
import Derived.Test.YtojohclbjcnhaaaVc0
namespace Go.Proofs.Cx
open Go Go.Ev
set_option linter.unusedVariables false
/-- cohort/spec.Components -/
def VC_spec_Components (g0_Verticesa : Option Addr) (g0_Verticesl : Nat) (g0_Verticesc : Nat) (H : AH) (Q : Value → AH → Prop) : Prop :=
  ∀ (H1 : AH),
  H1 = H.new (.cells [.slice g0_Verticesa g0_Verticesl g0_Verticesc] 0) →
  ∃ (t10_Verticesa : Option Addr) (t10_Verticesl : Nat) (t10_Verticesc : Nat),
  H1.cell H.next (0 + 0) = some (.slice t10_Verticesa t10_Verticesl t10_Verticesc) ∧
  FW Ee F_spec_of [.agg ⟨[.slice t10_Verticesa t10_Verticesl t10_Verticesc]⟩] H1 fun v H2 =>
    ∃ (r11_g_Verticesa : Option Addr) (r11_g_Verticesl : Nat) (r11_g_Verticesc : Nat) (r11_outa : Option Addr) (r11_outl : Nat) (r11_outc : Nat) (r11_botha : Option Addr) (r11_bothl : Nat) (r11_bothc : Nat),
    v = .agg ⟨[.slice r11_g_Verticesa r11_g_Verticesl r11_g_Verticesc, .slice r11_outa r11_outl r11_outc, .slice r11_botha r11_bothl r11_bothc]⟩ ∧
    ∀ (H3 : AH),
    H3 = H2.new (.cells [.slice none 0 0, .slice none 0 0, .slice none 0 0] 0) →
    ∃ (H4 : AH),
    storeCellsv H3 H2.next 0 [.slice r11_g_Verticesa r11_g_Verticesl r11_g_Verticesc, .slice r11_outa r11_outl r11_outc, .slice r11_botha r11_bothl r11_bothc] = some H4 ∧
    ∃ (t13a : Option Addr) (t13l : Nat) (t13c : Nat),
    H4.cell H.next 0 = some (.slice t13a t13l t13c) ∧
    (0 : Int) ≤ ((t13l : Nat) : Int) ∧
    (((t13l : Nat) : Int) : Int) ≤ ((t13l : Nat) : Int) ∧
    (((t13l : Nat) : Int) : Int) < 4294967296 ∧
    (((t13l : Nat) : Int) : Int).toNat * 8 ≤ 140737488355328 ∧
    ∀ (H5 : AH),
    H5 = H4.new (.cells ((List.replicate (((t13l : Nat) : Int) : Int).toNat [.int .i64 0]).flatten) 0) →
    (0 : Int) ≤ (((((t13l : Nat) : Int) : Int).toNat : Nat) : Int) ∧
    ((((((t13l : Nat) : Int) : Int).toNat : Nat) : Int) : Int) ≤ (((((t13l : Nat) : Int) : Int).toNat : Nat) : Int) ∧
    ((((((t13l : Nat) : Int) : Int).toNat : Nat) : Int) : Int) < 4294967296 ∧
    ((((((t13l : Nat) : Int) : Int).toNat : Nat) : Int) : Int).toNat * 1 ≤ 140737488355328 ∧
    ∀ (H6 : AH),
    H6 = H5.new (.cells ((List.replicate ((((((t13l : Nat) : Int) : Int).toNat : Nat) : Int) : Int).toNat [.bool false]).flatten) 0) →
    ∃ (t20a : Option Addr) (t20l : Nat) (t20c : Nat),
    H6.cell H.next 0 = some (.slice t20a t20l t20c) ∧
    ∃ (Inv : Nat → Int → AH → Prop),
    (
      ∃ (n_1 : Nat),
      Inv n_1 0 H6) ∧
    ∀ (n : Nat),
    ∀ (t22 : Int) (H7 : AH),
    Inv n t22 H7 →
    cond (decide (t22 < (((t20l : Nat) : Int)))) (
      grd t20a.isSome (
        (0 : Int) ≤ t22 ∧
        (t22 : Int) < ((t20l : Nat) : Int) ∧
        ∃ (t26_ID : Int) (t26_Value : Int) (t26_Edgesa : Option Addr) (t26_Edgesl : Nat) (t26_Edgesc : Nat),
        H7.cell ((adr t20a).block) ((adr t20a).off + (t22 : Int).toNat * 3 + 0) = some (.int .i64 t26_ID) ∧
        H7.cell ((adr t20a).block) ((adr t20a).off + (t22 : Int).toNat * 3 + 1) = some (.int .i64 t26_Value) ∧
        H7.cell ((adr t20a).block) ((adr t20a).off + (t22 : Int).toNat * 3 + 2) = some (.slice t26_Edgesa t26_Edgesl t26_Edgesc) ∧
        ∀ (H8 : AH),
        H8 = H7.new (.cells [.int .i64 0, .int .i64 0, .slice none 0 0] 0) →
        ∃ (H9 : AH),
        storeCellsv H8 H7.next 0 [.int .i64 t26_ID, .int .i64 t26_Value, .slice t26_Edgesa t26_Edgesl t26_Edgesc] = some H9 ∧
        ∀ (H10 : AH),
        H10 = H9.new (.cells [.int .i64 t22] 0) →
        ∃ (Inv_1 : Nat → Option Addr → Nat → Nat → AH → Prop),
        (
          ∃ (n_3 : Nat),
          Inv_1 n_3 (some ⟨H9.next, 0, none⟩) 1 2 H10) ∧
        ∀ (n_2 : Nat),
        ∀ (row8a : Option Addr) (row8l : Nat) (row8c : Nat) (H11 : AH),
        Inv_1 n_2 row8a row8l row8c H11 →
        cond (decide ((((row8l : Nat) : Int)) > 0)) (
          ∀ (t35 : Int),
          t35 = IntKind.i64.wrap ((((row8l : Nat) : Int)) - 1) →
          grd row8a.isSome (
            (0 : Int) ≤ t35 ∧
            (t35 : Int) < ((row8l : Nat) : Int) ∧
            ∃ (t37 : Int),
            H11.cell ((adr row8a).block) ((adr row8a).off + (t35 : Int).toNat * 1) = some (.int .i64 t37) ∧
            ∀ (t41 : Int),
            t41 = IntKind.i64.wrap ((((row8l : Nat) : Int)) - 1) →
            ∃ (t42a : Option Addr) (t42l : Nat) (t42c : Nat),
            slcv H11 1 row8a row8l row8c none (some (.int .i64 t41)) none = some (.slice t42a t42l t42c) ∧
            (0 : Int) ≤ t37 ∧
            (t37 : Int) < ((((((((t13l : Nat) : Int) : Int).toNat : Nat) : Int) : Int).toNat : Nat) : Int) ∧
            ∃ (t46 : Bool),
            H11.cell H5.next (0 + (t37 : Int).toNat * 1) = some (.bool t46) ∧
            cond (t46) (
              ∃ (m_1 : Nat),
              m_1 < n_2 ∧
              Inv_1 m_1 t42a t42l t42c H11) (
              ∃ (t52 : Int),
              H11.cell H7.next 0 = some (.int .i64 t52) ∧
              (0 : Int) ≤ t37 ∧
              (t37 : Int) < ((((((((t13l : Nat) : Int) : Int).toNat : Nat) : Int) : Int).toNat : Nat) : Int) ∧
              ∃ (H12 : AH),
              storeCellsv H11 H5.next (0 + (t37 : Int).toNat * 1) [.bool true] = some H12 ∧
              (0 : Int) ≤ t37 ∧
              (t37 : Int) < (((((t13l : Nat) : Int) : Int).toNat : Nat) : Int) ∧
              ∃ (H13 : AH),
              storeCellsv H12 H4.next (0 + (t37 : Int).toNat * 1) [.int .i64 t52] = some H13 ∧
              H12.cell H7.next 0 = some (.int .i64 t52) ∧
              ∃ (t57a : Option Addr) (t57l : Nat) (t57c : Nat),
              H13.cell H2.next 2 = some (.slice t57a t57l t57c) ∧
              grd t57a.isSome (
                (0 : Int) ≤ t37 ∧
                (t37 : Int) < ((t57l : Nat) : Int) ∧
                ∃ (t60a : Option Addr) (t60l : Nat) (t60c : Nat),
                H13.cell ((adr t57a).block) ((adr t57a).off + (t37 : Int).toNat * 1) = some (.slice t60a t60l t60c) ∧
                ∃ (t61a : Option Addr) (t61l : Nat) (t61c : Nat) (H14 : AH),
                apnd H13 1 8 t42a t42l t42c (.slice t60a t60l t60c) = some (.slice t61a t61l t61c, H14) ∧
                ∃ (m_1 : Nat),
                m_1 < n_2 ∧
                Inv_1 m_1 t61a t61l t61c H14)))) (
          ∀ (t62 : Int),
          t62 = IntKind.i64.wrap (t22 + 1) →
          ∃ (m : Nat),
          m < n ∧
          Inv m t62 H11))) (
      Q (.slice (some ⟨H4.next, 0, none⟩) ((((t13l : Nat) : Int) : Int).toNat) (2 * (((t13l : Nat) : Int) : Int).toNat)) H7)
set_option maxRecDepth 100000 in
theorem fw_spec_Components {g0_Verticesa : Option Addr} {g0_Verticesl : Nat} {g0_Verticesc : Nat} {H : AH} {Q : Value → AH → Prop} (h : VC_spec_Components g0_Verticesa g0_Verticesl g0_Verticesc H Q) : FW Ee F_spec_Components [.agg ⟨[.slice g0_Verticesa g0_Verticesl g0_Verticesc]⟩] H Q := by
  have e : VC_spec_Components g0_Verticesa g0_Verticesl g0_Verticesc H Q = wpF Ee ⟨[], []⟩ F_spec_Components [.agg ⟨[.slice g0_Verticesa g0_Verticesl g0_Verticesc]⟩] H Q := by kernel_rfl
  letI : Sy := sy0
  exact wpF_sound (Eq.mp e h)
/-- cohort/spec.Triangles -/
def VC_spec_Triangles (g0_Verticesa : Option Addr) (g0_Verticesl : Nat) (g0_Verticesc : Nat) (H : AH) (Q : Value → AH → Prop) : Prop :=
  ∀ (H1 : AH),
  H1 = H.new (.cells [.slice g0_Verticesa g0_Verticesl g0_Verticesc] 0) →
  ∃ (t11_Verticesa : Option Addr) (t11_Verticesl : Nat) (t11_Verticesc : Nat),
  H1.cell H.next (0 + 0) = some (.slice t11_Verticesa t11_Verticesl t11_Verticesc) ∧
  FW Ee F_spec_of [.agg ⟨[.slice t11_Verticesa t11_Verticesl t11_Verticesc]⟩] H1 fun v H2 =>
    ∃ (r12_g_Verticesa : Option Addr) (r12_g_Verticesl : Nat) (r12_g_Verticesc : Nat) (r12_outa : Option Addr) (r12_outl : Nat) (r12_outc : Nat) (r12_botha : Option Addr) (r12_bothl : Nat) (r12_bothc : Nat),
    v = .agg ⟨[.slice r12_g_Verticesa r12_g_Verticesl r12_g_Verticesc, .slice r12_outa r12_outl r12_outc, .slice r12_botha r12_bothl r12_bothc]⟩ ∧
    ∀ (H3 : AH),
    H3 = H2.new (.cells [.slice none 0 0, .slice none 0 0, .slice none 0 0] 0) →
    ∃ (H4 : AH),
    storeCellsv H3 H2.next 0 [.slice r12_g_Verticesa r12_g_Verticesl r12_g_Verticesc, .slice r12_outa r12_outl r12_outc, .slice r12_botha r12_bothl r12_bothc] = some H4 ∧
    ∃ (t14a : Option Addr) (t14l : Nat) (t14c : Nat),
    H4.cell H.next 0 = some (.slice t14a t14l t14c) ∧
    (0 : Int) ≤ ((t14l : Nat) : Int) ∧
    (((t14l : Nat) : Int) : Int) ≤ ((t14l : Nat) : Int) ∧
    (((t14l : Nat) : Int) : Int) < 4294967296 ∧
    (((t14l : Nat) : Int) : Int).toNat * 8 ≤ 140737488355328 ∧
    ∀ (H5 : AH),
    H5 = H4.new (.cells ((List.replicate (((t14l : Nat) : Int) : Int).toNat [.int .i64 0]).flatten) 0) →
    ∃ (t18a : Option Addr) (t18l : Nat) (t18c : Nat),
    H5.cell H2.next 2 = some (.slice t18a t18l t18c) ∧
    ∃ (Inv : Nat → Int → AH → Prop),
    (
      ∃ (n_1 : Nat),
      Inv n_1 0 H5) ∧
    ∀ (n : Nat),
    ∀ (t20 : Int) (H6 : AH),
    Inv n t20 H6 →
    cond (decide (t20 < (((t18l : Nat) : Int)))) (
      grd t18a.isSome (
        (0 : Int) ≤ t20 ∧
        (t20 : Int) < ((t18l : Nat) : Int) ∧
        ∃ (t24a : Option Addr) (t24l : Nat) (t24c : Nat),
        H6.cell ((adr t18a).block) ((adr t18a).off + (t20 : Int).toNat * 1) = some (.slice t24a t24l t24c) ∧
        ∃ (Inv_1 : Nat → Int → AH → Prop),
        (
          ∃ (n_3 : Nat),
          Inv_1 n_3 0 H6) ∧
        ∀ (n_2 : Nat),
        ∀ (t27 : Int) (H7 : AH),
        Inv_1 n_2 t27 H7 →
        cond (decide (t27 < (((t24l : Nat) : Int)))) (
          grd t24a.isSome (
            (0 : Int) ≤ t27 ∧
            (t27 : Int) < ((t24l : Nat) : Int) ∧
            ∃ (t31 : Int),
            H7.cell ((adr t24a).block) ((adr t24a).off + (t27 : Int).toNat * 1) = some (.int .i64 t31) ∧
            cond (decide (t31 > t20)) (
              ∀ (t64 : Int),
              t64 = IntKind.i64.wrap (t20 + 1) →
              ∃ (m : Nat),
              m < n ∧
              Inv m t64 H7) (
              ∀ (t37 : Int),
              t37 = IntKind.i64.wrap (t27 + 1) →
              ∃ (t38a : Option Addr) (t38l : Nat) (t38c : Nat),
              slcv H7 1 t24a t24l t24c (some (.int .i64 t37)) none none = some (.slice t38a t38l t38c) ∧
              ∃ (Inv_2 : Nat → Int → AH → Prop),
              (
                ∃ (n_5 : Nat),
                Inv_2 n_5 0 H7) ∧
              ∀ (n_4 : Nat),
              ∀ (t40 : Int) (H8 : AH),
              Inv_2 n_4 t40 H8 →
              cond (decide (t40 < (((t38l : Nat) : Int)))) (
                grd t38a.isSome (
                  (0 : Int) ≤ t40 ∧
                  (t40 : Int) < ((t38l : Nat) : Int) ∧
                  ∃ (t43 : Int),
                  H8.cell ((adr t38a).block) ((adr t38a).off + (t40 : Int).toNat * 1) = some (.int .i64 t43) ∧
                  cond (decide (t43 > t20)) (
                    ∃ (t49a : Option Addr) (t49l : Nat) (t49c : Nat),
                    H8.cell H2.next 2 = some (.slice t49a t49l t49c) ∧
                    grd t49a.isSome (
                      (0 : Int) ≤ t31 ∧
                      (t31 : Int) < ((t49l : Nat) : Int) ∧
                      ∃ (t52a : Option Addr) (t52l : Nat) (t52c : Nat),
                      H8.cell ((adr t49a).block) ((adr t49a).off + (t31 : Int).toNat * 1) = some (.slice t52a t52l t52c) ∧
                      FW Ee F_slices_Contains_L_int_int [.slice t52a t52l t52c, .int .i64 t43] H8 fun v_1 H9 =>
                        ∃ (r54 : Bool),
                        v_1 = .bool r54 ∧
                        cond (r54) (
                          (0 : Int) ≤ t20 ∧
                          (t20 : Int) < (((((t14l : Nat) : Int) : Int).toNat : Nat) : Int) ∧
                          ∃ (t59 : Int),
                          H9.cell H4.next (0 + (t20 : Int).toNat * 1) = some (.int .i64 t59) ∧
                          ∀ (t60 : Int),
                          t60 = IntKind.i64.wrap (t59 + 1) →
                          (0 : Int) ≤ t20 ∧
                          (t20 : Int) < (((((t14l : Nat) : Int) : Int).toNat : Nat) : Int) ∧
                          ∃ (H10 : AH),
                          storeCellsv H9 H4.next (0 + (t20 : Int).toNat * 1) [.int .i64 t60] = some H10 ∧
                          ∀ (t62 : Int),
                          t62 = IntKind.i64.wrap (t40 + 1) →
                          ∃ (m_2 : Nat),
                          m_2 < n_4 ∧
                          Inv_2 m_2 t62 H10) (
                          ∀ (t62_1 : Int),
                          t62_1 = IntKind.i64.wrap (t40 + 1) →
                          ∃ (m_2 : Nat),
                          m_2 < n_4 ∧
                          Inv_2 m_2 t62_1 H9))) (
                    ∀ (t62_2 : Int),
                    t62_2 = IntKind.i64.wrap (t40 + 1) →
                    ∃ (m_2 : Nat),
                    m_2 < n_4 ∧
                    Inv_2 m_2 t62_2 H8))) (
                ∀ (t63 : Int),
                t63 = IntKind.i64.wrap (t27 + 1) →
                ∃ (m_1 : Nat),
                m_1 < n_2 ∧
                Inv_1 m_1 t63 H8)))) (
          ∀ (t64_1 : Int),
          t64_1 = IntKind.i64.wrap (t20 + 1) →
          ∃ (m : Nat),
          m < n ∧
          Inv m t64_1 H7))) (
      Q (.slice (some ⟨H4.next, 0, none⟩) ((((t14l : Nat) : Int) : Int).toNat) (2 * (((t14l : Nat) : Int) : Int).toNat)) H6)
set_option maxRecDepth 100000 in
theorem fw_spec_Triangles {g0_Verticesa : Option Addr} {g0_Verticesl : Nat} {g0_Verticesc : Nat} {H : AH} {Q : Value → AH → Prop} (h : VC_spec_Triangles g0_Verticesa g0_Verticesl g0_Verticesc H Q) : FW Ee F_spec_Triangles [.agg ⟨[.slice g0_Verticesa g0_Verticesl g0_Verticesc]⟩] H Q := by
  have e : VC_spec_Triangles g0_Verticesa g0_Verticesl g0_Verticesc H Q = wpF Ee ⟨[], []⟩ F_spec_Triangles [.agg ⟨[.slice g0_Verticesa g0_Verticesl g0_Verticesc]⟩] H Q := by kernel_rfl
  letI : Sy := sy0
  exact wpF_sound (Eq.mp e h)
/-- cohort/spec.Core -/
def VC_spec_Core (g0_Verticesa : Option Addr) (g0_Verticesl : Nat) (g0_Verticesc : Nat) (k1 : Int) (H : AH) (Q : Value → AH → Prop) : Prop :=
  ∀ (H1 : AH),
  H1 = H.new (.cells [.slice g0_Verticesa g0_Verticesl g0_Verticesc] 0) →
  ∃ (t13_Verticesa : Option Addr) (t13_Verticesl : Nat) (t13_Verticesc : Nat),
  H1.cell H.next (0 + 0) = some (.slice t13_Verticesa t13_Verticesl t13_Verticesc) ∧
  FW Ee F_spec_of [.agg ⟨[.slice t13_Verticesa t13_Verticesl t13_Verticesc]⟩] H1 fun v H2 =>
    ∃ (r14_g_Verticesa : Option Addr) (r14_g_Verticesl : Nat) (r14_g_Verticesc : Nat) (r14_outa : Option Addr) (r14_outl : Nat) (r14_outc : Nat) (r14_botha : Option Addr) (r14_bothl : Nat) (r14_bothc : Nat),
    v = .agg ⟨[.slice r14_g_Verticesa r14_g_Verticesl r14_g_Verticesc, .slice r14_outa r14_outl r14_outc, .slice r14_botha r14_bothl r14_bothc]⟩ ∧
    ∀ (H3 : AH),
    H3 = H2.new (.cells [.slice none 0 0, .slice none 0 0, .slice none 0 0] 0) →
    ∃ (H4 : AH),
    storeCellsv H3 H2.next 0 [.slice r14_g_Verticesa r14_g_Verticesl r14_g_Verticesc, .slice r14_outa r14_outl r14_outc, .slice r14_botha r14_bothl r14_bothc] = some H4 ∧
    ∃ (t16a : Option Addr) (t16l : Nat) (t16c : Nat),
    H4.cell H.next 0 = some (.slice t16a t16l t16c) ∧
    (0 : Int) ≤ ((t16l : Nat) : Int) ∧
    (((t16l : Nat) : Int) : Int) ≤ ((t16l : Nat) : Int) ∧
    (((t16l : Nat) : Int) : Int) < 4294967296 ∧
    (((t16l : Nat) : Int) : Int).toNat * 8 ≤ 140737488355328 ∧
    ∀ (H5 : AH),
    H5 = H4.new (.cells ((List.replicate (((t16l : Nat) : Int) : Int).toNat [.int .i64 0]).flatten) 0) →
    ∃ (t20a : Option Addr) (t20l : Nat) (t20c : Nat),
    H5.cell H2.next 2 = some (.slice t20a t20l t20c) ∧
    ∃ (Inv : Nat → Int → AH → Prop),
    (
      ∃ (n_1 : Nat),
      Inv n_1 0 H5) ∧
    ∀ (n : Nat),
    ∀ (t22 : Int) (H6 : AH),
    Inv n t22 H6 →
    cond (decide (t22 < (((t20l : Nat) : Int)))) (
      grd t20a.isSome (
        (0 : Int) ≤ t22 ∧
        (t22 : Int) < ((t20l : Nat) : Int) ∧
        ∃ (t26a : Option Addr) (t26l : Nat) (t26c : Nat),
        H6.cell ((adr t20a).block) ((adr t20a).off + (t22 : Int).toNat * 1) = some (.slice t26a t26l t26c) ∧
        (0 : Int) ≤ t22 ∧
        (t22 : Int) < (((((t16l : Nat) : Int) : Int).toNat : Nat) : Int) ∧
        ∃ (H7 : AH),
        storeCellsv H6 H4.next (0 + (t22 : Int).toNat * 1) [.int .i64 (((t26l : Nat) : Int))] = some H7 ∧
        ∀ (t32 : Int),
        t32 = IntKind.i64.wrap (t22 + 1) →
        ∃ (m : Nat),
        m < n ∧
        Inv m t32 H7)) (
      ∃ (Inv_1 : Nat → AH → Prop),
      (
        ∃ (n_3 : Nat),
        Inv_1 n_3 H6) ∧
      ∀ (n_2 : Nat),
      ∀ (H8 : AH),
      Inv_1 n_2 H8 →
      ∃ (Inv_2 : Nat → Int → AH → Prop),
      (
        ∃ (n_5 : Nat),
        Inv_2 n_5 0 H8) ∧
      ∀ (n_4 : Nat),
      ∀ (t35 : Int) (H9 : AH),
      Inv_2 n_4 t35 H9 →
      cond (decide (t35 < ((((((t16l : Nat) : Int) : Int).toNat : Nat) : Int)))) (
        (0 : Int) ≤ t35 ∧
        (t35 : Int) < (((((t16l : Nat) : Int) : Int).toNat : Nat) : Int) ∧
        ∃ (t39 : Int),
        H9.cell H4.next (0 + (t35 : Int).toNat * 1) = some (.int .i64 t39) ∧
        cond (decide (t39 < 0)) (
          ∀ (t72 : Int),
          t72 = IntKind.i64.wrap (t35 + 1) →
          ∃ (m_2 : Nat),
          m_2 < n_4 ∧
          Inv_2 m_2 t72 H9) (
          cond (decide (t39 ≥ k1)) (
            ∀ (t72_1 : Int),
            t72_1 = IntKind.i64.wrap (t35 + 1) →
            ∃ (m_2 : Nat),
            m_2 < n_4 ∧
            Inv_2 m_2 t72_1 H9) (
            (0 : Int) ≤ t35 ∧
            (t35 : Int) < (((((t16l : Nat) : Int) : Int).toNat : Nat) : Int) ∧
            ∃ (H10 : AH),
            storeCellsv H9 H4.next (0 + (t35 : Int).toNat * 1) [.int .i64 (-1)] = some H10 ∧
            ∃ (t51a : Option Addr) (t51l : Nat) (t51c : Nat),
            H10.cell H2.next 2 = some (.slice t51a t51l t51c) ∧
            grd t51a.isSome (
              (0 : Int) ≤ t35 ∧
              (t35 : Int) < ((t51l : Nat) : Int) ∧
              ∃ (t54a : Option Addr) (t54l : Nat) (t54c : Nat),
              H10.cell ((adr t51a).block) ((adr t51a).off + (t35 : Int).toNat * 1) = some (.slice t54a t54l t54c) ∧
              ∃ (Inv_3 : Nat → Int → AH → Prop),
              (
                ∃ (n_7 : Nat),
                Inv_3 n_7 0 H10) ∧
              ∀ (n_6 : Nat),
              ∀ (t56 : Int) (H11 : AH),
              Inv_3 n_6 t56 H11 →
              cond (decide (t56 < (((t54l : Nat) : Int)))) (
                grd t54a.isSome (
                  (0 : Int) ≤ t56 ∧
                  (t56 : Int) < ((t54l : Nat) : Int) ∧
                  ∃ (t59 : Int),
                  H11.cell ((adr t54a).block) ((adr t54a).off + (t56 : Int).toNat * 1) = some (.int .i64 t59) ∧
                  (0 : Int) ≤ t59 ∧
                  (t59 : Int) < (((((t16l : Nat) : Int) : Int).toNat : Nat) : Int) ∧
                  ∃ (t63 : Int),
                  H11.cell H4.next (0 + (t59 : Int).toNat * 1) = some (.int .i64 t63) ∧
                  cond (decide (t63 ≥ 0)) (
                    (0 : Int) ≤ t59 ∧
                    (t59 : Int) < (((((t16l : Nat) : Int) : Int).toNat : Nat) : Int) ∧
                    ∃ (t68 : Int),
                    H11.cell H4.next (0 + (t59 : Int).toNat * 1) = some (.int .i64 t68) ∧
                    ∀ (t69 : Int),
                    t69 = IntKind.i64.wrap (t68 - 1) →
                    (0 : Int) ≤ t59 ∧
                    (t59 : Int) < (((((t16l : Nat) : Int) : Int).toNat : Nat) : Int) ∧
                    ∃ (H12 : AH),
                    storeCellsv H11 H4.next (0 + (t59 : Int).toNat * 1) [.int .i64 t69] = some H12 ∧
                    ∀ (t71 : Int),
                    t71 = IntKind.i64.wrap (t56 + 1) →
                    ∃ (m_3 : Nat),
                    m_3 < n_6 ∧
                    Inv_3 m_3 t71 H12) (
                    ∀ (t71_1 : Int),
                    t71_1 = IntKind.i64.wrap (t56 + 1) →
                    ∃ (m_3 : Nat),
                    m_3 < n_6 ∧
                    Inv_3 m_3 t71_1 H11))) (
                ∃ (m_1 : Nat),
                m_1 < n_2 ∧
                Inv_1 m_1 H11))))) (
        Q (.slice (some ⟨H4.next, 0, none⟩) ((((t16l : Nat) : Int) : Int).toNat) (2 * (((t16l : Nat) : Int) : Int).toNat)) H9))
set_option maxRecDepth 100000 in
theorem fw_spec_Core {g0_Verticesa : Option Addr} {g0_Verticesl : Nat} {g0_Verticesc : Nat} {k1 : Int} {H : AH} {Q : Value → AH → Prop} (h : VC_spec_Core g0_Verticesa g0_Verticesl g0_Verticesc k1 H Q) : FW Ee F_spec_Core [.agg ⟨[.slice g0_Verticesa g0_Verticesl g0_Verticesc]⟩, .int .i64 k1] H Q := by
  have e : VC_spec_Core g0_Verticesa g0_Verticesl g0_Verticesc k1 H Q = wpF Ee ⟨[], []⟩ F_spec_Core [.agg ⟨[.slice g0_Verticesa g0_Verticesl g0_Verticesc]⟩, .int .i64 k1] H Q := by kernel_rfl
  letI : Sy := sy0
  exact wpF_sound (Eq.mp e h)
/-- cohort/spec.Colors -/
def VC_spec_Colors (g0_Verticesa : Option Addr) (g0_Verticesl : Nat) (g0_Verticesc : Nat) (H : AH) (Q : Value → AH → Prop) : Prop :=
  ∀ (H1 : AH),
  H1 = H.new (.cells [.slice g0_Verticesa g0_Verticesl g0_Verticesc] 0) →
  ∃ (t10_Verticesa : Option Addr) (t10_Verticesl : Nat) (t10_Verticesc : Nat),
  H1.cell H.next (0 + 0) = some (.slice t10_Verticesa t10_Verticesl t10_Verticesc) ∧
  FW Ee F_spec_of [.agg ⟨[.slice t10_Verticesa t10_Verticesl t10_Verticesc]⟩] H1 fun v H2 =>
    ∃ (r11_g_Verticesa : Option Addr) (r11_g_Verticesl : Nat) (r11_g_Verticesc : Nat) (r11_outa : Option Addr) (r11_outl : Nat) (r11_outc : Nat) (r11_botha : Option Addr) (r11_bothl : Nat) (r11_bothc : Nat),
    v = .agg ⟨[.slice r11_g_Verticesa r11_g_Verticesl r11_g_Verticesc, .slice r11_outa r11_outl r11_outc, .slice r11_botha r11_bothl r11_bothc]⟩ ∧
    ∀ (H3 : AH),
    H3 = H2.new (.cells [.slice none 0 0, .slice none 0 0, .slice none 0 0] 0) →
    ∃ (H4 : AH),
    storeCellsv H3 H2.next 0 [.slice r11_g_Verticesa r11_g_Verticesl r11_g_Verticesc, .slice r11_outa r11_outl r11_outc, .slice r11_botha r11_bothl r11_bothc] = some H4 ∧
    ∃ (t13a : Option Addr) (t13l : Nat) (t13c : Nat),
    H4.cell H.next 0 = some (.slice t13a t13l t13c) ∧
    (0 : Int) ≤ ((t13l : Nat) : Int) ∧
    (((t13l : Nat) : Int) : Int) ≤ ((t13l : Nat) : Int) ∧
    (((t13l : Nat) : Int) : Int) < 4294967296 ∧
    (((t13l : Nat) : Int) : Int).toNat * 8 ≤ 140737488355328 ∧
    ∀ (H5 : AH),
    H5 = H4.new (.cells ((List.replicate (((t13l : Nat) : Int) : Int).toNat [.int .i64 0]).flatten) 0) →
    ∃ (t17a : Option Addr) (t17l : Nat) (t17c : Nat),
    H5.cell H2.next 2 = some (.slice t17a t17l t17c) ∧
    ∃ (Inv : Nat → Int → AH → Prop),
    (
      ∃ (n_1 : Nat),
      Inv n_1 0 H5) ∧
    ∀ (n : Nat),
    ∀ (t19 : Int) (H6 : AH),
    Inv n t19 H6 →
    cond (decide (t19 < (((t17l : Nat) : Int)))) (
      grd t17a.isSome (
        (0 : Int) ≤ t19 ∧
        (t19 : Int) < ((t17l : Nat) : Int) ∧
        ∃ (t23a : Option Addr) (t23l : Nat) (t23c : Nat),
        H6.cell ((adr t17a).block) ((adr t17a).off + (t19 : Int).toNat * 1) = some (.slice t23a t23l t23c) ∧
        ∃ (Inv_1 : Nat → Int → AH → Prop),
        (
          ∃ (n_3 : Nat),
          Inv_1 n_3 0 H6) ∧
        ∀ (n_2 : Nat),
        ∀ (c7 : Int) (H7 : AH),
        Inv_1 n_2 c7 H7 →
        ∃ (Inv_2 : Nat → Int → Int → AH → Prop),
        (
          ∃ (n_5 : Nat),
          Inv_2 n_5 c7 0 H7) ∧
        ∀ (n_4 : Nat),
        ∀ (c7_1 : Int) (t26 : Int) (H8 : AH),
        Inv_2 n_4 c7_1 t26 H8 →
        cond (decide (t26 < (((t23l : Nat) : Int)))) (
          grd t23a.isSome (
            (0 : Int) ≤ t26 ∧
            (t26 : Int) < ((t23l : Nat) : Int) ∧
            ∃ (t29 : Int),
            H8.cell ((adr t23a).block) ((adr t23a).off + (t26 : Int).toNat * 1) = some (.int .i64 t29) ∧
            cond (decide (t29 < t19)) (
              (0 : Int) ≤ t29 ∧
              (t29 : Int) < (((((t13l : Nat) : Int) : Int).toNat : Nat) : Int) ∧
              ∃ (t37 : Int),
              H8.cell H4.next (0 + (t29 : Int).toNat * 1) = some (.int .i64 t37) ∧
              cond (t37 == c7_1) (
                ∀ (t42 : Int),
                t42 = IntKind.i64.wrap (c7_1 + 1) →
                ∃ (m_1 : Nat),
                m_1 < n_2 ∧
                Inv_1 m_1 t42 H8) (
                ∀ (t43 : Int),
                t43 = IntKind.i64.wrap (t26 + 1) →
                ∃ (m_2 : Nat),
                m_2 < n_4 ∧
                Inv_2 m_2 c7_1 t43 H8)) (
              ∀ (t43_1 : Int),
              t43_1 = IntKind.i64.wrap (t26 + 1) →
              ∃ (m_2 : Nat),
              m_2 < n_4 ∧
              Inv_2 m_2 c7_1 t43_1 H8))) (
          (0 : Int) ≤ t19 ∧
          (t19 : Int) < (((((t13l : Nat) : Int) : Int).toNat : Nat) : Int) ∧
          ∃ (H9 : AH),
          storeCellsv H8 H4.next (0 + (t19 : Int).toNat * 1) [.int .i64 c7_1] = some H9 ∧
          ∀ (t48 : Int),
          t48 = IntKind.i64.wrap (t19 + 1) →
          ∃ (m : Nat),
          m < n ∧
          Inv m t48 H9))) (
      Q (.slice (some ⟨H4.next, 0, none⟩) ((((t13l : Nat) : Int) : Int).toNat) (2 * (((t13l : Nat) : Int) : Int).toNat)) H6)
set_option maxRecDepth 100000 in
theorem fw_spec_Colors {g0_Verticesa : Option Addr} {g0_Verticesl : Nat} {g0_Verticesc : Nat} {H : AH} {Q : Value → AH → Prop} (h : VC_spec_Colors g0_Verticesa g0_Verticesl g0_Verticesc H Q) : FW Ee F_spec_Colors [.agg ⟨[.slice g0_Verticesa g0_Verticesl g0_Verticesc]⟩] H Q := by
  have e : VC_spec_Colors g0_Verticesa g0_Verticesl g0_Verticesc H Q = wpF Ee ⟨[], []⟩ F_spec_Colors [.agg ⟨[.slice g0_Verticesa g0_Verticesl g0_Verticesc]⟩] H Q := by kernel_rfl
  letI : Sy := sy0
  exact wpF_sound (Eq.mp e h)
/-- cohort/cohortlaw10.greatest -/
def VC_cohortlaw10_greatest (x0a : Option Addr) (x0l : Nat) (x0c : Nat) (core1a : Option Addr) (core1l : Nat) (core1c : Nat) (k2 : Int) (H : AH) (Q : Value → AH → Prop) : Prop :=
  (0 : Int) ≤ ((x0l : Nat) : Int) ∧
  (((x0l : Nat) : Int) : Int) ≤ ((x0l : Nat) : Int) ∧
  (((x0l : Nat) : Int) : Int) < 4294967296 ∧
  (((x0l : Nat) : Int) : Int).toNat * 1 ≤ 140737488355328 ∧
  ∀ (H1 : AH),
  H1 = H.new (.cells ((List.replicate (((x0l : Nat) : Int) : Int).toNat [.bool false]).flatten) 0) →
  ∃ (Inv : Nat → Int → AH → Prop),
  (
    ∃ (n_1 : Nat),
    Inv n_1 0 H1) ∧
  ∀ (n : Nat),
  ∀ (i8 : Int) (H2 : AH),
  Inv n i8 H2 →
  cond (decide (i8 < (((x0l : Nat) : Int)))) (
    (0 : Int) ≤ i8 ∧
    (i8 : Int) < (((((x0l : Nat) : Int) : Int).toNat : Nat) : Int) ∧
    ∃ (H3 : AH),
    storeCellsv H2 H.next (0 + (i8 : Int).toNat * 1) [.bool true] = some H3 ∧
    ∀ (t22 : Int),
    t22 = IntKind.i64.wrap (i8 + 1) →
    ∃ (m : Nat),
    m < n ∧
    Inv m t22 H3) (
    ∃ (Inv_1 : Nat → Int → AH → Prop),
    (
      ∃ (n_3 : Nat),
      Inv_1 n_3 0 H2) ∧
    ∀ (n_2 : Nat),
    ∀ (turn9 : Int) (H4 : AH),
    Inv_1 n_2 turn9 H4 →
    cond (decide (turn9 < (((x0l : Nat) : Int)))) (
      ∃ (Inv_2 : Nat → Int → AH → Prop),
      (
        ∃ (n_5 : Nat),
        Inv_2 n_5 0 H4) ∧
      ∀ (n_4 : Nat),
      ∀ (i10 : Int) (H5 : AH),
      Inv_2 n_4 i10 H5 →
      cond (decide (i10 < (((x0l : Nat) : Int)))) (
        ∃ (Inv_3 : Nat → Int → Int → AH → Prop),
        (
          ∃ (n_7 : Nat),
          Inv_3 n_7 0 0 H5) ∧
        ∀ (n_6 : Nat),
        ∀ (n11 : Int) (a12 : Int) (H6 : AH),
        Inv_3 n_6 n11 a12 H6 →
        cond (decide (a12 < (((x0l : Nat) : Int)))) (
          (0 : Int) ≤ a12 ∧
          (a12 : Int) < (((((x0l : Nat) : Int) : Int).toNat : Nat) : Int) ∧
          ∃ (t47 : Bool),
          H6.cell H.next (0 + (a12 : Int).toNat * 1) = some (.bool t47) ∧
          cond (t47) (
            FW Ee F_cohortlaw10_near [.slice x0a x0l x0c, .int .i64 i10, .int .i64 a12] H6 fun v H7 =>
              ∃ (r52 : Bool),
              v = .bool r52 ∧
              cond (r52) (
                ∀ (t55 : Int),
                t55 = IntKind.i64.wrap (n11 + 1) →
                ∀ (t43 : Int),
                t43 = IntKind.i64.wrap (a12 + 1) →
                ∃ (m_3 : Nat),
                m_3 < n_6 ∧
                Inv_3 m_3 t55 t43 H7) (
                ∀ (t43_1 : Int),
                t43_1 = IntKind.i64.wrap (a12 + 1) →
                ∃ (m_3 : Nat),
                m_3 < n_6 ∧
                Inv_3 m_3 n11 t43_1 H7)) (
            ∀ (t43_2 : Int),
            t43_2 = IntKind.i64.wrap (a12 + 1) →
            ∃ (m_3 : Nat),
            m_3 < n_6 ∧
            Inv_3 m_3 n11 t43_2 H6)) (
          cond (decide (n11 < k2)) (
            (0 : Int) ≤ i10 ∧
            (i10 : Int) < (((((x0l : Nat) : Int) : Int).toNat : Nat) : Int) ∧
            ∃ (H8 : AH),
            storeCellsv H6 H.next (0 + (i10 : Int).toNat * 1) [.bool false] = some H8 ∧
            ∀ (t37 : Int),
            t37 = IntKind.i64.wrap (i10 + 1) →
            ∃ (m_2 : Nat),
            m_2 < n_4 ∧
            Inv_2 m_2 t37 H8) (
            ∀ (t37_1 : Int),
            t37_1 = IntKind.i64.wrap (i10 + 1) →
            ∃ (m_2 : Nat),
            m_2 < n_4 ∧
            Inv_2 m_2 t37_1 H6))) (
        ∀ (t31 : Int),
        t31 = IntKind.i64.wrap (turn9 + 1) →
        ∃ (m_1 : Nat),
        m_1 < n_2 ∧
        Inv_1 m_1 t31 H5)) (
      ∃ (Inv_4 : Nat → Bool → Int → AH → Prop),
      (
        ∃ (n_9 : Nat),
        Inv_4 n_9 false 0 H4) ∧
      ∀ (n_8 : Nat),
      ∀ (t6 : Bool) (i13 : Int) (H9 : AH),
      Inv_4 n_8 t6 i13 H9 →
      cond (decide (i13 < (((x0l : Nat) : Int)))) (
        (0 : Int) ≤ i13 ∧
        (i13 : Int) < (((((x0l : Nat) : Int) : Int).toNat : Nat) : Int) ∧
        ∃ (t71 : Bool),
        H9.cell H.next (0 + (i13 : Int).toNat * 1) = some (.bool t71) ∧
        grd core1a.isSome (
          (0 : Int) ≤ i13 ∧
          (i13 : Int) < ((core1l : Nat) : Int) ∧
          ∃ (t75 : Int),
          H9.cell ((adr core1a).block) ((adr core1a).off + (i13 : Int).toNat * 1) = some (.int .i64 t75) ∧
          cond (!(t71 == (decide (t75 ≥ 0)))) (
            Q (.bool false) H9) (
            ∀ (t67 : Int),
            t67 = IntKind.i64.wrap (i13 + 1) →
            ∃ (m_4 : Nat),
            m_4 < n_8 ∧
            Inv_4 m_4 t6 t67 H9))) (
        Q (.bool true) H9)))
set_option maxRecDepth 100000 in
theorem fw_cohortlaw10_greatest {x0a : Option Addr} {x0l : Nat} {x0c : Nat} {core1a : Option Addr} {core1l : Nat} {core1c : Nat} {k2 : Int} {H : AH} {Q : Value → AH → Prop} (h : VC_cohortlaw10_greatest x0a x0l x0c core1a core1l core1c k2 H Q) : FW Ee F_cohortlaw10_greatest [.slice x0a x0l x0c, .slice core1a core1l core1c, .int .i64 k2] H Q := by
  have e : VC_cohortlaw10_greatest x0a x0l x0c core1a core1l core1c k2 H Q = wpF Ee ⟨[], []⟩ F_cohortlaw10_greatest [.slice x0a x0l x0c, .slice core1a core1l core1c, .int .i64 k2] H Q := by kernel_rfl
  letI : Sy := sy0
  exact wpF_sound (Eq.mp e h)
/-- cohort/cohortlaw10.SpecSets -/
def VC_cohortlaw10_SpecSets (g0_Verticesa : Option Addr) (g0_Verticesl : Nat) (g0_Verticesc : Nat) (k1 : Int) (H : AH) (Q : Value → AH → Prop) : Prop :=
  ∀ (H1 : AH),
  H1 = H.new (.cells [.slice g0_Verticesa g0_Verticesl g0_Verticesc] 0) →
  ∃ (t20_Verticesa : Option Addr) (t20_Verticesl : Nat) (t20_Verticesc : Nat),
  H1.cell H.next (0 + 0) = some (.slice t20_Verticesa t20_Verticesl t20_Verticesc) ∧
  FW Ee F_cohortlaw10_good [.agg ⟨[.slice t20_Verticesa t20_Verticesl t20_Verticesc]⟩] H1 fun v H2 =>
    ∃ (r21 : Bool),
    v = .bool r21 ∧
    cond (!r21) (
      FW Ee F_cohortlaw10_awake [] H2 fun v_1 H3 =>
        ∃ (r23 : Bool),
        v_1 = .bool r23 ∧
        Q (.bool r23) H3) (
      ∃ (t24_Verticesa : Option Addr) (t24_Verticesl : Nat) (t24_Verticesc : Nat),
      H2.cell H.next (0 + 0) = some (.slice t24_Verticesa t24_Verticesl t24_Verticesc) ∧
      FW Ee F_cohortlaw03_Ref [.agg ⟨[.slice t24_Verticesa t24_Verticesl t24_Verticesc]⟩] H2 fun v_2 H4 =>
        ∃ (r25a : Option Addr) (r25l : Nat) (r25c : Nat),
        v_2 = .slice r25a r25l r25c ∧
        ∃ (J_1 : Int → AH → Prop),
        (
          cond (decide (k1 < 0)) (
            J_1 0 H4) (
            J_1 k1 H4)) ∧
        ∀ (k1_1 : Int) (H5 : AH),
        J_1 k1_1 H5 →
        (6 : Int) ≠ 0 ∧
        ∀ (t31 : Int),
        t31 = (k1_1 : Int).tmod 6 →
        ∃ (t32_Verticesa : Option Addr) (t32_Verticesl : Nat) (t32_Verticesc : Nat),
        H5.cell H.next (0 + 0) = some (.slice t32_Verticesa t32_Verticesl t32_Verticesc) ∧
        FW Ee F_spec_Components [.agg ⟨[.slice t32_Verticesa t32_Verticesl t32_Verticesc]⟩] H5 fun v_3 H6 =>
          ∃ (r33a : Option Addr) (r33l : Nat) (r33c : Nat),
          v_3 = .slice r33a r33l r33c ∧
          ∃ (t34_Verticesa : Option Addr) (t34_Verticesl : Nat) (t34_Verticesc : Nat),
          H6.cell H.next (0 + 0) = some (.slice t34_Verticesa t34_Verticesl t34_Verticesc) ∧
          FW Ee F_spec_Triangles [.agg ⟨[.slice t34_Verticesa t34_Verticesl t34_Verticesc]⟩] H6 fun v_4 H7 =>
            ∃ (r35a : Option Addr) (r35l : Nat) (r35c : Nat),
            v_4 = .slice r35a r35l r35c ∧
            ∃ (t36_Verticesa : Option Addr) (t36_Verticesl : Nat) (t36_Verticesc : Nat),
            H7.cell H.next (0 + 0) = some (.slice t36_Verticesa t36_Verticesl t36_Verticesc) ∧
            FW Ee F_spec_Core [.agg ⟨[.slice t36_Verticesa t36_Verticesl t36_Verticesc]⟩, .int .i64 t31] H7 fun v_5 H8 =>
              ∃ (r38a : Option Addr) (r38l : Nat) (r38c : Nat),
              v_5 = .slice r38a r38l r38c ∧
              ∃ (t39_Verticesa : Option Addr) (t39_Verticesl : Nat) (t39_Verticesc : Nat),
              H8.cell H.next (0 + 0) = some (.slice t39_Verticesa t39_Verticesl t39_Verticesc) ∧
              FW Ee F_spec_Colors [.agg ⟨[.slice t39_Verticesa t39_Verticesl t39_Verticesc]⟩] H8 fun v_6 H9 =>
                ∃ (r40a : Option Addr) (r40l : Nat) (r40c : Nat),
                v_6 = .slice r40a r40l r40c ∧
                H7.cell H.next (0 + 0) = some (.slice t39_Verticesa t39_Verticesl t39_Verticesc) ∧
                H6.cell H.next (0 + 0) = some (.slice t39_Verticesa t39_Verticesl t39_Verticesc) ∧
                H5.cell H.next (0 + 0) = some (.slice t39_Verticesa t39_Verticesl t39_Verticesc) ∧
                H6.cell H.next (0 + 0) = some (.slice t36_Verticesa t36_Verticesl t36_Verticesc) ∧
                H5.cell H.next (0 + 0) = some (.slice t36_Verticesa t36_Verticesl t36_Verticesc) ∧
                H5.cell H.next (0 + 0) = some (.slice t34_Verticesa t34_Verticesl t34_Verticesc) ∧
                cond ((((r33l : Nat) : Int)) != (((r25l : Nat) : Int))) (
                  Q (.bool false) H9) (
                  cond ((((r35l : Nat) : Int)) != (((r25l : Nat) : Int))) (
                    Q (.bool false) H9) (
                    cond ((((r38l : Nat) : Int)) != (((r25l : Nat) : Int))) (
                      Q (.bool false) H9) (
                      cond ((((r40l : Nat) : Int)) != (((r25l : Nat) : Int))) (
                        Q (.bool false) H9) (
                        ∃ (Inv : Nat → Bool → Int → AH → Prop),
                        (
                          ∃ (n_1 : Nat),
                          Inv n_1 false 0 H9) ∧
                        ∀ (n : Nat),
                        ∀ (t4 : Bool) (i11 : Int) (H10 : AH),
                        Inv n t4 i11 H10 →
                        cond (decide (i11 < (((r25l : Nat) : Int)))) (
                          grd r33a.isSome (
                            (0 : Int) ≤ i11 ∧
                            (i11 : Int) < ((r33l : Nat) : Int) ∧
                            ∃ (t73 : Int),
                            H10.cell ((adr r33a).block) ((adr r33a).off + (i11 : Int).toNat * 1) = some (.int .i64 t73) ∧
                            FW Ee F_cohortref03_Find [.slice r25a r25l r25c, .int .i64 t73] H10 fun v_7 H11 =>
                              ∃ (r74_0 : Int) (r74_1 : Bool),
                              v_7 = .tuple ⟨[.int .i64 r74_0, .bool r74_1]⟩ ∧
                              cond (!r74_1) (
                                Q (.bool false) H11) (
                                cond (decide (r74_0 > i11)) (
                                  Q (.bool false) H11) (
                                  grd r33a.isSome (
                                    (0 : Int) ≤ r74_0 ∧
                                    (r74_0 : Int) < ((r33l : Nat) : Int) ∧
                                    ∃ (t88 : Int),
                                    H11.cell ((adr r33a).block) ((adr r33a).off + (r74_0 : Int).toNat * 1) = some (.int .i64 t88) ∧
                                    grd r33a.isSome (
                                      (0 : Int) ≤ i11 ∧
                                      (i11 : Int) < ((r33l : Nat) : Int) ∧
                                      ∃ (t92 : Int),
                                      H11.cell ((adr r33a).block) ((adr r33a).off + (i11 : Int).toNat * 1) = some (.int .i64 t92) ∧
                                      cond (t88 != t92) (
                                        Q (.bool false) H11) (
                                        ∀ (H12 : AH),
                                        H12 = H11.new (.map [] 0) →
                                        ∃ (Inv_1 : Nat → Bool → Int → Int → Int → AH → Prop),
                                        (
                                          ∃ (n_3 : Nat),
                                          Inv_1 n_3 t4 0 0 0 H12) ∧
                                        ∀ (n_2 : Nat),
                                        ∀ (t4_1 : Bool) (in16 : Int) (count15 : Int) (a17 : Int) (H13 : AH),
                                        Inv_1 n_2 t4_1 in16 count15 a17 H13 →
                                        cond (decide (a17 < (((r25l : Nat) : Int)))) (
                                          FW Ee F_cohortlaw10_near [.slice r25a r25l r25c, .int .i64 i11, .int .i64 a17] H13 fun v_8 H14 =>
                                            ∃ (r104 : Bool),
                                            v_8 = .bool r104 ∧
                                            cond (!r104) (
                                              ∀ (t100 : Int),
                                              t100 = IntKind.i64.wrap (a17 + 1) →
                                              ∃ (m_1 : Nat),
                                              m_1 < n_2 ∧
                                              Inv_1 m_1 t4_1 in16 count15 t100 H14) (
                                              grd r33a.isSome (
                                                (0 : Int) ≤ a17 ∧
                                                (a17 : Int) < ((r33l : Nat) : Int) ∧
                                                ∃ (t109 : Int),
                                                H14.cell ((adr r33a).block) ((adr r33a).off + (a17 : Int).toNat * 1) = some (.int .i64 t109) ∧
                                                grd r33a.isSome (
                                                  (0 : Int) ≤ i11 ∧
                                                  (i11 : Int) < ((r33l : Nat) : Int) ∧
                                                  ∃ (t113 : Int),
                                                  H14.cell ((adr r33a).block) ((adr r33a).off + (i11 : Int).toNat * 1) = some (.int .i64 t113) ∧
                                                  cond (t109 != t113) (
                                                    Q (.bool false) H14) (
                                                    grd r40a.isSome (
                                                      (0 : Int) ≤ a17 ∧
                                                      (a17 : Int) < ((r40l : Nat) : Int) ∧
                                                      ∃ (t119 : Int),
                                                      H14.cell ((adr r40a).block) ((adr r40a).off + (a17 : Int).toNat * 1) = some (.int .i64 t119) ∧
                                                      grd r40a.isSome (
                                                        (0 : Int) ≤ i11 ∧
                                                        (i11 : Int) < ((r40l : Nat) : Int) ∧
                                                        ∃ (t123 : Int),
                                                        H14.cell ((adr r40a).block) ((adr r40a).off + (i11 : Int).toNat * 1) = some (.int .i64 t123) ∧
                                                        cond (t119 == t123) (
                                                          Q (.bool false) H14) (
                                                          ∃ (J_2 : AH → Prop),
                                                          (
                                                            cond (decide (a17 < i11)) (
                                                              grd r40a.isSome (
                                                                (0 : Int) ≤ a17 ∧
                                                                (a17 : Int) < ((r40l : Nat) : Int) ∧
                                                                ∃ (t133 : Int),
                                                                H14.cell ((adr r40a).block) ((adr r40a).off + (a17 : Int).toNat * 1) = some (.int .i64 t133) ∧
                                                                ∃ (H15 : AH),
                                                                updatev Ee H14 T_M_int64_bool (.map (some H11.next)) (.int .i64 t133) (.bool true) = some H15 ∧
                                                                J_2 H15)) (
                                                              J_2 H14)) ∧
                                                          ∀ (H16 : AH),
                                                          J_2 H16 →
                                                          grd r38a.isSome (
                                                            (0 : Int) ≤ a17 ∧
                                                            (a17 : Int) < ((r38l : Nat) : Int) ∧
                                                            ∃ (t137 : Int),
                                                            H16.cell ((adr r38a).block) ((adr r38a).off + (a17 : Int).toNat * 1) = some (.int .i64 t137) ∧
                                                            ∃ (J_3 : Int → AH → Prop),
                                                            (
                                                              cond (decide (t137 ≥ 0)) (
                                                                ∀ (t140 : Int),
                                                                t140 = IntKind.i64.wrap (in16 + 1) →
                                                                J_3 t140 H16) (
                                                                J_3 in16 H16)) ∧
                                                            ∀ (in16_1 : Int) (H17 : AH),
                                                            J_3 in16_1 H17 →
                                                            ∀ (t142 : Int),
                                                            t142 = IntKind.i64.wrap (a17 + 1) →
                                                            ∃ (Inv_2 : Nat → Int → Int → AH → Prop),
                                                            (
                                                              ∃ (n_5 : Nat),
                                                              Inv_2 n_5 count15 t142 H17) ∧
                                                            ∀ (n_4 : Nat),
                                                            ∀ (count15_1 : Int) (c18 : Int) (H18 : AH),
                                                            Inv_2 n_4 count15_1 c18 H18 →
                                                            cond (decide (c18 < (((r25l : Nat) : Int)))) (
                                                              cond (decide (a17 < i11)) (
                                                                cond (decide (i11 < c18)) (
                                                                  FW Ee F_cohortlaw10_near [.slice r25a r25l r25c, .int .i64 i11, .int .i64 c18] H18 fun v_9 H19 =>
                                                                    ∃ (r160 : Bool),
                                                                    v_9 = .bool r160 ∧
                                                                    cond (r160) (
                                                                      FW Ee F_cohortlaw10_near [.slice r25a r25l r25c, .int .i64 a17, .int .i64 c18] H19 fun v_10 H20 =>
                                                                        ∃ (r166 : Bool),
                                                                        v_10 = .bool r166 ∧
                                                                        cond (r166) (
                                                                          ∀ (t169 : Int),
                                                                          t169 = IntKind.i64.wrap (count15_1 + 1) →
                                                                          ∀ (t147 : Int),
                                                                          t147 = IntKind.i64.wrap (c18 + 1) →
                                                                          ∃ (m_2 : Nat),
                                                                          m_2 < n_4 ∧
                                                                          Inv_2 m_2 t169 t147 H20) (
                                                                          ∀ (t147_1 : Int),
                                                                          t147_1 = IntKind.i64.wrap (c18 + 1) →
                                                                          ∃ (m_2 : Nat),
                                                                          m_2 < n_4 ∧
                                                                          Inv_2 m_2 count15_1 t147_1 H20)) (
                                                                      ∀ (t147_2 : Int),
                                                                      t147_2 = IntKind.i64.wrap (c18 + 1) →
                                                                      ∃ (m_2 : Nat),
                                                                      m_2 < n_4 ∧
                                                                      Inv_2 m_2 count15_1 t147_2 H19)) (
                                                                  ∀ (t147_3 : Int),
                                                                  t147_3 = IntKind.i64.wrap (c18 + 1) →
                                                                  ∃ (m_2 : Nat),
                                                                  m_2 < n_4 ∧
                                                                  Inv_2 m_2 count15_1 t147_3 H18)) (
                                                                ∀ (t147_4 : Int),
                                                                t147_4 = IntKind.i64.wrap (c18 + 1) →
                                                                ∃ (m_2 : Nat),
                                                                m_2 < n_4 ∧
                                                                Inv_2 m_2 count15_1 t147_4 H18)) (
                                                              ∀ (t100_1 : Int),
                                                              t100_1 = IntKind.i64.wrap (a17 + 1) →
                                                              ∃ (m_1 : Nat),
                                                              m_1 < n_2 ∧
                                                              Inv_1 m_1 t4_1 in16_1 count15_1 t100_1 H18)))))))))) (
                                          ∃ (Inv_3 : Nat → Bool → Int → AH → Prop),
                                          (
                                            ∃ (n_7 : Nat),
                                            Inv_3 n_7 t4_1 0 H13) ∧
                                          ∀ (n_6 : Nat),
                                          ∀ (t4_2 : Bool) (c19 : Int) (H21 : AH),
                                          Inv_3 n_6 t4_2 c19 H21 →
                                          grd r40a.isSome (
                                            (0 : Int) ≤ i11 ∧
                                            (i11 : Int) < ((r40l : Nat) : Int) ∧
                                            ∃ (t174 : Int),
                                            H21.cell ((adr r40a).block) ((adr r40a).off + (i11 : Int).toNat * 1) = some (.int .i64 t174) ∧
                                            cond (decide (c19 < t174)) (
                                              ∃ (t180 : Bool),
                                              lookupv Ee H21 T_M_int64_bool (.map (some H11.next)) (.int .i64 c19) false = some (.bool t180) ∧
                                              cond (!t180) (
                                                Q (.bool false) H21) (
                                                ∀ (t177 : Int),
                                                t177 = IntKind.i64.wrap (c19 + 1) →
                                                ∃ (m_3 : Nat),
                                                m_3 < n_6 ∧
                                                Inv_3 m_3 t4_2 t177 H21)) (
                                              grd r35a.isSome (
                                                (0 : Int) ≤ i11 ∧
                                                (i11 : Int) < ((r35l : Nat) : Int) ∧
                                                ∃ (t185 : Int),
                                                H21.cell ((adr r35a).block) ((adr r35a).off + (i11 : Int).toNat * 1) = some (.int .i64 t185) ∧
                                                cond (t185 != count15) (
                                                  Q (.bool false) H21) (
                                                  grd r40a.isSome (
                                                    (0 : Int) ≤ i11 ∧
                                                    (i11 : Int) < ((r40l : Nat) : Int) ∧
                                                    ∃ (t193 : Int),
                                                    H21.cell ((adr r40a).block) ((adr r40a).off + (i11 : Int).toNat * 1) = some (.int .i64 t193) ∧
                                                    ∃ (t194 : Bool),
                                                    lookupv Ee H21 T_M_int64_bool (.map (some H11.next)) (.int .i64 t193) false = some (.bool t194) ∧
                                                    cond (t194) (
                                                      Q (.bool false) H21) (
                                                      grd r38a.isSome (
                                                        (0 : Int) ≤ i11 ∧
                                                        (i11 : Int) < ((r38l : Nat) : Int) ∧
                                                        ∃ (t200 : Int),
                                                        H21.cell ((adr r38a).block) ((adr r38a).off + (i11 : Int).toNat * 1) = some (.int .i64 t200) ∧
                                                        cond (decide (t200 ≥ 0)) (
                                                          grd r38a.isSome (
                                                            (0 : Int) ≤ i11 ∧
                                                            (i11 : Int) < ((r38l : Nat) : Int) ∧
                                                            ∃ (t206 : Int),
                                                            H21.cell ((adr r38a).block) ((adr r38a).off + (i11 : Int).toNat * 1) = some (.int .i64 t206) ∧
                                                            cond (t206 != in16) (
                                                              Q (.bool false) H21) (
                                                              cond (decide (in16 < t31)) (
                                                                Q (.bool false) H21) (
                                                                ∀ (t67 : Int),
                                                                t67 = IntKind.i64.wrap (i11 + 1) →
                                                                ∃ (m : Nat),
                                                                m < n ∧
                                                                Inv m t4_2 t67 H21)))) (
                                                          ∀ (t67_1 : Int),
                                                          t67_1 = IntKind.i64.wrap (i11 + 1) →
                                                          ∃ (m : Nat),
                                                          m < n ∧
                                                          Inv m t4_2 t67_1 H21)))))))))))))))) (
                          FW Ee F_cohortlaw10_awake [] H10 fun v_11 H22 =>
                            ∃ (r216 : Bool),
                            v_11 = .bool r216 ∧
                            cond (r216) (
                              FW Ee F_cohortlaw10_greatest [.slice r25a r25l r25c, .slice r38a r38l r38c, .int .i64 t31] H22 fun v_12 H23 =>
                                ∃ (r221 : Bool),
                                v_12 = .bool r221 ∧
                                Q (.bool r221) H23) (
                              Q (.bool false) H22)))))))
set_option maxRecDepth 100000 in
theorem fw_cohortlaw10_SpecSets {g0_Verticesa : Option Addr} {g0_Verticesl : Nat} {g0_Verticesc : Nat} {k1 : Int} {H : AH} {Q : Value → AH → Prop} (h : VC_cohortlaw10_SpecSets g0_Verticesa g0_Verticesl g0_Verticesc k1 H Q) : FW Ee F_cohortlaw10_SpecSets [.agg ⟨[.slice g0_Verticesa g0_Verticesl g0_Verticesc]⟩, .int .i64 k1] H Q := by
  have e : VC_cohortlaw10_SpecSets g0_Verticesa g0_Verticesl g0_Verticesc k1 H Q = wpF Ee ⟨[], [29, 128, 138]⟩ F_cohortlaw10_SpecSets [.agg ⟨[.slice g0_Verticesa g0_Verticesl g0_Verticesc]⟩, .int .i64 k1] H Q := by kernel_rfl
  letI : Sy := sy0
  exact wpF_sound (Eq.mp e h)
end Go.Proofs.Cx
