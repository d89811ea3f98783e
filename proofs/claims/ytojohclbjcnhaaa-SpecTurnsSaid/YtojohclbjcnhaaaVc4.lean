/- What calls come to, as formulas: printed by a program. -/
import Derived.Test.YtojohclbjcnhaaaVc0
namespace Go.Proofs.Cx
open Go Go.Ev
set_option linter.unusedVariables false
/-- cohort/spec.Ranks -/
def VC_spec_Ranks (g0_Verticesa : Option Addr) (g0_Verticesl : Nat) (g0_Verticesc : Nat) (turns1 : Int) (H : AH) (Q : Value → AH → Prop) : Prop :=
  ∀ (H1 : AH),
  H1 = H.new (.cells [.slice g0_Verticesa g0_Verticesl g0_Verticesc] 0) →
  ∃ (t16_Verticesa : Option Addr) (t16_Verticesl : Nat) (t16_Verticesc : Nat),
  H1.cell H.next (0 + 0) = some (.slice t16_Verticesa t16_Verticesl t16_Verticesc) ∧
  FW Ee F_spec_of [.agg ⟨[.slice t16_Verticesa t16_Verticesl t16_Verticesc]⟩] H1 fun v H2 =>
    ∃ (r17_g_Verticesa : Option Addr) (r17_g_Verticesl : Nat) (r17_g_Verticesc : Nat) (r17_outa : Option Addr) (r17_outl : Nat) (r17_outc : Nat) (r17_botha : Option Addr) (r17_bothl : Nat) (r17_bothc : Nat),
    v = .agg ⟨[.slice r17_g_Verticesa r17_g_Verticesl r17_g_Verticesc, .slice r17_outa r17_outl r17_outc, .slice r17_botha r17_bothl r17_bothc]⟩ ∧
    ∀ (H3 : AH),
    H3 = H2.new (.cells [.slice none 0 0, .slice none 0 0, .slice none 0 0] 0) →
    ∃ (H4 : AH),
    storeCellsv H3 H2.next 0 [.slice r17_g_Verticesa r17_g_Verticesl r17_g_Verticesc, .slice r17_outa r17_outl r17_outc, .slice r17_botha r17_bothl r17_bothc] = some H4 ∧
    ∃ (t19a : Option Addr) (t19l : Nat) (t19c : Nat),
    H4.cell H.next 0 = some (.slice t19a t19l t19c) ∧
    ∃ (t23a : Option Addr) (t23l : Nat) (t23c : Nat),
    H4.cell H.next 0 = some (.slice t23a t23l t23c) ∧
    (0 : Int) ≤ ((t23l : Nat) : Int) ∧
    (((t23l : Nat) : Int) : Int) ≤ ((t23l : Nat) : Int) ∧
    (((t23l : Nat) : Int) : Int) < 4294967296 ∧
    (((t23l : Nat) : Int) : Int).toNat * 8 ≤ 140737488355328 ∧
    ∀ (H5 : AH),
    H5 = H4.new (.cells ((List.replicate (((t23l : Nat) : Int) : Int).toNat [.int .i64 0]).flatten) 0) →
    ∃ (Inv : Nat → Int → AH → Prop),
    (
      ∃ (n_1 : Nat),
      Inv n_1 0 H5) ∧
    ∀ (n : Nat),
    ∀ (t28 : Int) (H6 : AH),
    Inv n t28 H6 →
    cond (decide (t28 < ((((((t23l : Nat) : Int) : Int).toNat : Nat) : Int)))) (
      (if (1 : Int) > (((t19l : Nat) : Int)) then 1 else ((t19l : Nat) : Int) : Int) ≠ 0 ∧
      ∀ (t34 : Int),
      t34 = IntKind.i64.wrap ((1000000 : Int).tdiv (if (1 : Int) > (((t19l : Nat) : Int)) then 1 else ((t19l : Nat) : Int))) →
      (0 : Int) ≤ t28 ∧
      (t28 : Int) < (((((t23l : Nat) : Int) : Int).toNat : Nat) : Int) ∧
      ∃ (H7 : AH),
      storeCellsv H6 H4.next (0 + (t28 : Int).toNat * 1) [.int .i64 t34] = some H7 ∧
      ∀ (t36 : Int),
      t36 = IntKind.i64.wrap (t28 + 1) →
      ∃ (m : Nat),
      m < n ∧
      Inv m t36 H7) (
      ∃ (Inv_1 : Nat → Int → AH → Prop),
      (
        ∃ (n_3 : Nat),
        Inv_1 n_3 0 H6) ∧
      ∀ (n_2 : Nat),
      ∀ (t38 : Int) (H8 : AH),
      Inv_1 n_2 t38 H8 →
      cond (decide (t38 < turns1)) (
        (0 : Int) ≤ (((((t23l : Nat) : Int) : Int).toNat : Nat) : Int) ∧
        ((((((t23l : Nat) : Int) : Int).toNat : Nat) : Int) : Int) ≤ (((((t23l : Nat) : Int) : Int).toNat : Nat) : Int) ∧
        ((((((t23l : Nat) : Int) : Int).toNat : Nat) : Int) : Int) < 4294967296 ∧
        ((((((t23l : Nat) : Int) : Int).toNat : Nat) : Int) : Int).toNat * 8 ≤ 140737488355328 ∧
        ∀ (H9 : AH),
        H9 = H8.new (.cells ((List.replicate ((((((t23l : Nat) : Int) : Int).toNat : Nat) : Int) : Int).toNat [.int .i64 0]).flatten) 0) →
        ∃ (t44a : Option Addr) (t44l : Nat) (t44c : Nat),
        H9.cell H2.next 1 = some (.slice t44a t44l t44c) ∧
        ∃ (Inv_2 : Nat → Int → AH → Prop),
        (
          ∃ (n_5 : Nat),
          Inv_2 n_5 0 H9) ∧
        ∀ (n_4 : Nat),
        ∀ (t46 : Int) (H10 : AH),
        Inv_2 n_4 t46 H10 →
        cond (decide (t46 < (((t44l : Nat) : Int)))) (
          grd t44a.isSome (
            (0 : Int) ≤ t46 ∧
            (t46 : Int) < ((t44l : Nat) : Int) ∧
            ∃ (t50a : Option Addr) (t50l : Nat) (t50c : Nat),
            H10.cell ((adr t44a).block) ((adr t44a).off + (t46 : Int).toNat * 1) = some (.slice t50a t50l t50c) ∧
            ∃ (Inv_3 : Nat → Int → AH → Prop),
            (
              ∃ (n_7 : Nat),
              Inv_3 n_7 0 H10) ∧
            ∀ (n_6 : Nat),
            ∀ (t53 : Int) (H11 : AH),
            Inv_3 n_6 t53 H11 →
            cond (decide (t53 < (((t50l : Nat) : Int)))) (
              grd t50a.isSome (
                (0 : Int) ≤ t53 ∧
                (t53 : Int) < ((t50l : Nat) : Int) ∧
                ∃ (t56 : Int),
                H11.cell ((adr t50a).block) ((adr t50a).off + (t53 : Int).toNat * 1) = some (.int .i64 t56) ∧
                (0 : Int) ≤ t56 ∧
                (t56 : Int) < ((((((((t23l : Nat) : Int) : Int).toNat : Nat) : Int) : Int).toNat : Nat) : Int) ∧
                ∃ (t60 : Int),
                H11.cell H8.next (0 + (t56 : Int).toNat * 1) = some (.int .i64 t60) ∧
                (0 : Int) ≤ t46 ∧
                (t46 : Int) < (((((t23l : Nat) : Int) : Int).toNat : Nat) : Int) ∧
                ∃ (t64 : Int),
                H11.cell H4.next (0 + (t46 : Int).toNat * 1) = some (.int .i64 t64) ∧
                (((t50l : Nat) : Int) : Int) ≠ 0 ∧
                ∀ (t67 : Int),
                t67 = IntKind.i64.wrap ((t64 : Int).tdiv (((t50l : Nat) : Int))) →
                ∀ (t68 : Int),
                t68 = IntKind.i64.wrap (t60 + t67) →
                (0 : Int) ≤ t56 ∧
                (t56 : Int) < ((((((((t23l : Nat) : Int) : Int).toNat : Nat) : Int) : Int).toNat : Nat) : Int) ∧
                ∃ (H12 : AH),
                storeCellsv H11 H8.next (0 + (t56 : Int).toNat * 1) [.int .i64 t68] = some H12 ∧
                ∀ (t70 : Int),
                t70 = IntKind.i64.wrap (t53 + 1) →
                ∃ (m_3 : Nat),
                m_3 < n_6 ∧
                Inv_3 m_3 t70 H12)) (
              ∀ (t71 : Int),
              t71 = IntKind.i64.wrap (t46 + 1) →
              ∃ (m_2 : Nat),
              m_2 < n_4 ∧
              Inv_2 m_2 t71 H11))) (
          ∃ (Inv_4 : Nat → Int → AH → Prop),
          (
            ∃ (n_9 : Nat),
            Inv_4 n_9 0 H10) ∧
          ∀ (n_8 : Nat),
          ∀ (t74 : Int) (H13 : AH),
          Inv_4 n_8 t74 H13 →
          cond (decide (t74 < (((((((((t23l : Nat) : Int) : Int).toNat : Nat) : Int) : Int).toNat : Nat) : Int)))) (
            (0 : Int) ≤ t74 ∧
            (t74 : Int) < ((((((((t23l : Nat) : Int) : Int).toNat : Nat) : Int) : Int).toNat : Nat) : Int) ∧
            ∃ (t78 : Int),
            H13.cell H8.next (0 + (t74 : Int).toNat * 1) = some (.int .i64 t78) ∧
            (if (1 : Int) > (((t19l : Nat) : Int)) then 1 else ((t19l : Nat) : Int) : Int) ≠ 0 ∧
            ∀ (t82 : Int),
            t82 = IntKind.i64.wrap ((150000 : Int).tdiv (if (1 : Int) > (((t19l : Nat) : Int)) then 1 else ((t19l : Nat) : Int))) →
            ∀ (t84 : Int),
            t84 = IntKind.i64.wrap (t78 * 85) →
            (100 : Int) ≠ 0 ∧
            ∀ (t85 : Int),
            t85 = IntKind.i64.wrap ((t84 : Int).tdiv 100) →
            ∀ (t86 : Int),
            t86 = IntKind.i64.wrap (t82 + t85) →
            (0 : Int) ≤ t74 ∧
            (t74 : Int) < (((((t23l : Nat) : Int) : Int).toNat : Nat) : Int) ∧
            ∃ (H14 : AH),
            storeCellsv H13 H4.next (0 + (t74 : Int).toNat * 1) [.int .i64 t86] = some H14 ∧
            ∀ (t88 : Int),
            t88 = IntKind.i64.wrap (t74 + 1) →
            ∃ (m_4 : Nat),
            m_4 < n_8 ∧
            Inv_4 m_4 t88 H14) (
            ∀ (t89 : Int),
            t89 = IntKind.i64.wrap (t38 + 1) →
            ∃ (m_1 : Nat),
            m_1 < n_2 ∧
            Inv_1 m_1 t89 H13))) (
        Q (.slice (some ⟨H4.next, 0, none⟩) ((((t23l : Nat) : Int) : Int).toNat) (2 * (((t23l : Nat) : Int) : Int).toNat)) H8))
set_option maxRecDepth 100000 in
theorem fw_spec_Ranks {g0_Verticesa : Option Addr} {g0_Verticesl : Nat} {g0_Verticesc : Nat} {turns1 : Int} {H : AH} {Q : Value → AH → Prop} (h : VC_spec_Ranks g0_Verticesa g0_Verticesl g0_Verticesc turns1 H Q) : FW Ee F_spec_Ranks [.agg ⟨[.slice g0_Verticesa g0_Verticesl g0_Verticesc]⟩, .int .i64 turns1] H Q := by
  have e : VC_spec_Ranks g0_Verticesa g0_Verticesl g0_Verticesc turns1 H Q = wpF Ee ⟨[], []⟩ F_spec_Ranks [.agg ⟨[.slice g0_Verticesa g0_Verticesl g0_Verticesc]⟩, .int .i64 turns1] H Q := by kernel_rfl
  letI : Sy := sy0
  exact wpF_sound (Eq.mp e h)
/-- cohort/spec.common -/
def VC_spec_common (l0a : Option Addr) (l0l : Nat) (l0c : Nat) (H : AH) (Q : Value → AH → Prop) : Prop :=
  FW Ee F_slices_Sort_L_int64_int64 [.slice l0a l0l l0c] H fun v H1 =>
    v = .tuple ⟨[]⟩ ∧
    grd l0a.isSome (
      (0 : Int) ≤ 0 ∧
      (0 : Int) < ((l0l : Nat) : Int) ∧
      ∃ (t12 : Int),
      H1.cell ((adr l0a).block) ((adr l0a).off + (0 : Int).toNat * 1) = some (.int .i64 t12) ∧
      ∃ (Inv : Nat → Int → Int → Int → Int → AH → Prop),
      (
        ∃ (n_1 : Nat),
        Inv n_1 0 t12 0 0 H1) ∧
      ∀ (n : Nat),
      ∀ (run5 : Int) (best3 : Int) (most4 : Int) (t15 : Int) (H2 : AH),
      Inv n run5 best3 most4 t15 H2 →
      cond (decide (t15 < (((l0l : Nat) : Int)))) (
        grd l0a.isSome (
          (0 : Int) ≤ t15 ∧
          (t15 : Int) < ((l0l : Nat) : Int) ∧
          ∃ (t19 : Int),
          H2.cell ((adr l0a).block) ((adr l0a).off + (t15 : Int).toNat * 1) = some (.int .i64 t19) ∧
          cond (decide (t15 > 0)) (
            ∀ (t25 : Int),
            t25 = IntKind.i64.wrap (t15 - 1) →
            grd l0a.isSome (
              (0 : Int) ≤ t25 ∧
              (t25 : Int) < ((l0l : Nat) : Int) ∧
              ∃ (t27 : Int),
              H2.cell ((adr l0a).block) ((adr l0a).off + (t25 : Int).toNat * 1) = some (.int .i64 t27) ∧
              cond (t27 != t19) (
                ∀ (t32 : Int),
                t32 = IntKind.i64.wrap ((0 : Int) + 1) →
                cond (decide (t32 > most4)) (
                  ∀ (t38 : Int),
                  t38 = IntKind.i64.wrap (t15 + 1) →
                  ∃ (m : Nat),
                  m < n ∧
                  Inv m t32 t19 t32 t38 H2) (
                  ∀ (t38_1 : Int),
                  t38_1 = IntKind.i64.wrap (t15 + 1) →
                  ∃ (m : Nat),
                  m < n ∧
                  Inv m t32 best3 most4 t38_1 H2)) (
                ∀ (t32_1 : Int),
                t32_1 = IntKind.i64.wrap (run5 + 1) →
                cond (decide (t32_1 > most4)) (
                  ∀ (t38_2 : Int),
                  t38_2 = IntKind.i64.wrap (t15 + 1) →
                  ∃ (m : Nat),
                  m < n ∧
                  Inv m t32_1 t19 t32_1 t38_2 H2) (
                  ∀ (t38_3 : Int),
                  t38_3 = IntKind.i64.wrap (t15 + 1) →
                  ∃ (m : Nat),
                  m < n ∧
                  Inv m t32_1 best3 most4 t38_3 H2)))) (
            ∀ (t32_2 : Int),
            t32_2 = IntKind.i64.wrap (run5 + 1) →
            cond (decide (t32_2 > most4)) (
              ∀ (t38_4 : Int),
              t38_4 = IntKind.i64.wrap (t15 + 1) →
              ∃ (m : Nat),
              m < n ∧
              Inv m t32_2 t19 t32_2 t38_4 H2) (
              ∀ (t38_5 : Int),
              t38_5 = IntKind.i64.wrap (t15 + 1) →
              ∃ (m : Nat),
              m < n ∧
              Inv m t32_2 best3 most4 t38_5 H2)))) (
        Q (.int .i64 best3) H2))
set_option maxRecDepth 100000 in
theorem fw_spec_common {l0a : Option Addr} {l0l : Nat} {l0c : Nat} {H : AH} {Q : Value → AH → Prop} (h : VC_spec_common l0a l0l l0c H Q) : FW Ee F_spec_common [.slice l0a l0l l0c] H Q := by
  have e : VC_spec_common l0a l0l l0c H Q = wpF Ee ⟨[], []⟩ F_spec_common [.slice l0a l0l l0c] H Q := by kernel_rfl
  letI : Sy := sy0
  exact wpF_sound (Eq.mp e h)
/-- cohort/spec.Labels -/
def VC_spec_Labels (g0_Verticesa : Option Addr) (g0_Verticesl : Nat) (g0_Verticesc : Nat) (turns1 : Int) (H : AH) (Q : Value → AH → Prop) : Prop :=
  ∀ (H1 : AH),
  H1 = H.new (.cells [.slice g0_Verticesa g0_Verticesl g0_Verticesc] 0) →
  ∃ (t17_Verticesa : Option Addr) (t17_Verticesl : Nat) (t17_Verticesc : Nat),
  H1.cell H.next (0 + 0) = some (.slice t17_Verticesa t17_Verticesl t17_Verticesc) ∧
  FW Ee F_spec_of [.agg ⟨[.slice t17_Verticesa t17_Verticesl t17_Verticesc]⟩] H1 fun v H2 =>
    ∃ (r18_g_Verticesa : Option Addr) (r18_g_Verticesl : Nat) (r18_g_Verticesc : Nat) (r18_outa : Option Addr) (r18_outl : Nat) (r18_outc : Nat) (r18_botha : Option Addr) (r18_bothl : Nat) (r18_bothc : Nat),
    v = .agg ⟨[.slice r18_g_Verticesa r18_g_Verticesl r18_g_Verticesc, .slice r18_outa r18_outl r18_outc, .slice r18_botha r18_bothl r18_bothc]⟩ ∧
    ∀ (H3 : AH),
    H3 = H2.new (.cells [.slice none 0 0, .slice none 0 0, .slice none 0 0] 0) →
    ∃ (H4 : AH),
    storeCellsv H3 H2.next 0 [.slice r18_g_Verticesa r18_g_Verticesl r18_g_Verticesc, .slice r18_outa r18_outl r18_outc, .slice r18_botha r18_bothl r18_bothc] = some H4 ∧
    ∃ (t20a : Option Addr) (t20l : Nat) (t20c : Nat),
    H4.cell H.next 0 = some (.slice t20a t20l t20c) ∧
    ∃ (Inv : Nat → Option Addr → Nat → Nat → Int → AH → Prop),
    (
      ∃ (n_1 : Nat),
      Inv n_1 none 0 0 0 H4) ∧
    ∀ (n : Nat),
    ∀ (now6a : Option Addr) (now6l : Nat) (now6c : Nat) (t22 : Int) (H5 : AH),
    Inv n now6a now6l now6c t22 H5 →
    cond (decide (t22 < (((t20l : Nat) : Int)))) (
      grd t20a.isSome (
        (0 : Int) ≤ t22 ∧
        (t22 : Int) < ((t20l : Nat) : Int) ∧
        ∃ (t25_ID : Int) (t25_Value : Int) (t25_Edgesa : Option Addr) (t25_Edgesl : Nat) (t25_Edgesc : Nat),
        H5.cell ((adr t20a).block) ((adr t20a).off + (t22 : Int).toNat * 3 + 0) = some (.int .i64 t25_ID) ∧
        H5.cell ((adr t20a).block) ((adr t20a).off + (t22 : Int).toNat * 3 + 1) = some (.int .i64 t25_Value) ∧
        H5.cell ((adr t20a).block) ((adr t20a).off + (t22 : Int).toNat * 3 + 2) = some (.slice t25_Edgesa t25_Edgesl t25_Edgesc) ∧
        ∀ (H6 : AH),
        H6 = H5.new (.cells [.int .i64 0, .int .i64 0, .slice none 0 0] 0) →
        ∃ (H7 : AH),
        storeCellsv H6 H5.next 0 [.int .i64 t25_ID, .int .i64 t25_Value, .slice t25_Edgesa t25_Edgesl t25_Edgesc] = some H7 ∧
        ∃ (t28 : Int),
        H7.cell H5.next 0 = some (.int .i64 t28) ∧
        ∀ (H8 : AH),
        H8 = H7.new (.cells [.int .i64 t28] 0) →
        ∃ (t30a : Option Addr) (t30l : Nat) (t30c : Nat) (H9 : AH),
        apnd H8 1 8 now6a now6l now6c (.slice (some ⟨H7.next, 0, none⟩) 1 2) = some (.slice t30a t30l t30c, H9) ∧
        ∀ (t31 : Int),
        t31 = IntKind.i64.wrap (t22 + 1) →
        ∃ (m : Nat),
        m < n ∧
        Inv m t30a t30l t30c t31 H9)) (
      ∃ (Inv_1 : Nat → Option Addr → Nat → Nat → Int → AH → Prop),
      (
        ∃ (n_3 : Nat),
        Inv_1 n_3 now6a now6l now6c 0 H5) ∧
      ∀ (n_2 : Nat),
      ∀ (now6a_1 : Option Addr) (now6l_1 : Nat) (now6c_1 : Nat) (t33 : Int) (H10 : AH),
      Inv_1 n_2 now6a_1 now6l_1 now6c_1 t33 H10 →
      cond (decide (t33 < turns1)) (
        (0 : Int) ≤ ((now6l_1 : Nat) : Int) ∧
        (((now6l_1 : Nat) : Int) : Int) ≤ ((now6l_1 : Nat) : Int) ∧
        (((now6l_1 : Nat) : Int) : Int) < 4294967296 ∧
        (((now6l_1 : Nat) : Int) : Int).toNat * 24 ≤ 140737488355328 ∧
        ∀ (H11 : AH),
        H11 = H10.new (.cells ((List.replicate (((now6l_1 : Nat) : Int) : Int).toNat [.slice none 0 0]).flatten) 0) →
        ∃ (t39a : Option Addr) (t39l : Nat) (t39c : Nat),
        H11.cell H2.next 1 = some (.slice t39a t39l t39c) ∧
        ∃ (Inv_2 : Nat → Int → AH → Prop),
        (
          ∃ (n_5 : Nat),
          Inv_2 n_5 0 H11) ∧
        ∀ (n_4 : Nat),
        ∀ (t41 : Int) (H12 : AH),
        Inv_2 n_4 t41 H12 →
        cond (decide (t41 < (((t39l : Nat) : Int)))) (
          grd t39a.isSome (
            (0 : Int) ≤ t41 ∧
            (t41 : Int) < ((t39l : Nat) : Int) ∧
            ∃ (t45a : Option Addr) (t45l : Nat) (t45c : Nat),
            H12.cell ((adr t39a).block) ((adr t39a).off + (t41 : Int).toNat * 1) = some (.slice t45a t45l t45c) ∧
            ∃ (Inv_3 : Nat → Int → AH → Prop),
            (
              ∃ (n_7 : Nat),
              Inv_3 n_7 0 H12) ∧
            ∀ (n_6 : Nat),
            ∀ (t48 : Int) (H13 : AH),
            Inv_3 n_6 t48 H13 →
            cond (decide (t48 < (((t45l : Nat) : Int)))) (
              grd t45a.isSome (
                (0 : Int) ≤ t48 ∧
                (t48 : Int) < ((t45l : Nat) : Int) ∧
                ∃ (t51 : Int),
                H13.cell ((adr t45a).block) ((adr t45a).off + (t48 : Int).toNat * 1) = some (.int .i64 t51) ∧
                (0 : Int) ≤ t51 ∧
                (t51 : Int) < (((((now6l_1 : Nat) : Int) : Int).toNat : Nat) : Int) ∧
                ∃ (t57a : Option Addr) (t57l : Nat) (t57c : Nat),
                H13.cell H10.next (0 + (t51 : Int).toNat * 1) = some (.slice t57a t57l t57c) ∧
                grd now6a_1.isSome (
                  (0 : Int) ≤ t41 ∧
                  (t41 : Int) < ((now6l_1 : Nat) : Int) ∧
                  ∃ (t61 : Int),
                  H13.cell ((adr now6a_1).block) ((adr now6a_1).off + (t41 : Int).toNat * 1) = some (.int .i64 t61) ∧
                  ∀ (H14 : AH),
                  H14 = H13.new (.cells [.int .i64 t61] 0) →
                  ∃ (t63a : Option Addr) (t63l : Nat) (t63c : Nat) (H15 : AH),
                  apnd H14 1 8 t57a t57l t57c (.slice (some ⟨H13.next, 0, none⟩) 1 2) = some (.slice t63a t63l t63c, H15) ∧
                  (0 : Int) ≤ t51 ∧
                  (t51 : Int) < (((((now6l_1 : Nat) : Int) : Int).toNat : Nat) : Int) ∧
                  ∃ (H16 : AH),
                  storeCellsv H15 H10.next (0 + (t51 : Int).toNat * 1) [.slice t63a t63l t63c] = some H16 ∧
                  H14.cell ((adr now6a_1).block) ((adr now6a_1).off + (t41 : Int).toNat * 1) = some (.int .i64 t61) ∧
                  H14.cell H10.next (0 + (t51 : Int).toNat * 1) = some (.slice t57a t57l t57c) ∧
                  ∀ (t65 : Int),
                  t65 = IntKind.i64.wrap (t48 + 1) →
                  ∃ (m_3 : Nat),
                  m_3 < n_6 ∧
                  Inv_3 m_3 t65 H16))) (
              ∀ (t66 : Int),
              t66 = IntKind.i64.wrap (t41 + 1) →
              ∃ (m_2 : Nat),
              m_2 < n_4 ∧
              Inv_2 m_2 t66 H13))) (
          (0 : Int) ≤ ((now6l_1 : Nat) : Int) ∧
          (((now6l_1 : Nat) : Int) : Int) ≤ ((now6l_1 : Nat) : Int) ∧
          (((now6l_1 : Nat) : Int) : Int) < 4294967296 ∧
          (((now6l_1 : Nat) : Int) : Int).toNat * 8 ≤ 140737488355328 ∧
          ∀ (H17 : AH),
          H17 = H12.new (.cells ((List.replicate (((now6l_1 : Nat) : Int) : Int).toNat [.int .i64 0]).flatten) 0) →
          ∃ (t72 : Int) (H18 : AH),
          cpy H17 1 (some ⟨H12.next, 0, none⟩) ((((now6l_1 : Nat) : Int) : Int).toNat) (.slice now6a_1 now6l_1 now6c_1) = some (.int .i64 t72, H18) ∧
          ∃ (Inv_4 : Nat → Int → AH → Prop),
          (
            ∃ (n_9 : Nat),
            Inv_4 n_9 0 H18) ∧
          ∀ (n_8 : Nat),
          ∀ (t75 : Int) (H19 : AH),
          Inv_4 n_8 t75 H19 →
          cond (decide (t75 < ((((((now6l_1 : Nat) : Int) : Int).toNat : Nat) : Int)))) (
            (0 : Int) ≤ t75 ∧
            (t75 : Int) < (((((now6l_1 : Nat) : Int) : Int).toNat : Nat) : Int) ∧
            ∃ (t79a : Option Addr) (t79l : Nat) (t79c : Nat),
            H19.cell H10.next (0 + (t75 : Int).toNat * 1) = some (.slice t79a t79l t79c) ∧
            cond (decide ((((t79l : Nat) : Int)) > 0)) (
              FW Ee F_spec_common [.slice t79a t79l t79c] H19 fun v_1 H20 =>
                ∃ (r86 : Int),
                v_1 = .int .i64 r86 ∧
                (0 : Int) ≤ t75 ∧
                (t75 : Int) < (((((now6l_1 : Nat) : Int) : Int).toNat : Nat) : Int) ∧
                ∃ (H21 : AH),
                storeCellsv H20 H12.next (0 + (t75 : Int).toNat * 1) [.int .i64 r86] = some H21 ∧
                ∀ (t88 : Int),
                t88 = IntKind.i64.wrap (t75 + 1) →
                ∃ (m_4 : Nat),
                m_4 < n_8 ∧
                Inv_4 m_4 t88 H21) (
              ∀ (t88_1 : Int),
              t88_1 = IntKind.i64.wrap (t75 + 1) →
              ∃ (m_4 : Nat),
              m_4 < n_8 ∧
              Inv_4 m_4 t88_1 H19)) (
            ∀ (t90 : Int),
            t90 = IntKind.i64.wrap (t33 + 1) →
            ∃ (m_1 : Nat),
            m_1 < n_2 ∧
            Inv_1 m_1 (some ⟨H12.next, 0, none⟩) ((((now6l_1 : Nat) : Int) : Int).toNat) (2 * (((now6l_1 : Nat) : Int) : Int).toNat) t90 H19))) (
        Q (.slice now6a_1 now6l_1 now6c_1) H10))
set_option maxRecDepth 100000 in
theorem fw_spec_Labels {g0_Verticesa : Option Addr} {g0_Verticesl : Nat} {g0_Verticesc : Nat} {turns1 : Int} {H : AH} {Q : Value → AH → Prop} (h : VC_spec_Labels g0_Verticesa g0_Verticesl g0_Verticesc turns1 H Q) : FW Ee F_spec_Labels [.agg ⟨[.slice g0_Verticesa g0_Verticesl g0_Verticesc]⟩, .int .i64 turns1] H Q := by
  have e : VC_spec_Labels g0_Verticesa g0_Verticesl g0_Verticesc turns1 H Q = wpF Ee ⟨[], []⟩ F_spec_Labels [.agg ⟨[.slice g0_Verticesa g0_Verticesl g0_Verticesc]⟩, .int .i64 turns1] H Q := by kernel_rfl
  letI : Sy := sy0
  exact wpF_sound (Eq.mp e h)
/-- cohort/cohortlaw10.SpecTurns -/
def VC_cohortlaw10_SpecTurns (g0_Verticesa : Option Addr) (g0_Verticesl : Nat) (g0_Verticesc : Nat) (turns1 : Int) (H : AH) (Q : Value → AH → Prop) : Prop :=
  ∀ (H1 : AH),
  H1 = H.new (.cells [.slice g0_Verticesa g0_Verticesl g0_Verticesc] 0) →
  ∃ (t22_Verticesa : Option Addr) (t22_Verticesl : Nat) (t22_Verticesc : Nat),
  H1.cell H.next (0 + 0) = some (.slice t22_Verticesa t22_Verticesl t22_Verticesc) ∧
  FW Ee F_cohortlaw10_good [.agg ⟨[.slice t22_Verticesa t22_Verticesl t22_Verticesc]⟩] H1 fun v H2 =>
    ∃ (r23 : Bool),
    v = .bool r23 ∧
    cond (!r23) (
      FW Ee F_cohortlaw10_awake [] H2 fun v_1 H3 =>
        ∃ (r25 : Bool),
        v_1 = .bool r25 ∧
        Q (.bool r25) H3) (
      (6 : Int) ≠ 0 ∧
      ∀ (t27 : Int),
      t27 = (turns1 : Int).tmod 6 →
      ∀ (t28 : Int),
      t28 = IntKind.i64.wrap (t27 + 6) →
      (6 : Int) ≠ 0 ∧
      ∀ (t29 : Int),
      t29 = (t28 : Int).tmod 6 →
      ∀ (t30 : Int),
      t30 = IntKind.i64.wrap (t29 + 1) →
      ∃ (t31_Verticesa : Option Addr) (t31_Verticesl : Nat) (t31_Verticesc : Nat),
      H2.cell H.next (0 + 0) = some (.slice t31_Verticesa t31_Verticesl t31_Verticesc) ∧
      FW Ee F_cohortlaw03_Ref [.agg ⟨[.slice t31_Verticesa t31_Verticesl t31_Verticesc]⟩] H2 fun v_2 H4 =>
        ∃ (r32a : Option Addr) (r32l : Nat) (r32c : Nat),
        v_2 = .slice r32a r32l r32c ∧
        ∃ (t33_Verticesa : Option Addr) (t33_Verticesl : Nat) (t33_Verticesc : Nat),
        H4.cell H.next (0 + 0) = some (.slice t33_Verticesa t33_Verticesl t33_Verticesc) ∧
        ∀ (t35 : Int),
        t35 = IntKind.i64.wrap (t30 - 1) →
        FW Ee F_spec_Ranks [.agg ⟨[.slice t33_Verticesa t33_Verticesl t33_Verticesc]⟩, .int .i64 t35] H4 fun v_3 H5 =>
          ∃ (r36a : Option Addr) (r36l : Nat) (r36c : Nat),
          v_3 = .slice r36a r36l r36c ∧
          ∃ (t37_Verticesa : Option Addr) (t37_Verticesl : Nat) (t37_Verticesc : Nat),
          H5.cell H.next (0 + 0) = some (.slice t37_Verticesa t37_Verticesl t37_Verticesc) ∧
          FW Ee F_spec_Ranks [.agg ⟨[.slice t37_Verticesa t37_Verticesl t37_Verticesc]⟩, .int .i64 t30] H5 fun v_4 H6 =>
            ∃ (r39a : Option Addr) (r39l : Nat) (r39c : Nat),
            v_4 = .slice r39a r39l r39c ∧
            H4.cell H.next (0 + 0) = some (.slice t37_Verticesa t37_Verticesl t37_Verticesc) ∧
            ∃ (t40_Verticesa : Option Addr) (t40_Verticesl : Nat) (t40_Verticesc : Nat),
            H6.cell H.next (0 + 0) = some (.slice t40_Verticesa t40_Verticesl t40_Verticesc) ∧
            ∀ (t42 : Int),
            t42 = IntKind.i64.wrap (t30 - 1) →
            FW Ee F_spec_Labels [.agg ⟨[.slice t40_Verticesa t40_Verticesl t40_Verticesc]⟩, .int .i64 t42] H6 fun v_5 H7 =>
              ∃ (r43a : Option Addr) (r43l : Nat) (r43c : Nat),
              v_5 = .slice r43a r43l r43c ∧
              ∃ (t44_Verticesa : Option Addr) (t44_Verticesl : Nat) (t44_Verticesc : Nat),
              H7.cell H.next (0 + 0) = some (.slice t44_Verticesa t44_Verticesl t44_Verticesc) ∧
              FW Ee F_spec_Labels [.agg ⟨[.slice t44_Verticesa t44_Verticesl t44_Verticesc]⟩, .int .i64 t30] H7 fun v_6 H8 =>
                ∃ (r46a : Option Addr) (r46l : Nat) (r46c : Nat),
                v_6 = .slice r46a r46l r46c ∧
                H6.cell H.next (0 + 0) = some (.slice t44_Verticesa t44_Verticesl t44_Verticesc) ∧
                cond ((((r36l : Nat) : Int)) != (((r32l : Nat) : Int))) (
                  Q (.bool false) H8) (
                  cond ((((r39l : Nat) : Int)) != (((r32l : Nat) : Int))) (
                    Q (.bool false) H8) (
                    cond ((((r43l : Nat) : Int)) != (((r32l : Nat) : Int))) (
                      Q (.bool false) H8) (
                      cond ((((r46l : Nat) : Int)) != (((r32l : Nat) : Int))) (
                        Q (.bool false) H8) (
                        ∃ (Inv : Nat → Bool → Int → Int → AH → Prop),
                        (
                          ∃ (n_1 : Nat),
                          Inv n_1 false 0 0 H8) ∧
                        ∀ (n : Nat),
                        ∀ (t4 : Bool) (all11 : Int) (i12 : Int) (H9 : AH),
                        Inv n t4 all11 i12 H9 →
                        cond (decide (i12 < (((r32l : Nat) : Int)))) (
                          ∀ (H10 : AH),
                          H10 = H9.new (.cells [] 0) →
                          ∃ (Inv_1 : Nat → Int → Option Addr → Nat → Nat → Int → AH → Prop),
                          (
                            ∃ (n_3 : Nat),
                            Inv_1 n_3 0 (some ⟨H9.next, 0, none⟩) 0 0 0 H10) ∧
                          ∀ (n_2 : Nat),
                          ∀ (sum13 : Int) (said14a : Option Addr) (said14l : Nat) (said14c : Nat) (k15 : Int) (H11 : AH),
                          Inv_1 n_2 sum13 said14a said14l said14c k15 H11 →
                          cond (decide (k15 < (((r32l : Nat) : Int)))) (
                            ∃ (Inv_2 : Nat → Int → Option Addr → Nat → Nat → Int → AH → Prop),
                            (
                              ∃ (n_5 : Nat),
                              Inv_2 n_5 sum13 said14a said14l said14c 0 H11) ∧
                            ∀ (n_4 : Nat),
                            ∀ (sum13_1 : Int) (said14a_1 : Option Addr) (said14l_1 : Nat) (said14c_1 : Nat) (e16 : Int) (H12 : AH),
                            Inv_2 n_4 sum13_1 said14a_1 said14l_1 said14c_1 e16 H12 →
                            grd r32a.isSome (
                              (0 : Int) ≤ k15 ∧
                              (k15 : Int) < ((r32l : Nat) : Int) ∧
                              ∃ (t91a : Option Addr) (t91l : Nat) (t91c : Nat),
                              H12.cell ((adr r32a).block) ((adr r32a).off + (k15 : Int).toNat * 3 + 2) = some (.slice t91a t91l t91c) ∧
                              cond (decide (e16 < (((t91l : Nat) : Int)))) (
                                grd r32a.isSome (
                                  (0 : Int) ≤ k15 ∧
                                  (k15 : Int) < ((r32l : Nat) : Int) ∧
                                  ∃ (t100a : Option Addr) (t100l : Nat) (t100c : Nat),
                                  H12.cell ((adr r32a).block) ((adr r32a).off + (k15 : Int).toNat * 3 + 2) = some (.slice t100a t100l t100c) ∧
                                  grd t100a.isSome (
                                    (0 : Int) ≤ e16 ∧
                                    (e16 : Int) < ((t100l : Nat) : Int) ∧
                                    ∃ (t104 : Int),
                                    H12.cell ((adr t100a).block) ((adr t100a).off + (e16 : Int).toNat * 2) = some (.int .i64 t104) ∧
                                    grd r32a.isSome (
                                      (0 : Int) ≤ i12 ∧
                                      (i12 : Int) < ((r32l : Nat) : Int) ∧
                                      ∃ (t109 : Int),
                                      H12.cell ((adr r32a).block) ((adr r32a).off + (i12 : Int).toNat * 3) = some (.int .i64 t109) ∧
                                      cond (t104 == t109) (
                                        grd r36a.isSome (
                                          (0 : Int) ≤ k15 ∧
                                          (k15 : Int) < ((r36l : Nat) : Int) ∧
                                          ∃ (t115 : Int),
                                          H12.cell ((adr r36a).block) ((adr r36a).off + (k15 : Int).toNat * 1) = some (.int .i64 t115) ∧
                                          grd r32a.isSome (
                                            (0 : Int) ≤ k15 ∧
                                            (k15 : Int) < ((r32l : Nat) : Int) ∧
                                            ∃ (t120a : Option Addr) (t120l : Nat) (t120c : Nat),
                                            H12.cell ((adr r32a).block) ((adr r32a).off + (k15 : Int).toNat * 3 + 2) = some (.slice t120a t120l t120c) ∧
                                            (((t120l : Nat) : Int) : Int) ≠ 0 ∧
                                            ∀ (t122 : Int),
                                            t122 = IntKind.i64.wrap ((t115 : Int).tdiv (((t120l : Nat) : Int))) →
                                            ∀ (t123 : Int),
                                            t123 = IntKind.i64.wrap (sum13_1 + t122) →
                                            grd r43a.isSome (
                                              (0 : Int) ≤ k15 ∧
                                              (k15 : Int) < ((r43l : Nat) : Int) ∧
                                              ∃ (t128 : Int),
                                              H12.cell ((adr r43a).block) ((adr r43a).off + (k15 : Int).toNat * 1) = some (.int .i64 t128) ∧
                                              ∀ (H13 : AH),
                                              H13 = H12.new (.cells [.int .i64 t128] 0) →
                                              ∃ (t130a : Option Addr) (t130l : Nat) (t130c : Nat) (H14 : AH),
                                              apnd H13 1 8 said14a_1 said14l_1 said14c_1 (.slice (some ⟨H12.next, 0, none⟩) 1 2) = some (.slice t130a t130l t130c, H14) ∧
                                              ∀ (t95 : Int),
                                              t95 = IntKind.i64.wrap (e16 + 1) →
                                              ∃ (m_2 : Nat),
                                              m_2 < n_4 ∧
                                              Inv_2 m_2 t123 t130a t130l t130c t95 H14)))) (
                                        ∀ (t95_1 : Int),
                                        t95_1 = IntKind.i64.wrap (e16 + 1) →
                                        ∃ (m_2 : Nat),
                                        m_2 < n_4 ∧
                                        Inv_2 m_2 sum13_1 said14a_1 said14l_1 said14c_1 t95_1 H12))))) (
                                ∀ (t85 : Int),
                                t85 = IntKind.i64.wrap (k15 + 1) →
                                ∃ (m_1 : Nat),
                                m_1 < n_2 ∧
                                Inv_1 m_1 sum13_1 said14a_1 said14l_1 said14c_1 t85 H12))) (
                            grd r39a.isSome (
                              (0 : Int) ≤ i12 ∧
                              (i12 : Int) < ((r39l : Nat) : Int) ∧
                              ∃ (t134 : Int),
                              H11.cell ((adr r39a).block) ((adr r39a).off + (i12 : Int).toNat * 1) = some (.int .i64 t134) ∧
                              (((r32l : Nat) : Int) : Int) ≠ 0 ∧
                              ∀ (t137 : Int),
                              t137 = IntKind.i64.wrap ((150000 : Int).tdiv (((r32l : Nat) : Int))) →
                              ∀ (t139 : Int),
                              t139 = IntKind.i64.wrap (sum13 * 85) →
                              (100 : Int) ≠ 0 ∧
                              ∀ (t140 : Int),
                              t140 = IntKind.i64.wrap ((t139 : Int).tdiv 100) →
                              ∀ (t141 : Int),
                              t141 = IntKind.i64.wrap (t137 + t140) →
                              cond (t134 != t141) (
                                Q (.bool false) H11) (
                                grd r43a.isSome (
                                  (0 : Int) ≤ i12 ∧
                                  (i12 : Int) < ((r43l : Nat) : Int) ∧
                                  ∃ (t146 : Int),
                                  H11.cell ((adr r43a).block) ((adr r43a).off + (i12 : Int).toNat * 1) = some (.int .i64 t146) ∧
                                  ∃ (Inv_3 : Nat → Int → Int → Int → AH → Prop),
                                  (
                                    ∃ (n_7 : Nat),
                                    Inv_3 n_7 0 t146 0 H11) ∧
                                  ∀ (n_6 : Nat),
                                  ∀ (most18 : Int) (best17 : Int) (k19 : Int) (H15 : AH),
                                  Inv_3 n_6 most18 best17 k19 H15 →
                                  cond (decide (k19 < (((said14l : Nat) : Int)))) (
                                    ∃ (Inv_4 : Nat → Int → Int → AH → Prop),
                                    (
                                      ∃ (n_9 : Nat),
                                      Inv_4 n_9 0 0 H15) ∧
                                    ∀ (n_8 : Nat),
                                    ∀ (n20 : Int) (e21 : Int) (H16 : AH),
                                    Inv_4 n_8 n20 e21 H16 →
                                    cond (decide (e21 < (((said14l : Nat) : Int)))) (
                                      grd said14a.isSome (
                                        (0 : Int) ≤ e21 ∧
                                        (e21 : Int) < ((said14l : Nat) : Int) ∧
                                        ∃ (t162 : Int),
                                        H16.cell ((adr said14a).block) ((adr said14a).off + (e21 : Int).toNat * 1) = some (.int .i64 t162) ∧
                                        grd said14a.isSome (
                                          (0 : Int) ≤ k19 ∧
                                          (k19 : Int) < ((said14l : Nat) : Int) ∧
                                          ∃ (t166 : Int),
                                          H16.cell ((adr said14a).block) ((adr said14a).off + (k19 : Int).toNat * 1) = some (.int .i64 t166) ∧
                                          cond (t162 == t166) (
                                            ∀ (t169 : Int),
                                            t169 = IntKind.i64.wrap (n20 + 1) →
                                            ∀ (t158 : Int),
                                            t158 = IntKind.i64.wrap (e21 + 1) →
                                            ∃ (m_4 : Nat),
                                            m_4 < n_8 ∧
                                            Inv_4 m_4 t169 t158 H16) (
                                            ∀ (t158_1 : Int),
                                            t158_1 = IntKind.i64.wrap (e21 + 1) →
                                            ∃ (m_4 : Nat),
                                            m_4 < n_8 ∧
                                            Inv_4 m_4 n20 t158_1 H16)))) (
                                      cond (decide (n20 > most18)) (
                                        grd said14a.isSome (
                                          (0 : Int) ≤ k19 ∧
                                          (k19 : Int) < ((said14l : Nat) : Int) ∧
                                          ∃ (t190 : Int),
                                          H16.cell ((adr said14a).block) ((adr said14a).off + (k19 : Int).toNat * 1) = some (.int .i64 t190) ∧
                                          ∀ (t152 : Int),
                                          t152 = IntKind.i64.wrap (k19 + 1) →
                                          ∃ (m_3 : Nat),
                                          m_3 < n_6 ∧
                                          Inv_3 m_3 n20 t190 t152 H16)) (
                                        cond (n20 == most18) (
                                          grd said14a.isSome (
                                            (0 : Int) ≤ k19 ∧
                                            (k19 : Int) < ((said14l : Nat) : Int) ∧
                                            ∃ (t181 : Int),
                                            H16.cell ((adr said14a).block) ((adr said14a).off + (k19 : Int).toNat * 1) = some (.int .i64 t181) ∧
                                            cond (decide (t181 < best17)) (
                                              grd said14a.isSome (
                                                (0 : Int) ≤ k19 ∧
                                                (k19 : Int) < ((said14l : Nat) : Int) ∧
                                                ∃ (t190_1 : Int),
                                                H16.cell ((adr said14a).block) ((adr said14a).off + (k19 : Int).toNat * 1) = some (.int .i64 t190_1) ∧
                                                ∀ (t152_1 : Int),
                                                t152_1 = IntKind.i64.wrap (k19 + 1) →
                                                ∃ (m_3 : Nat),
                                                m_3 < n_6 ∧
                                                Inv_3 m_3 n20 t190_1 t152_1 H16)) (
                                              ∀ (t152_2 : Int),
                                              t152_2 = IntKind.i64.wrap (k19 + 1) →
                                              ∃ (m_3 : Nat),
                                              m_3 < n_6 ∧
                                              Inv_3 m_3 most18 best17 t152_2 H16))) (
                                          ∀ (t152_3 : Int),
                                          t152_3 = IntKind.i64.wrap (k19 + 1) →
                                          ∃ (m_3 : Nat),
                                          m_3 < n_6 ∧
                                          Inv_3 m_3 most18 best17 t152_3 H16)))) (
                                    grd r46a.isSome (
                                      (0 : Int) ≤ i12 ∧
                                      (i12 : Int) < ((r46l : Nat) : Int) ∧
                                      ∃ (t194 : Int),
                                      H15.cell ((adr r46a).block) ((adr r46a).off + (i12 : Int).toNat * 1) = some (.int .i64 t194) ∧
                                      cond (t194 != best17) (
                                        Q (.bool false) H15) (
                                        grd r39a.isSome (
                                          (0 : Int) ≤ i12 ∧
                                          (i12 : Int) < ((r39l : Nat) : Int) ∧
                                          ∃ (t201 : Int),
                                          H15.cell ((adr r39a).block) ((adr r39a).off + (i12 : Int).toNat * 1) = some (.int .i64 t201) ∧
                                          ∀ (t202 : Int),
                                          t202 = IntKind.i64.wrap (all11 + t201) →
                                          ∀ (t78 : Int),
                                          t78 = IntKind.i64.wrap (i12 + 1) →
                                          ∃ (m : Nat),
                                          m < n ∧
                                          Inv m t4 t202 t78 H15))))))))) (
                          FW Ee F_cohortlaw10_awake [] H9 fun v_7 H17 =>
                            ∃ (r203 : Bool),
                            v_7 = .bool r203 ∧
                            cond (r203) (
                              Q (.bool (decide (all11 ≤ 1000000))) H17) (
                              Q (.bool false) H17)))))))
set_option maxRecDepth 100000 in
theorem fw_cohortlaw10_SpecTurns {g0_Verticesa : Option Addr} {g0_Verticesl : Nat} {g0_Verticesc : Nat} {turns1 : Int} {H : AH} {Q : Value → AH → Prop} (h : VC_cohortlaw10_SpecTurns g0_Verticesa g0_Verticesl g0_Verticesc turns1 H Q) : FW Ee F_cohortlaw10_SpecTurns [.agg ⟨[.slice g0_Verticesa g0_Verticesl g0_Verticesc]⟩, .int .i64 turns1] H Q := by
  have e : VC_cohortlaw10_SpecTurns g0_Verticesa g0_Verticesl g0_Verticesc turns1 H Q = wpF Ee ⟨[], []⟩ F_cohortlaw10_SpecTurns [.agg ⟨[.slice g0_Verticesa g0_Verticesl g0_Verticesc]⟩, .int .i64 turns1] H Q := by kernel_rfl
  letI : Sy := sy0
  exact wpF_sound (Eq.mp e h)
end Go.Proofs.Cx
