/- What calls come to, as formulas: printed by a program. -/
import Derived.Test.YtkegomailfhnpaaGreatVc0
namespace Go.Proofs.Cx
open Go Go.Ev
set_option linter.unusedVariables false
set_option maxRecDepth 100000
/-- cohort/kern.Programs -/
def VC_kern_Programs  (H : AH) (Q : Value → AH → Prop) : Prop :=
  ∀ (H1 : AH),
  H1 = H.new (.cells [.string ⟨⟨[98, 102, 115]⟩⟩, .string ⟨⟨[99, 99]⟩⟩, .string ⟨⟨[99, 111, 108, 111, 114, 115]⟩⟩, .string ⟨⟨[100, 101, 103, 114, 101, 101]⟩⟩, .string ⟨⟨[107, 99, 111, 114, 101]⟩⟩, .string ⟨⟨[108, 97, 98, 101, 108, 115]⟩⟩, .string ⟨⟨[109, 97, 116, 99, 104, 105, 110, 103]⟩⟩, .string ⟨⟨[112, 97, 103, 101, 114, 97, 110, 107]⟩⟩, .string ⟨⟨[115, 115, 115, 112]⟩⟩, .string ⟨⟨[116, 114, 105, 97, 110, 103, 108, 101, 115]⟩⟩] 0) →
  Q (.slice (some ⟨H.next, 0, none⟩) 10 20) H1
set_option maxRecDepth 100000 in
theorem fw_kern_Programs  {H : AH} {Q : Value → AH → Prop} (h : VC_kern_Programs  H Q) : FW Ee F_kern_Programs [] H Q := by
  have e : VC_kern_Programs  H Q = wpF Ee ⟨[], []⟩ F_kern_Programs [] H Q := by kernel_rfl
  letI : Sy := sy0
  exact wpF_sound (Eq.mp e h)
/-- cohort/kern.Turns -/
def VC_kern_Turns (params0a : Option Addr) (params0l : Nat) (params0c : Nat) (H : AH) (Q : Value → AH → Prop) : Prop :=
  cond ((((params0l : Nat) : Int)) != 1) (
    Q (.int .i64 71) H) (
    grd params0a.isSome (
      (0 : Int) ≤ 0 ∧
      (0 : Int) < ((params0l : Nat) : Int) ∧
      ∃ (t9 : Int),
      H.cell ((adr params0a).block) ((adr params0a).off + (0 : Int).toNat * 1) = some (.int .i64 t9) ∧
      cond (decide (t9 < 0)) (
        Q (.int .i64 71) H) (
        grd params0a.isSome (
          (0 : Int) ≤ 0 ∧
          (0 : Int) < ((params0l : Nat) : Int) ∧
          ∃ (t15 : Int),
          H.cell ((adr params0a).block) ((adr params0a).off + (0 : Int).toNat * 1) = some (.int .i64 t15) ∧
          cond (decide (t15 > 100)) (
            Q (.int .i64 71) H) (
            Q (.int .i64 0) H)))))
set_option maxRecDepth 100000 in
theorem fw_kern_Turns {params0a : Option Addr} {params0l : Nat} {params0c : Nat} {H : AH} {Q : Value → AH → Prop} (h : VC_kern_Turns params0a params0l params0c H Q) : FW Ee F_kern_Turns [.slice params0a params0l params0c] H Q := by
  have e : VC_kern_Turns params0a params0l params0c H Q = wpF Ee ⟨[], []⟩ F_kern_Turns [.slice params0a params0l params0c] H Q := by kernel_rfl
  letI : Sy := sy0
  exact wpF_sound (Eq.mp e h)
/-- cohort/kern.None -/
def VC_kern_None (params0a : Option Addr) (params0l : Nat) (params0c : Nat) (H : AH) (Q : Value → AH → Prop) : Prop :=
  cond ((((params0l : Nat) : Int)) != 0) (
    Q (.int .i64 71) H) (
    Q (.int .i64 0) H)
set_option maxRecDepth 100000 in
theorem fw_kern_None {params0a : Option Addr} {params0l : Nat} {params0c : Nat} {H : AH} {Q : Value → AH → Prop} (h : VC_kern_None params0a params0l params0c H Q) : FW Ee F_kern_None [.slice params0a params0l params0c] H Q := by
  have e : VC_kern_None params0a params0l params0c H Q = wpF Ee ⟨[], []⟩ F_kern_None [.slice params0a params0l params0c] H Q := by kernel_rfl
  letI : Sy := sy0
  exact wpF_sound (Eq.mp e h)
/-- cohort/kern.Source -/
def VC_kern_Source (g0_Verticesa : Option Addr) (g0_Verticesl : Nat) (g0_Verticesc : Nat) (params1a : Option Addr) (params1l : Nat) (params1c : Nat) (H : AH) (Q : Value → AH → Prop) : Prop :=
  ∀ (H1 : AH),
  H1 = H.new (.cells [.slice g0_Verticesa g0_Verticesl g0_Verticesc] 0) →
  cond ((((params1l : Nat) : Int)) != 1) (
    Q (.int .i64 71) H1) (
    ∃ (t11_Verticesa : Option Addr) (t11_Verticesl : Nat) (t11_Verticesc : Nat),
    H1.cell H.next (0 + 0) = some (.slice t11_Verticesa t11_Verticesl t11_Verticesc) ∧
    grd params1a.isSome (
      (0 : Int) ≤ 0 ∧
      (0 : Int) < ((params1l : Nat) : Int) ∧
      ∃ (t14 : Int),
      H1.cell ((adr params1a).block) ((adr params1a).off + (0 : Int).toNat * 1) = some (.int .i64 t14) ∧
      FW Ee F_graph_Find [.agg ⟨[.slice t11_Verticesa t11_Verticesl t11_Verticesc]⟩, .int .i64 t14] H1 fun v H2 =>
        ∃ (r15_0 : Int) (r15_1 : Bool),
        v = .tuple ⟨[.int .i64 r15_0, .bool r15_1]⟩ ∧
        cond (!r15_1) (
          Q (.int .i64 71) H2) (
          Q (.int .i64 0) H2)))
set_option maxRecDepth 100000 in
theorem fw_kern_Source {g0_Verticesa : Option Addr} {g0_Verticesl : Nat} {g0_Verticesc : Nat} {params1a : Option Addr} {params1l : Nat} {params1c : Nat} {H : AH} {Q : Value → AH → Prop} (h : VC_kern_Source g0_Verticesa g0_Verticesl g0_Verticesc params1a params1l params1c H Q) : FW Ee F_kern_Source [.agg ⟨[.slice g0_Verticesa g0_Verticesl g0_Verticesc]⟩, .slice params1a params1l params1c] H Q := by
  have e : VC_kern_Source g0_Verticesa g0_Verticesl g0_Verticesc params1a params1l params1c H Q = wpF Ee ⟨[], []⟩ F_kern_Source [.agg ⟨[.slice g0_Verticesa g0_Verticesl g0_Verticesc]⟩, .slice params1a params1l params1c] H Q := by kernel_rfl
  letI : Sy := sy0
  exact wpF_sound (Eq.mp e h)
/-- cohort/kern.Check -/
def VC_kern_Check (program0 : List UInt8) (g1_Verticesa : Option Addr) (g1_Verticesl : Nat) (g1_Verticesc : Nat) (params2a : Option Addr) (params2l : Nat) (params2c : Nat) (H : AH) (Q : Value → AH → Prop) : Prop :=
  ∀ (H1 : AH),
  H1 = H.new (.cells [.slice g1_Verticesa g1_Verticesl g1_Verticesc] 0) →
  ∀ (H2 : AH),
  H2 = H1.new (.cells [.int .i64 0] 0) →
  cond ((program0 : List UInt8) == [98, 102, 115]) (
    ∃ (t12_Verticesa : Option Addr) (t12_Verticesl : Nat) (t12_Verticesc : Nat),
    H2.cell H.next (0 + 0) = some (.slice t12_Verticesa t12_Verticesl t12_Verticesc) ∧
    FW Ee F_kern_Source [.agg ⟨[.slice t12_Verticesa t12_Verticesl t12_Verticesc]⟩, .slice params2a params2l params2c] H2 fun v H3 =>
      ∃ (r14 : Int),
      v = .int .i64 r14 ∧
      ∃ (H4 : AH),
      storeCellsv H3 H1.next 0 [.int .i64 r14] = some H4 ∧
      ∃ (r6 : Int),
      H4.cell H1.next 0 = some (.int .i64 r6) ∧
      Q (.int .i64 r6) H4) (
    cond ((program0 : List UInt8) == [115, 115, 115, 112]) (
      ∃ (t17_Verticesa : Option Addr) (t17_Verticesl : Nat) (t17_Verticesc : Nat),
      H2.cell H.next (0 + 0) = some (.slice t17_Verticesa t17_Verticesl t17_Verticesc) ∧
      FW Ee F_graph_All [.agg ⟨[.slice t17_Verticesa t17_Verticesl t17_Verticesc]⟩] H2 fun v_1 H5 =>
        ∃ (b18 : Nat),
        v_1 = .func (.func F_graph_All_1) ⟨[]⟩ ⟨[.pointer (some ⟨b18, 0, none⟩)]⟩ ∧
        ∀ (L : ALoop),
        RdL 36 Ee.g [(6, .pointer (some ⟨H1.next, 0, none⟩))] (rfOf Ee F_kern_Check 0) L →
        L.st = .ready →
        L.pend = none →
        FW Ee F_graph_All_1 [.func (.yield H5.next) ⟨[]⟩ ⟨[]⟩, .pointer (some ⟨b18, 0, none⟩)] (H5.new (.loop L)) fun _ H6 =>
          ∃ (L_1 : ALoop),
          H6.get H5.next = some (.loop L_1) ∧
          L_1.st ≠ .busy ∧
          match L_1.pend with
          | none =>
            ∃ (t24_Verticesa_1 : Option Addr) (t24_Verticesl_1 : Nat) (t24_Verticesc_1 : Nat),
            (H6.set H5.next (.loop { L_1 with st := .exhausted })).cell H.next (0 + 0) = some (.slice t24_Verticesa_1 t24_Verticesl_1 t24_Verticesc_1) ∧
            FW Ee F_kern_Source [.agg ⟨[.slice t24_Verticesa_1 t24_Verticesl_1 t24_Verticesc_1]⟩, .slice params2a params2l params2c] ((H6.set H5.next (.loop { L_1 with st := .exhausted }))) fun v_3 H10 =>
              ∃ (r26_1 : Int),
              v_3 = .int .i64 r26_1 ∧
              ∃ (H11 : AH),
              storeCellsv H10 H1.next 0 [.int .i64 r26_1] = some H11 ∧
              ∃ (r6_3 : Int),
              H11.cell H1.next 0 = some (.int .i64 r6_3) ∧
              Q (.int .i64 r6_3) H11
          | some (.exit i) =>
            cond (Nat.beq i 1) (
              ∃ (t24_Verticesa : Option Addr) (t24_Verticesl : Nat) (t24_Verticesc : Nat),
              (H6.set H5.next (.loop { L_1 with st := .exhausted })).cell H.next (0 + 0) = some (.slice t24_Verticesa t24_Verticesl t24_Verticesc) ∧
              FW Ee F_kern_Source [.agg ⟨[.slice t24_Verticesa t24_Verticesl t24_Verticesc]⟩, .slice params2a params2l params2c] ((H6.set H5.next (.loop { L_1 with st := .exhausted }))) fun v_2 H7 =>
                ∃ (r26 : Int),
                v_2 = .int .i64 r26 ∧
                ∃ (H8 : AH),
                storeCellsv H7 H1.next 0 [.int .i64 r26] = some H8 ∧
                ∃ (r6_1 : Int),
                H8.cell H1.next 0 = some (.int .i64 r6_1) ∧
                Q (.int .i64 r6_1) H8) (
              cond (Nat.beq i 0) (
                ∃ (H9 : AH),
                storeCellsv ((H6.set H5.next (.loop { L_1 with st := .exhausted }))) H1.next 0 [.int .i64 70] = some H9 ∧
                ∃ (r6_2 : Int),
                H9.cell H1.next 0 = some (.int .i64 r6_2) ∧
                Q (.int .i64 r6_2) H9) (
                False))
          | some .ret =>
            ∃ (r6_4 : Int),
            (H6.set H5.next (.loop { L_1 with st := .exhausted })).cell H1.next 0 = some (.int .i64 r6_4) ∧
            Q (.int .i64 r6_4) ((H6.set H5.next (.loop { L_1 with st := .exhausted })))
          | _ =>
            False) (
      cond ((program0 : List UInt8) == [112, 97, 103, 101, 114, 97, 110, 107]) (
        FW Ee F_kern_Turns [.slice params2a params2l params2c] H2 fun v_4 H12 =>
          ∃ (r30 : Int),
          v_4 = .int .i64 r30 ∧
          ∃ (H13 : AH),
          storeCellsv H12 H1.next 0 [.int .i64 r30] = some H13 ∧
          ∃ (r6_5 : Int),
          H13.cell H1.next 0 = some (.int .i64 r6_5) ∧
          Q (.int .i64 r6_5) H13) (
        cond ((program0 : List UInt8) == [100, 101, 103, 114, 101, 101]) (
          FW Ee F_kern_None [.slice params2a params2l params2c] H2 fun v_5 H14 =>
            ∃ (r35 : Int),
            v_5 = .int .i64 r35 ∧
            ∃ (H15 : AH),
            storeCellsv H14 H1.next 0 [.int .i64 r35] = some H15 ∧
            ∃ (r6_6 : Int),
            H15.cell H1.next 0 = some (.int .i64 r6_6) ∧
            Q (.int .i64 r6_6) H15) (
          cond ((program0 : List UInt8) == [99, 99]) (
            FW Ee F_kern_None [.slice params2a params2l params2c] H2 fun v_6 H16 =>
              ∃ (r35_1 : Int),
              v_6 = .int .i64 r35_1 ∧
              ∃ (H17 : AH),
              storeCellsv H16 H1.next 0 [.int .i64 r35_1] = some H17 ∧
              ∃ (r6_7 : Int),
              H17.cell H1.next 0 = some (.int .i64 r6_7) ∧
              Q (.int .i64 r6_7) H17) (
            ∃ (H18 : AH),
            storeCellsv H2 H1.next 0 [.int .i64 70] = some H18 ∧
            ∃ (r6_8 : Int),
            H18.cell H1.next 0 = some (.int .i64 r6_8) ∧
            Q (.int .i64 r6_8) H18)))))
set_option maxRecDepth 100000 in
theorem fw_kern_Check {program0 : List UInt8} {g1_Verticesa : Option Addr} {g1_Verticesl : Nat} {g1_Verticesc : Nat} {params2a : Option Addr} {params2l : Nat} {params2c : Nat} {H : AH} {Q : Value → AH → Prop} (h : VC_kern_Check program0 g1_Verticesa g1_Verticesl g1_Verticesc params2a params2l params2c H Q) : FW Ee F_kern_Check [.string ⟨⟨program0⟩⟩, .agg ⟨[.slice g1_Verticesa g1_Verticesl g1_Verticesc]⟩, .slice params2a params2l params2c] H Q := by
  have e : VC_kern_Check program0 g1_Verticesa g1_Verticesl g1_Verticesc params2a params2l params2c H Q = wpF Ee ⟨[], []⟩ F_kern_Check [.string ⟨⟨program0⟩⟩, .agg ⟨[.slice g1_Verticesa g1_Verticesl g1_Verticesc]⟩, .slice params2a params2l params2c] H Q := by kernel_rfl
  letI : Sy := sy0
  exact wpF_sound (Eq.mp e h)
/-- cohort/kern.Check: a round -/
def VC_kern_Check_r0 (t6b : Nat) (t6o : Nat) (p19 : Int) (p20_To : Int) (p20_Weight : Int) (l : Nat) (H : AH) (Q : Value → AH → Prop) : Prop :=
  ∀ (H1 : AH),
  H1 = H.new (.cells [.int .i64 0, .int .i64 0] 0) →
  ∃ (H2 : AH),
  storeCellsv H1 H.next 0 [.int .i64 p20_To, .int .i64 p20_Weight] = some H2 ∧
  ∃ (L : ALoop),
  H2.get l = some (.loop L) ∧
  L.st = .ready ∧
  L.body = (rfOf Ee F_kern_Check 0).2.2 ∧
  ∃ (t22 : Int),
  (H2.set l (.loop { L with st := .busy })).cell H.next 1 = some (.int .i64 t22) ∧
  cond (decide (t22 < 0)) (
    ∃ (H3 : AH),
    storeCellsv ((H2.set l (.loop { L with st := .busy }))) t6b t6o [.int .i64 71] = some H3 ∧
    ∃ (L_1 : ALoop),
    H3.get l = some (.loop L_1) ∧
    Q (.bool false) (H3.set l (.loop { L_1 with st := .done, pend := some .ret }))) (
    ∃ (L_2 : ALoop),
    (H2.set l (.loop { L with st := .busy })).get l = some (.loop L_2) ∧
    Q (.bool true) ((H2.set l (.loop { L with st := .busy })).set l (.loop { L_2 with st := .ready, pend := none })))
set_option maxRecDepth 100000 in
theorem rw_kern_Check_r0 {t6b : Nat} {t6o : Nat} {p19 : Int} {p20_To : Int} {p20_Weight : Int} {l : Nat} {H : AH} {Q : Value → AH → Prop} {L : ALoop} (hl : H.get l = some (.loop L)) (hR : RdL 36 Ee.g [(6, .pointer (some ⟨t6b, t6o, none⟩))] (rfOf Ee F_kern_Check 0) L) (h : VC_kern_Check_r0 t6b t6o p19 p20_To p20_Weight l H Q) : RW Ee l [.int .i64 p19, .agg ⟨[.int .i64 p20_To, .int .i64 p20_Weight]⟩] H Q := by
  have e : VC_kern_Check_r0 t6b t6o p19 p20_To p20_Weight l H Q = wpRound Ee ⟨[], []⟩ (frm 36 Ee.g [(6, .pointer (some ⟨t6b, t6o, none⟩))]) (rfOf Ee F_kern_Check 0).1 (rfOf Ee F_kern_Check 0).2.1 (rfOf Ee F_kern_Check 0).2.2 l [.int .i64 p19, .agg ⟨[.int .i64 p20_To, .int .i64 p20_Weight]⟩] H Q := by kernel_rfl
  letI : Sy := sy0
  exact wpRoundR_sound hl hR (Eq.mp e h)
/-- cmp.isNaN[string] -/
def VC_cmp_isNaN_string (x0 : List UInt8) (H : AH) (Q : Value → AH → Prop) : Prop :=
  Q (.bool (!((x0 : List UInt8) == x0))) H
set_option maxRecDepth 100000 in
theorem fw_cmp_isNaN_string {x0 : List UInt8} {H : AH} {Q : Value → AH → Prop} (h : VC_cmp_isNaN_string x0 H Q) : FW Ee F_cmp_isNaN_string [.string ⟨⟨x0⟩⟩] H Q := by
  have e : VC_cmp_isNaN_string x0 H Q = wpF Ee ⟨[], []⟩ F_cmp_isNaN_string [.string ⟨⟨x0⟩⟩] H Q := by kernel_rfl
  letI : Sy := sy0
  exact wpF_sound (Eq.mp e h)
/-- cmp.Less[string] -/
def VC_cmp_Less_string (x0 : List UInt8) (y1 : List UInt8) (H : AH) (Q : Value → AH → Prop) : Prop :=
  FW Ee F_cmp_isNaN_string [.string ⟨⟨x0⟩⟩] H fun v H1 =>
    ∃ (r6 : Bool),
    v = .bool r6 ∧
    cond (r6) (
      FW Ee F_cmp_isNaN_string [.string ⟨⟨y1⟩⟩] H1 fun v_1 H2 =>
        ∃ (r9 : Bool),
        v_1 = .bool r9 ∧
        cond (!r9) (
          Q (.bool true) H2) (
          Q (.bool (Op.bytesLess x0 y1)) H2)) (
      Q (.bool (Op.bytesLess x0 y1)) H1)
set_option maxRecDepth 100000 in
theorem fw_cmp_Less_string {x0 : List UInt8} {y1 : List UInt8} {H : AH} {Q : Value → AH → Prop} (h : VC_cmp_Less_string x0 y1 H Q) : FW Ee F_cmp_Less_string [.string ⟨⟨x0⟩⟩, .string ⟨⟨y1⟩⟩] H Q := by
  have e : VC_cmp_Less_string x0 y1 H Q = wpF Ee ⟨[], []⟩ F_cmp_Less_string [.string ⟨⟨x0⟩⟩, .string ⟨⟨y1⟩⟩] H Q := by kernel_rfl
  letI : Sy := sy0
  exact wpF_sound (Eq.mp e h)
/-- slices.isNaN[string] -/
def VC_slices_isNaN_string (x0 : List UInt8) (H : AH) (Q : Value → AH → Prop) : Prop :=
  Q (.bool (!((x0 : List UInt8) == x0))) H
set_option maxRecDepth 100000 in
theorem fw_slices_isNaN_string {x0 : List UInt8} {H : AH} {Q : Value → AH → Prop} (h : VC_slices_isNaN_string x0 H Q) : FW Ee F_slices_isNaN_string [.string ⟨⟨x0⟩⟩] H Q := by
  have e : VC_slices_isNaN_string x0 H Q = wpF Ee ⟨[], []⟩ F_slices_isNaN_string [.string ⟨⟨x0⟩⟩] H Q := by kernel_rfl
  letI : Sy := sy0
  exact wpF_sound (Eq.mp e h)
/-- slices.BinarySearch[[]string,string] -/
def VC_slices_BinarySearch_L_string_string (x0a : Option Addr) (x0l : Nat) (x0c : Nat) (target1 : List UInt8) (H : AH) (Q : Value → AH → Prop) : Prop :=
  ∃ (Inv : Nat → Int → Int → AH → Prop),
  (
    ∃ (n_1 : Nat),
    Inv n_1 0 (((x0l : Nat) : Int)) H) ∧
  ∀ (n : Nat),
  ∀ (i7 : Int) (j8 : Int) (H1 : AH),
  Inv n i7 j8 H1 →
  cond (decide (i7 < j8)) (
    ∀ (t18 : Int),
    t18 = IntKind.i64.wrap (i7 + j8) →
    ∀ (t19 : Int),
    t19 = IntKind.u64.wrap (t18) →
    (0 : Int) ≤ 1 ∧
    ∀ (t20 : Int),
    t20 = (t19 : Int).fdiv (2 ^ (min (1 : Int).toNat IntKind.u64.bits)) →
    ∀ (t21 : Int),
    t21 = IntKind.i64.wrap (t20) →
    grd x0a.isSome (
      (0 : Int) ≤ t21 ∧
      (t21 : Int) < ((x0l : Nat) : Int) ∧
      ∃ (t25 : List UInt8),
      H1.cell ((adr x0a).block) ((adr x0a).off + (t21 : Int).toNat * 1) = some (.string ⟨⟨t25⟩⟩) ∧
      FW Ee F_cmp_Less_string [.string ⟨⟨t25⟩⟩, .string ⟨⟨target1⟩⟩] H1 fun v H2 =>
        ∃ (r27 : Bool),
        v = .bool r27 ∧
        cond (r27) (
          ∀ (t29 : Int),
          t29 = IntKind.i64.wrap (t21 + 1) →
          ∃ (m : Nat),
          m < n ∧
          Inv m t29 j8 H2) (
          ∃ (m : Nat),
          m < n ∧
          Inv m i7 t21 H2))) (
    cond (decide (i7 < (((x0l : Nat) : Int)))) (
      grd x0a.isSome (
        (0 : Int) ≤ i7 ∧
        (i7 : Int) < ((x0l : Nat) : Int) ∧
        ∃ (t39 : List UInt8),
        H1.cell ((adr x0a).block) ((adr x0a).off + (i7 : Int).toNat * 1) = some (.string ⟨⟨t39⟩⟩) ∧
        cond ((t39 : List UInt8) == target1) (
          Q (.tuple ⟨[.int .i64 i7, .bool true]⟩) H1) (
          grd x0a.isSome (
            (0 : Int) ≤ i7 ∧
            (i7 : Int) < ((x0l : Nat) : Int) ∧
            ∃ (t46 : List UInt8),
            H1.cell ((adr x0a).block) ((adr x0a).off + (i7 : Int).toNat * 1) = some (.string ⟨⟨t46⟩⟩) ∧
            FW Ee F_slices_isNaN_string [.string ⟨⟨t46⟩⟩] H1 fun v_1 H3 =>
              ∃ (r47 : Bool),
              v_1 = .bool r47 ∧
              cond (r47) (
                FW Ee F_slices_isNaN_string [.string ⟨⟨target1⟩⟩] H3 fun v_2 H4 =>
                  ∃ (r50 : Bool),
                  v_2 = .bool r50 ∧
                  Q (.tuple ⟨[.int .i64 i7, .bool r50]⟩) H4) (
                Q (.tuple ⟨[.int .i64 i7, .bool false]⟩) H3))))) (
      Q (.tuple ⟨[.int .i64 i7, .bool false]⟩) H1))
set_option maxRecDepth 100000 in
theorem fw_slices_BinarySearch_L_string_string {x0a : Option Addr} {x0l : Nat} {x0c : Nat} {target1 : List UInt8} {H : AH} {Q : Value → AH → Prop} (h : VC_slices_BinarySearch_L_string_string x0a x0l x0c target1 H Q) : FW Ee F_slices_BinarySearch_L_string_string [.slice x0a x0l x0c, .string ⟨⟨target1⟩⟩] H Q := by
  have e : VC_slices_BinarySearch_L_string_string x0a x0l x0c target1 H Q = wpF Ee ⟨[], []⟩ F_slices_BinarySearch_L_string_string [.slice x0a x0l x0c, .string ⟨⟨target1⟩⟩] H Q := by kernel_rfl
  letI : Sy := sy0
  exact wpF_sound (Eq.mp e h)
/-- cohort/more.Known -/
def VC_more_Known (program0 : List UInt8) (H : AH) (Q : Value → AH → Prop) : Prop :=
  FW Ee F_kern_Programs [] H fun v H1 =>
    ∃ (r6a : Option Addr) (r6l : Nat) (r6c : Nat),
    v = .slice r6a r6l r6c ∧
    FW Ee F_slices_BinarySearch_L_string_string [.slice r6a r6l r6c, .string ⟨⟨program0⟩⟩] H1 fun v_1 H2 =>
      ∃ (r8_0 : Int) (r8_1 : Bool),
      v_1 = .tuple ⟨[.int .i64 r8_0, .bool r8_1]⟩ ∧
      Q (.bool r8_1) H2
set_option maxRecDepth 100000 in
theorem fw_more_Known {program0 : List UInt8} {H : AH} {Q : Value → AH → Prop} (h : VC_more_Known program0 H Q) : FW Ee F_more_Known [.string ⟨⟨program0⟩⟩] H Q := by
  have e : VC_more_Known program0 H Q = wpF Ee ⟨[], []⟩ F_more_Known [.string ⟨⟨program0⟩⟩] H Q := by kernel_rfl
  letI : Sy := sy0
  exact wpF_sound (Eq.mp e h)
/-- cohort/more.Check -/
def VC_more_Check (program0 : List UInt8) (g1_Verticesa : Option Addr) (g1_Verticesl : Nat) (g1_Verticesc : Nat) (params2a : Option Addr) (params2l : Nat) (params2c : Nat) (H : AH) (Q : Value → AH → Prop) : Prop :=
  ∀ (H1 : AH),
  H1 = H.new (.cells [.slice g1_Verticesa g1_Verticesl g1_Verticesc] 0) →
  cond ((program0 : List UInt8) == [108, 97, 98, 101, 108, 115]) (
    FW Ee F_kern_Turns [.slice params2a params2l params2c] H1 fun v H2 =>
      ∃ (r11 : Int),
      v = .int .i64 r11 ∧
      Q (.int .i64 r11) H2) (
    cond ((program0 : List UInt8) == [107, 99, 111, 114, 101]) (
      cond ((((params2l : Nat) : Int)) != 1) (
        Q (.int .i64 71) H1) (
        grd params2a.isSome (
          (0 : Int) ≤ 0 ∧
          (0 : Int) < ((params2l : Nat) : Int) ∧
          ∃ (t20 : Int),
          H1.cell ((adr params2a).block) ((adr params2a).off + (0 : Int).toNat * 1) = some (.int .i64 t20) ∧
          cond (decide (t20 < 0)) (
            Q (.int .i64 71) H1) (
            grd params2a.isSome (
              (0 : Int) ≤ 0 ∧
              (0 : Int) < ((params2l : Nat) : Int) ∧
              ∃ (t26 : Int),
              H1.cell ((adr params2a).block) ((adr params2a).off + (0 : Int).toNat * 1) = some (.int .i64 t26) ∧
              cond (decide (t26 > 256)) (
                Q (.int .i64 71) H1) (
                Q (.int .i64 0) H1)))))) (
      cond ((program0 : List UInt8) == [116, 114, 105, 97, 110, 103, 108, 101, 115]) (
        FW Ee F_kern_None [.slice params2a params2l params2c] H1 fun v_1 H3 =>
          ∃ (r34 : Int),
          v_1 = .int .i64 r34 ∧
          Q (.int .i64 r34) H3) (
        cond ((program0 : List UInt8) == [109, 97, 116, 99, 104, 105, 110, 103]) (
          FW Ee F_kern_None [.slice params2a params2l params2c] H1 fun v_2 H4 =>
            ∃ (r34_1 : Int),
            v_2 = .int .i64 r34_1 ∧
            Q (.int .i64 r34_1) H4) (
          cond ((program0 : List UInt8) == [99, 111, 108, 111, 114, 115]) (
            FW Ee F_kern_None [.slice params2a params2l params2c] H1 fun v_3 H5 =>
              ∃ (r34_2 : Int),
              v_3 = .int .i64 r34_2 ∧
              Q (.int .i64 r34_2) H5) (
            ∃ (t36_Verticesa : Option Addr) (t36_Verticesl : Nat) (t36_Verticesc : Nat),
            H1.cell H.next (0 + 0) = some (.slice t36_Verticesa t36_Verticesl t36_Verticesc) ∧
            FW Ee F_kern_Check [.string ⟨⟨program0⟩⟩, .agg ⟨[.slice t36_Verticesa t36_Verticesl t36_Verticesc]⟩, .slice params2a params2l params2c] H1 fun v_4 H6 =>
              ∃ (r38 : Int),
              v_4 = .int .i64 r38 ∧
              Q (.int .i64 r38) H6)))))
set_option maxRecDepth 100000 in
theorem fw_more_Check {program0 : List UInt8} {g1_Verticesa : Option Addr} {g1_Verticesl : Nat} {g1_Verticesc : Nat} {params2a : Option Addr} {params2l : Nat} {params2c : Nat} {H : AH} {Q : Value → AH → Prop} (h : VC_more_Check program0 g1_Verticesa g1_Verticesl g1_Verticesc params2a params2l params2c H Q) : FW Ee F_more_Check [.string ⟨⟨program0⟩⟩, .agg ⟨[.slice g1_Verticesa g1_Verticesl g1_Verticesc]⟩, .slice params2a params2l params2c] H Q := by
  have e : VC_more_Check program0 g1_Verticesa g1_Verticesl g1_Verticesc params2a params2l params2c H Q = wpF Ee ⟨[], []⟩ F_more_Check [.string ⟨⟨program0⟩⟩, .agg ⟨[.slice g1_Verticesa g1_Verticesl g1_Verticesc]⟩, .slice params2a params2l params2c] H Q := by kernel_rfl
  letI : Sy := sy0
  exact wpF_sound (Eq.mp e h)
/-- cohort/cohortref07.Names -/
def VC_cohortref07_Names  (H : AH) (Q : Value → AH → Prop) : Prop :=
  ∀ (H1 : AH),
  H1 = H.new (.cells [.string ⟨⟨[98, 102, 115]⟩⟩, .string ⟨⟨[99, 99]⟩⟩, .string ⟨⟨[99, 111, 108, 111, 114, 115]⟩⟩, .string ⟨⟨[100, 101, 103, 114, 101, 101]⟩⟩, .string ⟨⟨[107, 99, 111, 114, 101]⟩⟩, .string ⟨⟨[108, 97, 98, 101, 108, 115]⟩⟩, .string ⟨⟨[109, 97, 116, 99, 104, 105, 110, 103]⟩⟩, .string ⟨⟨[112, 97, 103, 101, 114, 97, 110, 107]⟩⟩, .string ⟨⟨[115, 115, 115, 112]⟩⟩, .string ⟨⟨[116, 114, 105, 97, 110, 103, 108, 101, 115]⟩⟩] 0) →
  Q (.slice (some ⟨H.next, 0, none⟩) 10 20) H1
set_option maxRecDepth 100000 in
theorem fw_cohortref07_Names  {H : AH} {Q : Value → AH → Prop} (h : VC_cohortref07_Names  H Q) : FW Ee F_cohortref07_Names [] H Q := by
  have e : VC_cohortref07_Names  H Q = wpF Ee ⟨[], []⟩ F_cohortref07_Names [] H Q := by kernel_rfl
  letI : Sy := sy0
  exact wpF_sound (Eq.mp e h)
/-- cohort/cohortref07.Known -/
def VC_cohortref07_Known (s0 : List UInt8) (H : AH) (Q : Value → AH → Prop) : Prop :=
  FW Ee F_cohortref07_Names [] H fun v H1 =>
    ∃ (r5a : Option Addr) (r5l : Nat) (r5c : Nat),
    v = .slice r5a r5l r5c ∧
    ∃ (Inv : Nat → Bool → Int → AH → Prop),
    (
      ∃ (n_1 : Nat),
      Inv n_1 false 0 H1) ∧
    ∀ (n : Nat),
    ∀ (t2 : Bool) (i4 : Int) (H2 : AH),
    Inv n t2 i4 H2 →
    cond (decide (i4 < (((r5l : Nat) : Int)))) (
      grd r5a.isSome (
        (0 : Int) ≤ i4 ∧
        (i4 : Int) < ((r5l : Nat) : Int) ∧
        ∃ (t15 : List UInt8),
        H2.cell ((adr r5a).block) ((adr r5a).off + (i4 : Int).toNat * 1) = some (.string ⟨⟨t15⟩⟩) ∧
        cond ((t15 : List UInt8) == s0) (
          Q (.bool true) H2) (
          ∀ (t11 : Int),
          t11 = IntKind.i64.wrap (i4 + 1) →
          ∃ (m : Nat),
          m < n ∧
          Inv m t2 t11 H2))) (
      Q (.bool false) H2)
set_option maxRecDepth 100000 in
theorem fw_cohortref07_Known {s0 : List UInt8} {H : AH} {Q : Value → AH → Prop} (h : VC_cohortref07_Known s0 H Q) : FW Ee F_cohortref07_Known [.string ⟨⟨s0⟩⟩] H Q := by
  have e : VC_cohortref07_Known s0 H Q = wpF Ee ⟨[], []⟩ F_cohortref07_Known [.string ⟨⟨s0⟩⟩] H Q := by kernel_rfl
  letI : Sy := sy0
  exact wpF_sound (Eq.mp e h)
/-- cohort/cohortref07.Check -/
def VC_cohortref07_Check (program0 : List UInt8) (g1a : Option Addr) (g1l : Nat) (g1c : Nat) (p2a : Option Addr) (p2l : Nat) (p2c : Nat) (H : AH) (Q : Value → AH → Prop) : Prop :=
  cond ((program0 : List UInt8) == [98, 102, 115]) (
    cond ((((p2l : Nat) : Int)) != 1) (
      Q (.int .i64 71) H) (
      grd p2a.isSome (
        (0 : Int) ≤ 0 ∧
        (0 : Int) < ((p2l : Nat) : Int) ∧
        ∃ (t24 : Int),
        H.cell ((adr p2a).block) ((adr p2a).off + (0 : Int).toNat * 1) = some (.int .i64 t24) ∧
        FW Ee F_cohortref03_Find [.slice g1a g1l g1c, .int .i64 t24] H fun v H1 =>
          ∃ (r25_0 : Int) (r25_1 : Bool),
          v = .tuple ⟨[.int .i64 r25_0, .bool r25_1]⟩ ∧
          cond (!r25_1) (
            Q (.int .i64 71) H1) (
            ∃ (Inv : Nat → Int → Int → AH → Prop),
            (
              ∃ (n_1 : Nat),
              Inv n_1 0 0 H1) ∧
            ∀ (n : Nat),
            ∀ (t6 : Int) (i10 : Int) (H2 : AH),
            Inv n t6 i10 H2 →
            cond (decide (i10 < (((g1l : Nat) : Int)))) (
              cond ((program0 : List UInt8) == [115, 115, 115, 112]) (
                ∃ (Inv_1 : Nat → Int → Int → AH → Prop),
                (
                  ∃ (n_3 : Nat),
                  Inv_1 n_3 t6 0 H2) ∧
                ∀ (n_2 : Nat),
                ∀ (t6_1 : Int) (k11 : Int) (H3 : AH),
                Inv_1 n_2 t6_1 k11 H3 →
                grd g1a.isSome (
                  (0 : Int) ≤ i10 ∧
                  (i10 : Int) < ((g1l : Nat) : Int) ∧
                  ∃ (t45a : Option Addr) (t45l : Nat) (t45c : Nat),
                  H3.cell ((adr g1a).block) ((adr g1a).off + (i10 : Int).toNat * 3 + 2) = some (.slice t45a t45l t45c) ∧
                  cond (decide (k11 < (((t45l : Nat) : Int)))) (
                    grd g1a.isSome (
                      (0 : Int) ≤ i10 ∧
                      (i10 : Int) < ((g1l : Nat) : Int) ∧
                      ∃ (t54a : Option Addr) (t54l : Nat) (t54c : Nat),
                      H3.cell ((adr g1a).block) ((adr g1a).off + (i10 : Int).toNat * 3 + 2) = some (.slice t54a t54l t54c) ∧
                      grd t54a.isSome (
                        (0 : Int) ≤ k11 ∧
                        (k11 : Int) < ((t54l : Nat) : Int) ∧
                        ∃ (t58 : Int),
                        H3.cell ((adr t54a).block) ((adr t54a).off + (k11 : Int).toNat * 2 + 1) = some (.int .i64 t58) ∧
                        cond (decide (t58 < 0)) (
                          Q (.int .i64 71) H3) (
                          ∀ (t49 : Int),
                          t49 = IntKind.i64.wrap (k11 + 1) →
                          ∃ (m_1 : Nat),
                          m_1 < n_2 ∧
                          Inv_1 m_1 t6_1 t49 H3)))) (
                    ∀ (t39 : Int),
                    t39 = IntKind.i64.wrap (i10 + 1) →
                    ∃ (m : Nat),
                    m < n ∧
                    Inv m t6_1 t39 H3))) (
                Q (.int .i64 0) H2)) (
              Q (.int .i64 0) H2))))) (
    cond ((program0 : List UInt8) == [115, 115, 115, 112]) (
      cond ((((p2l : Nat) : Int)) != 1) (
        Q (.int .i64 71) H) (
        grd p2a.isSome (
          (0 : Int) ≤ 0 ∧
          (0 : Int) < ((p2l : Nat) : Int) ∧
          ∃ (t24_1 : Int),
          H.cell ((adr p2a).block) ((adr p2a).off + (0 : Int).toNat * 1) = some (.int .i64 t24_1) ∧
          FW Ee F_cohortref03_Find [.slice g1a g1l g1c, .int .i64 t24_1] H fun v_1 H4 =>
            ∃ (r25_0_1 : Int) (r25_1_1 : Bool),
            v_1 = .tuple ⟨[.int .i64 r25_0_1, .bool r25_1_1]⟩ ∧
            cond (!r25_1_1) (
              Q (.int .i64 71) H4) (
              ∃ (Inv_2 : Nat → Int → Int → AH → Prop),
              (
                ∃ (n_5 : Nat),
                Inv_2 n_5 0 0 H4) ∧
              ∀ (n_4 : Nat),
              ∀ (t6_2 : Int) (i10_1 : Int) (H5 : AH),
              Inv_2 n_4 t6_2 i10_1 H5 →
              cond (decide (i10_1 < (((g1l : Nat) : Int)))) (
                cond ((program0 : List UInt8) == [115, 115, 115, 112]) (
                  ∃ (Inv_3 : Nat → Int → Int → AH → Prop),
                  (
                    ∃ (n_7 : Nat),
                    Inv_3 n_7 t6_2 0 H5) ∧
                  ∀ (n_6 : Nat),
                  ∀ (t6_3 : Int) (k11_1 : Int) (H6 : AH),
                  Inv_3 n_6 t6_3 k11_1 H6 →
                  grd g1a.isSome (
                    (0 : Int) ≤ i10_1 ∧
                    (i10_1 : Int) < ((g1l : Nat) : Int) ∧
                    ∃ (t45a_1 : Option Addr) (t45l_1 : Nat) (t45c_1 : Nat),
                    H6.cell ((adr g1a).block) ((adr g1a).off + (i10_1 : Int).toNat * 3 + 2) = some (.slice t45a_1 t45l_1 t45c_1) ∧
                    cond (decide (k11_1 < (((t45l_1 : Nat) : Int)))) (
                      grd g1a.isSome (
                        (0 : Int) ≤ i10_1 ∧
                        (i10_1 : Int) < ((g1l : Nat) : Int) ∧
                        ∃ (t54a_1 : Option Addr) (t54l_1 : Nat) (t54c_1 : Nat),
                        H6.cell ((adr g1a).block) ((adr g1a).off + (i10_1 : Int).toNat * 3 + 2) = some (.slice t54a_1 t54l_1 t54c_1) ∧
                        grd t54a_1.isSome (
                          (0 : Int) ≤ k11_1 ∧
                          (k11_1 : Int) < ((t54l_1 : Nat) : Int) ∧
                          ∃ (t58_1 : Int),
                          H6.cell ((adr t54a_1).block) ((adr t54a_1).off + (k11_1 : Int).toNat * 2 + 1) = some (.int .i64 t58_1) ∧
                          cond (decide (t58_1 < 0)) (
                            Q (.int .i64 71) H6) (
                            ∀ (t49_1 : Int),
                            t49_1 = IntKind.i64.wrap (k11_1 + 1) →
                            ∃ (m_3 : Nat),
                            m_3 < n_6 ∧
                            Inv_3 m_3 t6_3 t49_1 H6)))) (
                      ∀ (t39_1 : Int),
                      t39_1 = IntKind.i64.wrap (i10_1 + 1) →
                      ∃ (m_2 : Nat),
                      m_2 < n_4 ∧
                      Inv_2 m_2 t6_3 t39_1 H6))) (
                  Q (.int .i64 0) H5)) (
                Q (.int .i64 0) H5))))) (
      cond ((program0 : List UInt8) == [112, 97, 103, 101, 114, 97, 110, 107]) (
        cond ((((p2l : Nat) : Int)) != 1) (
          Q (.int .i64 71) H) (
          grd p2a.isSome (
            (0 : Int) ≤ 0 ∧
            (0 : Int) < ((p2l : Nat) : Int) ∧
            ∃ (t68 : Int),
            H.cell ((adr p2a).block) ((adr p2a).off + (0 : Int).toNat * 1) = some (.int .i64 t68) ∧
            cond (decide (t68 < 0)) (
              Q (.int .i64 71) H) (
              grd p2a.isSome (
                (0 : Int) ≤ 0 ∧
                (0 : Int) < ((p2l : Nat) : Int) ∧
                ∃ (t74 : Int),
                H.cell ((adr p2a).block) ((adr p2a).off + (0 : Int).toNat * 1) = some (.int .i64 t74) ∧
                cond (decide (t74 > 100)) (
                  Q (.int .i64 71) H) (
                  Q (.int .i64 0) H)))))) (
        cond ((program0 : List UInt8) == [108, 97, 98, 101, 108, 115]) (
          cond ((((p2l : Nat) : Int)) != 1) (
            Q (.int .i64 71) H) (
            grd p2a.isSome (
              (0 : Int) ≤ 0 ∧
              (0 : Int) < ((p2l : Nat) : Int) ∧
              ∃ (t68_1 : Int),
              H.cell ((adr p2a).block) ((adr p2a).off + (0 : Int).toNat * 1) = some (.int .i64 t68_1) ∧
              cond (decide (t68_1 < 0)) (
                Q (.int .i64 71) H) (
                grd p2a.isSome (
                  (0 : Int) ≤ 0 ∧
                  (0 : Int) < ((p2l : Nat) : Int) ∧
                  ∃ (t74_1 : Int),
                  H.cell ((adr p2a).block) ((adr p2a).off + (0 : Int).toNat * 1) = some (.int .i64 t74_1) ∧
                  cond (decide (t74_1 > 100)) (
                    Q (.int .i64 71) H) (
                    Q (.int .i64 0) H)))))) (
          cond ((program0 : List UInt8) == [107, 99, 111, 114, 101]) (
            cond ((((p2l : Nat) : Int)) != 1) (
              Q (.int .i64 71) H) (
              grd p2a.isSome (
                (0 : Int) ≤ 0 ∧
                (0 : Int) < ((p2l : Nat) : Int) ∧
                ∃ (t84 : Int),
                H.cell ((adr p2a).block) ((adr p2a).off + (0 : Int).toNat * 1) = some (.int .i64 t84) ∧
                cond (decide (t84 < 0)) (
                  Q (.int .i64 71) H) (
                  grd p2a.isSome (
                    (0 : Int) ≤ 0 ∧
                    (0 : Int) < ((p2l : Nat) : Int) ∧
                    ∃ (t90 : Int),
                    H.cell ((adr p2a).block) ((adr p2a).off + (0 : Int).toNat * 1) = some (.int .i64 t90) ∧
                    cond (decide (t90 > 256)) (
                      Q (.int .i64 71) H) (
                      Q (.int .i64 0) H)))))) (
            FW Ee F_cohortref07_Known [.string ⟨⟨program0⟩⟩] H fun v_2 H7 =>
              ∃ (r94 : Bool),
              v_2 = .bool r94 ∧
              cond (!r94) (
                Q (.int .i64 70) H7) (
                cond ((((p2l : Nat) : Int)) != 0) (
                  Q (.int .i64 71) H7) (
                  Q (.int .i64 0) H7)))))))
set_option maxRecDepth 100000 in
theorem fw_cohortref07_Check {program0 : List UInt8} {g1a : Option Addr} {g1l : Nat} {g1c : Nat} {p2a : Option Addr} {p2l : Nat} {p2c : Nat} {H : AH} {Q : Value → AH → Prop} (h : VC_cohortref07_Check program0 g1a g1l g1c p2a p2l p2c H Q) : FW Ee F_cohortref07_Check [.string ⟨⟨program0⟩⟩, .slice g1a g1l g1c, .slice p2a p2l p2c] H Q := by
  have e : VC_cohortref07_Check program0 g1a g1l g1c p2a p2l p2c H Q = wpF Ee ⟨[], []⟩ F_cohortref07_Check [.string ⟨⟨program0⟩⟩, .slice g1a g1l g1c, .slice p2a p2l p2c] H Q := by kernel_rfl
  letI : Sy := sy0
  exact wpF_sound (Eq.mp e h)
/-- cohort/run.Check -/
def VC_run_Check (j0_Program : List UInt8) (j0_Graph_Verticesa : Option Addr) (j0_Graph_Verticesl : Nat) (j0_Graph_Verticesc : Nat) (j0_Paramsa : Option Addr) (j0_Paramsl : Nat) (j0_Paramsc : Nat) (j0_Steps : Int) (j0_Sent : Int) (j0_Parts : Int) (H : AH) (Q : Value → AH → Prop) : Prop :=
  ∀ (H1 : AH),
  H1 = H.new (.cells [.string ⟨⟨j0_Program⟩⟩, .slice j0_Graph_Verticesa j0_Graph_Verticesl j0_Graph_Verticesc, .slice j0_Paramsa j0_Paramsl j0_Paramsc, .int .i64 j0_Steps, .int .i64 j0_Sent, .int .i64 j0_Parts] 0) →
  ∃ (t6 : List UInt8),
  H1.cell H.next 0 = some (.string ⟨⟨t6⟩⟩) ∧
  FW Ee F_more_Known [.string ⟨⟨t6⟩⟩] H1 fun v H2 =>
    ∃ (r7 : Bool),
    v = .bool r7 ∧
    cond (!r7) (
      Q (.int .i64 70) H2) (
      ∃ (t10_Verticesa : Option Addr) (t10_Verticesl : Nat) (t10_Verticesc : Nat),
      H2.cell H.next (1 + 0) = some (.slice t10_Verticesa t10_Verticesl t10_Verticesc) ∧
      FW Ee F_graph_Check [.agg ⟨[.slice t10_Verticesa t10_Verticesl t10_Verticesc]⟩] H2 fun v_1 H3 =>
        ∃ (r11 : Int),
        v_1 = .int .i64 r11 ∧
        cond (r11 != 0) (
          Q (.int .i64 r11) H3) (
          ∃ (t16a : Option Addr) (t16l : Nat) (t16c : Nat),
          H3.cell H.next 2 = some (.slice t16a t16l t16c) ∧
          cond (decide ((((t16l : Nat) : Int)) > 4)) (
            Q (.int .i64 71) H3) (
            ∃ (t20 : List UInt8),
            H3.cell H.next 0 = some (.string ⟨⟨t20⟩⟩) ∧
            ∃ (t22_Verticesa : Option Addr) (t22_Verticesl : Nat) (t22_Verticesc : Nat),
            H3.cell H.next (1 + 0) = some (.slice t22_Verticesa t22_Verticesl t22_Verticesc) ∧
            ∃ (t24a : Option Addr) (t24l : Nat) (t24c : Nat),
            H3.cell H.next 2 = some (.slice t24a t24l t24c) ∧
            FW Ee F_more_Check [.string ⟨⟨t20⟩⟩, .agg ⟨[.slice t22_Verticesa t22_Verticesl t22_Verticesc]⟩, .slice t24a t24l t24c] H3 fun v_2 H4 =>
              ∃ (r25 : Int),
              v_2 = .int .i64 r25 ∧
              cond (r25 != 0) (
                Q (.int .i64 r25) H4) (
                ∃ (t30 : Int),
                H4.cell H.next 3 = some (.int .i64 t30) ∧
                cond (decide (t30 < 1)) (
                  Q (.int .i64 90) H4) (
                  ∃ (t34 : Int),
                  H4.cell H.next 3 = some (.int .i64 t34) ∧
                  cond (decide (t34 > 1000)) (
                    Q (.int .i64 90) H4) (
                    ∃ (t39 : Int),
                    H4.cell H.next 4 = some (.int .i64 t39) ∧
                    cond (decide (t39 < 0)) (
                      Q (.int .i64 90) H4) (
                      ∃ (t44 : Int),
                      H4.cell H.next 4 = some (.int .i64 t44) ∧
                      cond (decide (t44 > 65536)) (
                        Q (.int .i64 90) H4) (
                        ∃ (t49 : Int),
                        H4.cell H.next 5 = some (.int .i64 t49) ∧
                        cond (decide (t49 < 1)) (
                          Q (.int .i64 90) H4) (
                          ∃ (t54 : Int),
                          H4.cell H.next 5 = some (.int .i64 t54) ∧
                          cond (decide (t54 > 16)) (
                            Q (.int .i64 90) H4) (
                            Q (.int .i64 0) H4))))))))))
set_option maxRecDepth 100000 in
theorem fw_run_Check {j0_Program : List UInt8} {j0_Graph_Verticesa : Option Addr} {j0_Graph_Verticesl : Nat} {j0_Graph_Verticesc : Nat} {j0_Paramsa : Option Addr} {j0_Paramsl : Nat} {j0_Paramsc : Nat} {j0_Steps : Int} {j0_Sent : Int} {j0_Parts : Int} {H : AH} {Q : Value → AH → Prop} (h : VC_run_Check j0_Program j0_Graph_Verticesa j0_Graph_Verticesl j0_Graph_Verticesc j0_Paramsa j0_Paramsl j0_Paramsc j0_Steps j0_Sent j0_Parts H Q) : FW Ee F_run_Check [.agg ⟨[.string ⟨⟨j0_Program⟩⟩, .slice j0_Graph_Verticesa j0_Graph_Verticesl j0_Graph_Verticesc, .slice j0_Paramsa j0_Paramsl j0_Paramsc, .int .i64 j0_Steps, .int .i64 j0_Sent, .int .i64 j0_Parts]⟩] H Q := by
  have e : VC_run_Check j0_Program j0_Graph_Verticesa j0_Graph_Verticesl j0_Graph_Verticesc j0_Paramsa j0_Paramsl j0_Paramsc j0_Steps j0_Sent j0_Parts H Q = wpF Ee ⟨[], []⟩ F_run_Check [.agg ⟨[.string ⟨⟨j0_Program⟩⟩, .slice j0_Graph_Verticesa j0_Graph_Verticesl j0_Graph_Verticesc, .slice j0_Paramsa j0_Paramsl j0_Paramsc, .int .i64 j0_Steps, .int .i64 j0_Sent, .int .i64 j0_Parts]⟩] H Q := by kernel_rfl
  letI : Sy := sy0
  exact wpF_sound (Eq.mp e h)
/-- cohort/cohortref09.Check -/
def VC_cohortref09_Check (j0_Program : List UInt8) (j0_Grapha : Option Addr) (j0_Graphl : Nat) (j0_Graphc : Nat) (j0_Paramsa : Option Addr) (j0_Paramsl : Nat) (j0_Paramsc : Nat) (j0_Steps : Int) (j0_Sent : Int) (j0_Parts : Int) (H : AH) (Q : Value → AH → Prop) : Prop :=
  ∀ (H1 : AH),
  H1 = H.new (.cells [.string ⟨⟨j0_Program⟩⟩, .slice j0_Grapha j0_Graphl j0_Graphc, .slice j0_Paramsa j0_Paramsl j0_Paramsc, .int .i64 j0_Steps, .int .i64 j0_Sent, .int .i64 j0_Parts] 0) →
  ∃ (t6 : List UInt8),
  H1.cell H.next 0 = some (.string ⟨⟨t6⟩⟩) ∧
  FW Ee F_cohortref07_Known [.string ⟨⟨t6⟩⟩] H1 fun v H2 =>
    ∃ (r7 : Bool),
    v = .bool r7 ∧
    cond (!r7) (
      Q (.int .i64 70) H2) (
      ∃ (t10a : Option Addr) (t10l : Nat) (t10c : Nat),
      H2.cell H.next 1 = some (.slice t10a t10l t10c) ∧
      FW Ee F_cohortref03_Check [.slice t10a t10l t10c] H2 fun v_1 H3 =>
        ∃ (r11 : Int),
        v_1 = .int .i64 r11 ∧
        cond (r11 != 0) (
          Q (.int .i64 r11) H3) (
          ∃ (t16a : Option Addr) (t16l : Nat) (t16c : Nat),
          H3.cell H.next 2 = some (.slice t16a t16l t16c) ∧
          cond (decide ((((t16l : Nat) : Int)) > 4)) (
            Q (.int .i64 71) H3) (
            ∃ (t20 : List UInt8),
            H3.cell H.next 0 = some (.string ⟨⟨t20⟩⟩) ∧
            ∃ (t22a : Option Addr) (t22l : Nat) (t22c : Nat),
            H3.cell H.next 1 = some (.slice t22a t22l t22c) ∧
            ∃ (t24a : Option Addr) (t24l : Nat) (t24c : Nat),
            H3.cell H.next 2 = some (.slice t24a t24l t24c) ∧
            FW Ee F_cohortref07_Check [.string ⟨⟨t20⟩⟩, .slice t22a t22l t22c, .slice t24a t24l t24c] H3 fun v_2 H4 =>
              ∃ (r25 : Int),
              v_2 = .int .i64 r25 ∧
              cond (r25 != 0) (
                Q (.int .i64 r25) H4) (
                ∃ (t30 : Int),
                H4.cell H.next 3 = some (.int .i64 t30) ∧
                cond (decide (t30 < 1)) (
                  Q (.int .i64 90) H4) (
                  ∃ (t34 : Int),
                  H4.cell H.next 3 = some (.int .i64 t34) ∧
                  cond (decide (t34 > 1000)) (
                    Q (.int .i64 90) H4) (
                    ∃ (t39 : Int),
                    H4.cell H.next 4 = some (.int .i64 t39) ∧
                    cond (decide (t39 < 0)) (
                      Q (.int .i64 90) H4) (
                      ∃ (t44 : Int),
                      H4.cell H.next 4 = some (.int .i64 t44) ∧
                      cond (decide (t44 > 65536)) (
                        Q (.int .i64 90) H4) (
                        ∃ (t49 : Int),
                        H4.cell H.next 5 = some (.int .i64 t49) ∧
                        cond (decide (t49 < 1)) (
                          Q (.int .i64 90) H4) (
                          ∃ (t54 : Int),
                          H4.cell H.next 5 = some (.int .i64 t54) ∧
                          cond (decide (t54 > 16)) (
                            Q (.int .i64 90) H4) (
                            Q (.int .i64 0) H4))))))))))
set_option maxRecDepth 100000 in
theorem fw_cohortref09_Check {j0_Program : List UInt8} {j0_Grapha : Option Addr} {j0_Graphl : Nat} {j0_Graphc : Nat} {j0_Paramsa : Option Addr} {j0_Paramsl : Nat} {j0_Paramsc : Nat} {j0_Steps : Int} {j0_Sent : Int} {j0_Parts : Int} {H : AH} {Q : Value → AH → Prop} (h : VC_cohortref09_Check j0_Program j0_Grapha j0_Graphl j0_Graphc j0_Paramsa j0_Paramsl j0_Paramsc j0_Steps j0_Sent j0_Parts H Q) : FW Ee F_cohortref09_Check [.agg ⟨[.string ⟨⟨j0_Program⟩⟩, .slice j0_Grapha j0_Graphl j0_Graphc, .slice j0_Paramsa j0_Paramsl j0_Paramsc, .int .i64 j0_Steps, .int .i64 j0_Sent, .int .i64 j0_Parts]⟩] H Q := by
  have e : VC_cohortref09_Check j0_Program j0_Grapha j0_Graphl j0_Graphc j0_Paramsa j0_Paramsl j0_Paramsc j0_Steps j0_Sent j0_Parts H Q = wpF Ee ⟨[], []⟩ F_cohortref09_Check [.agg ⟨[.string ⟨⟨j0_Program⟩⟩, .slice j0_Grapha j0_Graphl j0_Graphc, .slice j0_Paramsa j0_Paramsl j0_Paramsc, .int .i64 j0_Steps, .int .i64 j0_Sent, .int .i64 j0_Parts]⟩] H Q := by kernel_rfl
  letI : Sy := sy0
  exact wpF_sound (Eq.mp e h)
/-- cohort/cohortlaw09.Ref -/
def VC_cohortlaw09_Ref (j0_Program : List UInt8) (j0_Graph_Verticesa : Option Addr) (j0_Graph_Verticesl : Nat) (j0_Graph_Verticesc : Nat) (j0_Paramsa : Option Addr) (j0_Paramsl : Nat) (j0_Paramsc : Nat) (j0_Steps : Int) (j0_Sent : Int) (j0_Parts : Int) (H : AH) (Q : Value → AH → Prop) : Prop :=
  ∀ (H1 : AH),
  H1 = H.new (.cells [.string ⟨⟨j0_Program⟩⟩, .slice j0_Graph_Verticesa j0_Graph_Verticesl j0_Graph_Verticesc, .slice j0_Paramsa j0_Paramsl j0_Paramsc, .int .i64 j0_Steps, .int .i64 j0_Sent, .int .i64 j0_Parts] 0) →
  ∀ (H2 : AH),
  H2 = H1.new (.cells [.string ⟨⟨[]⟩⟩, .slice none 0 0, .slice none 0 0, .int .i64 0, .int .i64 0, .int .i64 0] 0) →
  ∃ (t4 : List UInt8),
  H2.cell H.next 0 = some (.string ⟨⟨t4⟩⟩) ∧
  ∃ (t6_Verticesa : Option Addr) (t6_Verticesl : Nat) (t6_Verticesc : Nat),
  H2.cell H.next (1 + 0) = some (.slice t6_Verticesa t6_Verticesl t6_Verticesc) ∧
  FW Ee F_cohortlaw03_Ref [.agg ⟨[.slice t6_Verticesa t6_Verticesl t6_Verticesc]⟩] H2 fun v H3 =>
    ∃ (r7a : Option Addr) (r7l : Nat) (r7c : Nat),
    v = .slice r7a r7l r7c ∧
    ∃ (t9a : Option Addr) (t9l : Nat) (t9c : Nat),
    H3.cell H.next 2 = some (.slice t9a t9l t9c) ∧
    ∃ (t11 : Int),
    H3.cell H.next 3 = some (.int .i64 t11) ∧
    ∃ (t13 : Int),
    H3.cell H.next 4 = some (.int .i64 t13) ∧
    ∃ (t15 : Int),
    H3.cell H.next 5 = some (.int .i64 t15) ∧
    ∃ (H4 : AH),
    storeCellsv H3 H1.next 0 [.string ⟨⟨t4⟩⟩, .slice r7a r7l r7c, .slice t9a t9l t9c, .int .i64 t11, .int .i64 t13, .int .i64 t15] = some H4 ∧
    H2.cell H.next 5 = some (.int .i64 t15) ∧
    H2.cell H.next 4 = some (.int .i64 t13) ∧
    H2.cell H.next 3 = some (.int .i64 t11) ∧
    H2.cell H.next 2 = some (.slice t9a t9l t9c) ∧
    H3.cell H.next 0 = some (.string ⟨⟨t4⟩⟩) ∧
    ∃ (r2_Program : List UInt8) (r2_Grapha : Option Addr) (r2_Graphl : Nat) (r2_Graphc : Nat) (r2_Paramsa : Option Addr) (r2_Paramsl : Nat) (r2_Paramsc : Nat) (r2_Steps : Int) (r2_Sent : Int) (r2_Parts : Int),
    H4.cell H1.next (0 + 0) = some (.string ⟨⟨r2_Program⟩⟩) ∧
    H4.cell H1.next (0 + 1) = some (.slice r2_Grapha r2_Graphl r2_Graphc) ∧
    H4.cell H1.next (0 + 2) = some (.slice r2_Paramsa r2_Paramsl r2_Paramsc) ∧
    H4.cell H1.next (0 + 3) = some (.int .i64 r2_Steps) ∧
    H4.cell H1.next (0 + 4) = some (.int .i64 r2_Sent) ∧
    H4.cell H1.next (0 + 5) = some (.int .i64 r2_Parts) ∧
    Q (.agg ⟨[.string ⟨⟨r2_Program⟩⟩, .slice r2_Grapha r2_Graphl r2_Graphc, .slice r2_Paramsa r2_Paramsl r2_Paramsc, .int .i64 r2_Steps, .int .i64 r2_Sent, .int .i64 r2_Parts]⟩) H4
set_option maxRecDepth 100000 in
theorem fw_cohortlaw09_Ref {j0_Program : List UInt8} {j0_Graph_Verticesa : Option Addr} {j0_Graph_Verticesl : Nat} {j0_Graph_Verticesc : Nat} {j0_Paramsa : Option Addr} {j0_Paramsl : Nat} {j0_Paramsc : Nat} {j0_Steps : Int} {j0_Sent : Int} {j0_Parts : Int} {H : AH} {Q : Value → AH → Prop} (h : VC_cohortlaw09_Ref j0_Program j0_Graph_Verticesa j0_Graph_Verticesl j0_Graph_Verticesc j0_Paramsa j0_Paramsl j0_Paramsc j0_Steps j0_Sent j0_Parts H Q) : FW Ee F_cohortlaw09_Ref [.agg ⟨[.string ⟨⟨j0_Program⟩⟩, .slice j0_Graph_Verticesa j0_Graph_Verticesl j0_Graph_Verticesc, .slice j0_Paramsa j0_Paramsl j0_Paramsc, .int .i64 j0_Steps, .int .i64 j0_Sent, .int .i64 j0_Parts]⟩] H Q := by
  have e : VC_cohortlaw09_Ref j0_Program j0_Graph_Verticesa j0_Graph_Verticesl j0_Graph_Verticesc j0_Paramsa j0_Paramsl j0_Paramsc j0_Steps j0_Sent j0_Parts H Q = wpF Ee ⟨[], []⟩ F_cohortlaw09_Ref [.agg ⟨[.string ⟨⟨j0_Program⟩⟩, .slice j0_Graph_Verticesa j0_Graph_Verticesl j0_Graph_Verticesc, .slice j0_Paramsa j0_Paramsl j0_Paramsc, .int .i64 j0_Steps, .int .i64 j0_Sent, .int .i64 j0_Parts]⟩] H Q := by kernel_rfl
  letI : Sy := sy0
  exact wpF_sound (Eq.mp e h)
/-- cohort/run.PutJob -/
def VC_run_PutJob (w0b : Nat) (j1_Program : List UInt8) (j1_Graph_Verticesa : Option Addr) (j1_Graph_Verticesl : Nat) (j1_Graph_Verticesc : Nat) (j1_Paramsa : Option Addr) (j1_Paramsl : Nat) (j1_Paramsc : Nat) (j1_Steps : Int) (j1_Sent : Int) (j1_Parts : Int) (H : AH) (Q : Value → AH → Prop) : Prop :=
  ∀ (H1 : AH),
  H1 = H.new (.cells [.string ⟨⟨j1_Program⟩⟩, .slice j1_Graph_Verticesa j1_Graph_Verticesl j1_Graph_Verticesc, .slice j1_Paramsa j1_Paramsl j1_Paramsc, .int .i64 j1_Steps, .int .i64 j1_Sent, .int .i64 j1_Parts] 0) →
  ∃ (t8 : List UInt8),
  H1.cell H.next 0 = some (.string ⟨⟨t8⟩⟩) ∧
  FW Ee F_wire_Writer_Text [.pointer (some ⟨w0b, 0, none⟩), .string ⟨⟨t8⟩⟩] H1 fun v H2 =>
    v = .tuple ⟨[]⟩ ∧
    ∃ (t12_Verticesa : Option Addr) (t12_Verticesl : Nat) (t12_Verticesc : Nat),
    H2.cell H.next (1 + 0) = some (.slice t12_Verticesa t12_Verticesl t12_Verticesc) ∧
    FW Ee F_graph_Put [.pointer (some ⟨w0b, 0, none⟩), .agg ⟨[.slice t12_Verticesa t12_Verticesl t12_Verticesc]⟩] H2 fun v_1 H3 =>
      v_1 = .tuple ⟨[]⟩ ∧
      ∃ (t16a : Option Addr) (t16l : Nat) (t16c : Nat),
      H3.cell H.next 2 = some (.slice t16a t16l t16c) ∧
      FW Ee F_wire_Writer_Count [.pointer (some ⟨w0b, 0, none⟩), .int .i64 (((t16l : Nat) : Int))] H3 fun v_2 H4 =>
        v_2 = .tuple ⟨[]⟩ ∧
        ∃ (t20a : Option Addr) (t20l : Nat) (t20c : Nat),
        H4.cell H.next 2 = some (.slice t20a t20l t20c) ∧
        ∃ (Inv : Nat → Int → AH → Prop),
        (
          ∃ (n_1 : Nat),
          Inv n_1 0 H4) ∧
        ∀ (n : Nat),
        ∀ (t22 : Int) (H5 : AH),
        Inv n t22 H5 →
        cond (decide (t22 < (((t20l : Nat) : Int)))) (
          grd t20a.isSome (
            (0 : Int) ≤ t22 ∧
            (t22 : Int) < ((t20l : Nat) : Int) ∧
            ∃ (t25 : Int),
            H5.cell ((adr t20a).block) ((adr t20a).off + (t22 : Int).toNat * 1) = some (.int .i64 t25) ∧
            FW Ee F_wire_Writer_Signed [.pointer (some ⟨w0b, 0, none⟩), .int .i64 t25] H5 fun v_3 H6 =>
              v_3 = .tuple ⟨[]⟩ ∧
              ∀ (t29 : Int),
              t29 = IntKind.i64.wrap (t22 + 1) →
              ∃ (m : Nat),
              m < n ∧
              Inv m t29 H6)) (
          ∃ (t32 : Int),
          H5.cell H.next 3 = some (.int .i64 t32) ∧
          FW Ee F_wire_Writer_Count [.pointer (some ⟨w0b, 0, none⟩), .int .i64 t32] H5 fun v_4 H7 =>
            v_4 = .tuple ⟨[]⟩ ∧
            ∃ (t36 : Int),
            H7.cell H.next 4 = some (.int .i64 t36) ∧
            FW Ee F_wire_Writer_Count [.pointer (some ⟨w0b, 0, none⟩), .int .i64 t36] H7 fun v_5 H8 =>
              v_5 = .tuple ⟨[]⟩ ∧
              ∃ (t40 : Int),
              H8.cell H.next 5 = some (.int .i64 t40) ∧
              FW Ee F_wire_Writer_Count [.pointer (some ⟨w0b, 0, none⟩), .int .i64 t40] H8 fun v_6 H9 =>
                v_6 = .tuple ⟨[]⟩ ∧
                Q (.tuple ⟨[]⟩) H9)
set_option maxRecDepth 100000 in
theorem fw_run_PutJob {w0b : Nat} {j1_Program : List UInt8} {j1_Graph_Verticesa : Option Addr} {j1_Graph_Verticesl : Nat} {j1_Graph_Verticesc : Nat} {j1_Paramsa : Option Addr} {j1_Paramsl : Nat} {j1_Paramsc : Nat} {j1_Steps : Int} {j1_Sent : Int} {j1_Parts : Int} {H : AH} {Q : Value → AH → Prop} (h : VC_run_PutJob w0b j1_Program j1_Graph_Verticesa j1_Graph_Verticesl j1_Graph_Verticesc j1_Paramsa j1_Paramsl j1_Paramsc j1_Steps j1_Sent j1_Parts H Q) : FW Ee F_run_PutJob [.pointer (some ⟨w0b, 0, none⟩), .agg ⟨[.string ⟨⟨j1_Program⟩⟩, .slice j1_Graph_Verticesa j1_Graph_Verticesl j1_Graph_Verticesc, .slice j1_Paramsa j1_Paramsl j1_Paramsc, .int .i64 j1_Steps, .int .i64 j1_Sent, .int .i64 j1_Parts]⟩] H Q := by
  have e : VC_run_PutJob w0b j1_Program j1_Graph_Verticesa j1_Graph_Verticesl j1_Graph_Verticesc j1_Paramsa j1_Paramsl j1_Paramsc j1_Steps j1_Sent j1_Parts H Q = wpF Ee ⟨[], []⟩ F_run_PutJob [.pointer (some ⟨w0b, 0, none⟩), .agg ⟨[.string ⟨⟨j1_Program⟩⟩, .slice j1_Graph_Verticesa j1_Graph_Verticesl j1_Graph_Verticesc, .slice j1_Paramsa j1_Paramsl j1_Paramsc, .int .i64 j1_Steps, .int .i64 j1_Sent, .int .i64 j1_Parts]⟩] H Q := by kernel_rfl
  letI : Sy := sy0
  exact wpF_sound (Eq.mp e h)
/-- cohort/run.TakeJob -/
def VC_run_TakeJob (r0b : Nat) (H : AH) (Q : Value → AH → Prop) : Prop :=
  ∀ (H1 : AH),
  H1 = H.new (.cells [.string ⟨⟨[]⟩⟩, .slice none 0 0, .slice none 0 0, .int .i64 0, .int .i64 0, .int .i64 0] 0) →
  FW Ee F_wire_Reader_Text [.pointer (some ⟨r0b, 0, none⟩)] H1 fun v H2 =>
    ∃ (r6 : List UInt8),
    v = .string ⟨⟨r6⟩⟩ ∧
    FW Ee F_graph_Take [.pointer (some ⟨r0b, 0, none⟩)] H2 fun v_1 H3 =>
      ∃ (r8_Verticesa : Option Addr) (r8_Verticesl : Nat) (r8_Verticesc : Nat),
      v_1 = .agg ⟨[.slice r8_Verticesa r8_Verticesl r8_Verticesc]⟩ ∧
      ∀ (H4 : AH),
      H4 = H3.new (.cells [.string ⟨⟨[]⟩⟩, .slice none 0 0, .slice none 0 0, .int .i64 0, .int .i64 0, .int .i64 0] 0) →
      ∃ (H5 : AH),
      storeCellsv H4 H3.next 0 [.string ⟨⟨r6⟩⟩, .slice r8_Verticesa r8_Verticesl r8_Verticesc, .slice none 0 0, .int .i64 0, .int .i64 0, .int .i64 0] = some H5 ∧
      FW Ee F_wire_Reader_Count [.pointer (some ⟨r0b, 0, none⟩), .int .i64 4] H5 fun v_2 H6 =>
        ∃ (r11 : Int),
        v_2 = .int .i64 r11 ∧
        ∃ (J_1 : Int → AH → Prop),
        (
          ∃ (Inv : Nat → Int → AH → Prop),
          (
            ∃ (n_1 : Nat),
            Inv n_1 r11 H6) ∧
          ∀ (n : Nat),
          ∀ (n4 : Int) (H7 : AH),
          Inv n n4 H7 →
          cond (decide (n4 > 0)) (
            FW Ee F_wire_Reader_Err [.pointer (some ⟨r0b, 0, none⟩)] H7 fun v_3 H8 =>
              ∃ (r16 : Int),
              v_3 = .int .i64 r16 ∧
              cond (r16 == 0) (
                ∃ (t22a : Option Addr) (t22l : Nat) (t22c : Nat),
                H8.cell H3.next 2 = some (.slice t22a t22l t22c) ∧
                FW Ee F_wire_Reader_Signed [.pointer (some ⟨r0b, 0, none⟩)] H8 fun v_4 H9 =>
                  ∃ (r24 : Int),
                  v_4 = .int .i64 r24 ∧
                  ∀ (H10 : AH),
                  H10 = H9.new (.cells [.int .i64 r24] 0) →
                  ∃ (t26a : Option Addr) (t26l : Nat) (t26c : Nat) (H11 : AH),
                  apnd H10 1 8 t22a t22l t22c (.slice (some ⟨H9.next, 0, none⟩) 1 2) = some (.slice t26a t26l t26c, H11) ∧
                  ∃ (H12 : AH),
                  storeCellsv H11 H3.next 2 [.slice t26a t26l t26c] = some H12 ∧
                  H10.cell H3.next 2 = some (.slice t22a t22l t22c) ∧
                  ∀ (t20 : Int),
                  t20 = IntKind.i64.wrap (n4 - 1) →
                  ∃ (m : Nat),
                  m < n ∧
                  Inv m t20 H12) (
                J_1 n4 H8)) (
            J_1 n4 H7)) ∧
        ∀ (n4_1 : Int) (H13 : AH),
        J_1 n4_1 H13 →
        FW Ee F_wire_Reader_Count [.pointer (some ⟨r0b, 0, none⟩), .int .i64 1000] H13 fun v_5 H14 =>
          ∃ (r29 : Int),
          v_5 = .int .i64 r29 ∧
          FW Ee F_wire_Reader_Count [.pointer (some ⟨r0b, 0, none⟩), .int .i64 65536] H14 fun v_6 H15 =>
            ∃ (r31 : Int),
            v_6 = .int .i64 r31 ∧
            FW Ee F_wire_Reader_Count [.pointer (some ⟨r0b, 0, none⟩), .int .i64 16] H15 fun v_7 H16 =>
              ∃ (r33 : Int),
              v_7 = .int .i64 r33 ∧
              ∃ (H17 : AH),
              storeCellsv H16 H3.next 3 [.int .i64 r29] = some H17 ∧
              ∃ (H18 : AH),
              storeCellsv H17 H3.next 4 [.int .i64 r31] = some H18 ∧
              ∃ (H19 : AH),
              storeCellsv H18 H3.next 5 [.int .i64 r33] = some H19 ∧
              FW Ee F_wire_Reader_Err [.pointer (some ⟨r0b, 0, none⟩)] H19 fun v_8 H20 =>
                ∃ (r38 : Int),
                v_8 = .int .i64 r38 ∧
                cond (r38 == 0) (
                  ∃ (t41_Program : List UInt8) (t41_Graph_Verticesa : Option Addr) (t41_Graph_Verticesl : Nat) (t41_Graph_Verticesc : Nat) (t41_Paramsa : Option Addr) (t41_Paramsl : Nat) (t41_Paramsc : Nat) (t41_Steps : Int) (t41_Sent : Int) (t41_Parts : Int),
                  H20.cell H3.next (0 + 0) = some (.string ⟨⟨t41_Program⟩⟩) ∧
                  H20.cell H3.next (0 + 1) = some (.slice t41_Graph_Verticesa t41_Graph_Verticesl t41_Graph_Verticesc) ∧
                  H20.cell H3.next (0 + 2) = some (.slice t41_Paramsa t41_Paramsl t41_Paramsc) ∧
                  H20.cell H3.next (0 + 3) = some (.int .i64 t41_Steps) ∧
                  H20.cell H3.next (0 + 4) = some (.int .i64 t41_Sent) ∧
                  H20.cell H3.next (0 + 5) = some (.int .i64 t41_Parts) ∧
                  FW Ee F_run_Check [.agg ⟨[.string ⟨⟨t41_Program⟩⟩, .slice t41_Graph_Verticesa t41_Graph_Verticesl t41_Graph_Verticesc, .slice t41_Paramsa t41_Paramsl t41_Paramsc, .int .i64 t41_Steps, .int .i64 t41_Sent, .int .i64 t41_Parts]⟩] H20 fun v_9 H21 =>
                    ∃ (r42 : Int),
                    v_9 = .int .i64 r42 ∧
                    FW Ee F_wire_Reader_Fail [.pointer (some ⟨r0b, 0, none⟩), .int .i64 r42] H21 fun v_10 H22 =>
                      v_10 = .tuple ⟨[]⟩ ∧
                      ∃ (t44_Program : List UInt8) (t44_Graph_Verticesa : Option Addr) (t44_Graph_Verticesl : Nat) (t44_Graph_Verticesc : Nat) (t44_Paramsa : Option Addr) (t44_Paramsl : Nat) (t44_Paramsc : Nat) (t44_Steps : Int) (t44_Sent : Int) (t44_Parts : Int),
                      H22.cell H3.next (0 + 0) = some (.string ⟨⟨t44_Program⟩⟩) ∧
                      H22.cell H3.next (0 + 1) = some (.slice t44_Graph_Verticesa t44_Graph_Verticesl t44_Graph_Verticesc) ∧
                      H22.cell H3.next (0 + 2) = some (.slice t44_Paramsa t44_Paramsl t44_Paramsc) ∧
                      H22.cell H3.next (0 + 3) = some (.int .i64 t44_Steps) ∧
                      H22.cell H3.next (0 + 4) = some (.int .i64 t44_Sent) ∧
                      H22.cell H3.next (0 + 5) = some (.int .i64 t44_Parts) ∧
                      ∃ (H23 : AH),
                      storeCellsv H22 H.next 0 [.string ⟨⟨t44_Program⟩⟩, .slice t44_Graph_Verticesa t44_Graph_Verticesl t44_Graph_Verticesc, .slice t44_Paramsa t44_Paramsl t44_Paramsc, .int .i64 t44_Steps, .int .i64 t44_Sent, .int .i64 t44_Parts] = some H23 ∧
                      ∃ (r2_Program : List UInt8) (r2_Graph_Verticesa : Option Addr) (r2_Graph_Verticesl : Nat) (r2_Graph_Verticesc : Nat) (r2_Paramsa : Option Addr) (r2_Paramsl : Nat) (r2_Paramsc : Nat) (r2_Steps : Int) (r2_Sent : Int) (r2_Parts : Int),
                      H23.cell H.next (0 + 0) = some (.string ⟨⟨r2_Program⟩⟩) ∧
                      H23.cell H.next (0 + 1) = some (.slice r2_Graph_Verticesa r2_Graph_Verticesl r2_Graph_Verticesc) ∧
                      H23.cell H.next (0 + 2) = some (.slice r2_Paramsa r2_Paramsl r2_Paramsc) ∧
                      H23.cell H.next (0 + 3) = some (.int .i64 r2_Steps) ∧
                      H23.cell H.next (0 + 4) = some (.int .i64 r2_Sent) ∧
                      H23.cell H.next (0 + 5) = some (.int .i64 r2_Parts) ∧
                      Q (.agg ⟨[.string ⟨⟨r2_Program⟩⟩, .slice r2_Graph_Verticesa r2_Graph_Verticesl r2_Graph_Verticesc, .slice r2_Paramsa r2_Paramsl r2_Paramsc, .int .i64 r2_Steps, .int .i64 r2_Sent, .int .i64 r2_Parts]⟩) H23) (
                  ∃ (t44_Program_1 : List UInt8) (t44_Graph_Verticesa_1 : Option Addr) (t44_Graph_Verticesl_1 : Nat) (t44_Graph_Verticesc_1 : Nat) (t44_Paramsa_1 : Option Addr) (t44_Paramsl_1 : Nat) (t44_Paramsc_1 : Nat) (t44_Steps_1 : Int) (t44_Sent_1 : Int) (t44_Parts_1 : Int),
                  H20.cell H3.next (0 + 0) = some (.string ⟨⟨t44_Program_1⟩⟩) ∧
                  H20.cell H3.next (0 + 1) = some (.slice t44_Graph_Verticesa_1 t44_Graph_Verticesl_1 t44_Graph_Verticesc_1) ∧
                  H20.cell H3.next (0 + 2) = some (.slice t44_Paramsa_1 t44_Paramsl_1 t44_Paramsc_1) ∧
                  H20.cell H3.next (0 + 3) = some (.int .i64 t44_Steps_1) ∧
                  H20.cell H3.next (0 + 4) = some (.int .i64 t44_Sent_1) ∧
                  H20.cell H3.next (0 + 5) = some (.int .i64 t44_Parts_1) ∧
                  ∃ (H24 : AH),
                  storeCellsv H20 H.next 0 [.string ⟨⟨t44_Program_1⟩⟩, .slice t44_Graph_Verticesa_1 t44_Graph_Verticesl_1 t44_Graph_Verticesc_1, .slice t44_Paramsa_1 t44_Paramsl_1 t44_Paramsc_1, .int .i64 t44_Steps_1, .int .i64 t44_Sent_1, .int .i64 t44_Parts_1] = some H24 ∧
                  ∃ (r2_Program_1 : List UInt8) (r2_Graph_Verticesa_1 : Option Addr) (r2_Graph_Verticesl_1 : Nat) (r2_Graph_Verticesc_1 : Nat) (r2_Paramsa_1 : Option Addr) (r2_Paramsl_1 : Nat) (r2_Paramsc_1 : Nat) (r2_Steps_1 : Int) (r2_Sent_1 : Int) (r2_Parts_1 : Int),
                  H24.cell H.next (0 + 0) = some (.string ⟨⟨r2_Program_1⟩⟩) ∧
                  H24.cell H.next (0 + 1) = some (.slice r2_Graph_Verticesa_1 r2_Graph_Verticesl_1 r2_Graph_Verticesc_1) ∧
                  H24.cell H.next (0 + 2) = some (.slice r2_Paramsa_1 r2_Paramsl_1 r2_Paramsc_1) ∧
                  H24.cell H.next (0 + 3) = some (.int .i64 r2_Steps_1) ∧
                  H24.cell H.next (0 + 4) = some (.int .i64 r2_Sent_1) ∧
                  H24.cell H.next (0 + 5) = some (.int .i64 r2_Parts_1) ∧
                  Q (.agg ⟨[.string ⟨⟨r2_Program_1⟩⟩, .slice r2_Graph_Verticesa_1 r2_Graph_Verticesl_1 r2_Graph_Verticesc_1, .slice r2_Paramsa_1 r2_Paramsl_1 r2_Paramsc_1, .int .i64 r2_Steps_1, .int .i64 r2_Sent_1, .int .i64 r2_Parts_1]⟩) H24)
set_option maxRecDepth 100000 in
theorem fw_run_TakeJob {r0b : Nat} {H : AH} {Q : Value → AH → Prop} (h : VC_run_TakeJob r0b H Q) : FW Ee F_run_TakeJob [.pointer (some ⟨r0b, 0, none⟩)] H Q := by
  have e : VC_run_TakeJob r0b H Q = wpF Ee ⟨[0], []⟩ F_run_TakeJob [.pointer (some ⟨r0b, 0, none⟩)] H Q := by kernel_rfl
  letI : Sy := sy0
  exact wpF_sound (Eq.mp e h)
/-- cohort/run.EncodeJob -/
def VC_run_EncodeJob (j0_Program : List UInt8) (j0_Graph_Verticesa : Option Addr) (j0_Graph_Verticesl : Nat) (j0_Graph_Verticesc : Nat) (j0_Paramsa : Option Addr) (j0_Paramsl : Nat) (j0_Paramsc : Nat) (j0_Steps : Int) (j0_Sent : Int) (j0_Parts : Int) (H : AH) (Q : Value → AH → Prop) : Prop :=
  ∀ (H1 : AH),
  H1 = H.new (.cells [.string ⟨⟨j0_Program⟩⟩, .slice j0_Graph_Verticesa j0_Graph_Verticesl j0_Graph_Verticesc, .slice j0_Paramsa j0_Paramsl j0_Paramsc, .int .i64 j0_Steps, .int .i64 j0_Sent, .int .i64 j0_Parts] 0) →
  ∃ (t6_Program : List UInt8) (t6_Graph_Verticesa : Option Addr) (t6_Graph_Verticesl : Nat) (t6_Graph_Verticesc : Nat) (t6_Paramsa : Option Addr) (t6_Paramsl : Nat) (t6_Paramsc : Nat) (t6_Steps : Int) (t6_Sent : Int) (t6_Parts : Int),
  H1.cell H.next (0 + 0) = some (.string ⟨⟨t6_Program⟩⟩) ∧
  H1.cell H.next (0 + 1) = some (.slice t6_Graph_Verticesa t6_Graph_Verticesl t6_Graph_Verticesc) ∧
  H1.cell H.next (0 + 2) = some (.slice t6_Paramsa t6_Paramsl t6_Paramsc) ∧
  H1.cell H.next (0 + 3) = some (.int .i64 t6_Steps) ∧
  H1.cell H.next (0 + 4) = some (.int .i64 t6_Sent) ∧
  H1.cell H.next (0 + 5) = some (.int .i64 t6_Parts) ∧
  FW Ee F_run_Check [.agg ⟨[.string ⟨⟨t6_Program⟩⟩, .slice t6_Graph_Verticesa t6_Graph_Verticesl t6_Graph_Verticesc, .slice t6_Paramsa t6_Paramsl t6_Paramsc, .int .i64 t6_Steps, .int .i64 t6_Sent, .int .i64 t6_Parts]⟩] H1 fun v H2 =>
    ∃ (r7 : Int),
    v = .int .i64 r7 ∧
    cond (r7 != 0) (
      Q (.tuple ⟨[.string ⟨⟨[]⟩⟩, .int .i64 r7]⟩) H2) (
      FW Ee F_wire_NewWriter [] H2 fun v_1 H3 =>
        ∃ (r11 : Option Addr),
        v_1 = .pointer r11 ∧
        ∃ (t13_Program : List UInt8) (t13_Graph_Verticesa : Option Addr) (t13_Graph_Verticesl : Nat) (t13_Graph_Verticesc : Nat) (t13_Paramsa : Option Addr) (t13_Paramsl : Nat) (t13_Paramsc : Nat) (t13_Steps : Int) (t13_Sent : Int) (t13_Parts : Int),
        H3.cell H.next (0 + 0) = some (.string ⟨⟨t13_Program⟩⟩) ∧
        H3.cell H.next (0 + 1) = some (.slice t13_Graph_Verticesa t13_Graph_Verticesl t13_Graph_Verticesc) ∧
        H3.cell H.next (0 + 2) = some (.slice t13_Paramsa t13_Paramsl t13_Paramsc) ∧
        H3.cell H.next (0 + 3) = some (.int .i64 t13_Steps) ∧
        H3.cell H.next (0 + 4) = some (.int .i64 t13_Sent) ∧
        H3.cell H.next (0 + 5) = some (.int .i64 t13_Parts) ∧
        FW Ee F_run_PutJob [.pointer r11, .agg ⟨[.string ⟨⟨t13_Program⟩⟩, .slice t13_Graph_Verticesa t13_Graph_Verticesl t13_Graph_Verticesc, .slice t13_Paramsa t13_Paramsl t13_Paramsc, .int .i64 t13_Steps, .int .i64 t13_Sent, .int .i64 t13_Parts]⟩] H3 fun v_2 H4 =>
          v_2 = .tuple ⟨[]⟩ ∧
          FW Ee F_wire_Writer_All [.pointer r11] H4 fun v_3 H5 =>
            ∃ (r16 : List UInt8),
            v_3 = .string ⟨⟨r16⟩⟩ ∧
            Q (.tuple ⟨[.string ⟨⟨r16⟩⟩, .int .i64 0]⟩) H5)
set_option maxRecDepth 100000 in
theorem fw_run_EncodeJob {j0_Program : List UInt8} {j0_Graph_Verticesa : Option Addr} {j0_Graph_Verticesl : Nat} {j0_Graph_Verticesc : Nat} {j0_Paramsa : Option Addr} {j0_Paramsl : Nat} {j0_Paramsc : Nat} {j0_Steps : Int} {j0_Sent : Int} {j0_Parts : Int} {H : AH} {Q : Value → AH → Prop} (h : VC_run_EncodeJob j0_Program j0_Graph_Verticesa j0_Graph_Verticesl j0_Graph_Verticesc j0_Paramsa j0_Paramsl j0_Paramsc j0_Steps j0_Sent j0_Parts H Q) : FW Ee F_run_EncodeJob [.agg ⟨[.string ⟨⟨j0_Program⟩⟩, .slice j0_Graph_Verticesa j0_Graph_Verticesl j0_Graph_Verticesc, .slice j0_Paramsa j0_Paramsl j0_Paramsc, .int .i64 j0_Steps, .int .i64 j0_Sent, .int .i64 j0_Parts]⟩] H Q := by
  have e : VC_run_EncodeJob j0_Program j0_Graph_Verticesa j0_Graph_Verticesl j0_Graph_Verticesc j0_Paramsa j0_Paramsl j0_Paramsc j0_Steps j0_Sent j0_Parts H Q = wpF Ee ⟨[], []⟩ F_run_EncodeJob [.agg ⟨[.string ⟨⟨j0_Program⟩⟩, .slice j0_Graph_Verticesa j0_Graph_Verticesl j0_Graph_Verticesc, .slice j0_Paramsa j0_Paramsl j0_Paramsc, .int .i64 j0_Steps, .int .i64 j0_Sent, .int .i64 j0_Parts]⟩] H Q := by kernel_rfl
  letI : Sy := sy0
  exact wpF_sound (Eq.mp e h)
/-- cohort/run.DecodeJob -/
def VC_run_DecodeJob (s0 : List UInt8) (H : AH) (Q : Value → AH → Prop) : Prop :=
  ∀ (H1 : AH),
  H1 = H.new (.cells [.string ⟨⟨[]⟩⟩, .slice none 0 0, .slice none 0 0, .int .i64 0, .int .i64 0, .int .i64 0] 0) →
  FW Ee F_wire_NewReader [.string ⟨⟨s0⟩⟩] H1 fun v H2 =>
    ∃ (r8 : Option Addr),
    v = .pointer r8 ∧
    FW Ee F_run_TakeJob [.pointer r8] H2 fun v_1 H3 =>
      ∃ (r10_Program : List UInt8) (r10_Graph_Verticesa : Option Addr) (r10_Graph_Verticesl : Nat) (r10_Graph_Verticesc : Nat) (r10_Paramsa : Option Addr) (r10_Paramsl : Nat) (r10_Paramsc : Nat) (r10_Steps : Int) (r10_Sent : Int) (r10_Parts : Int),
      v_1 = .agg ⟨[.string ⟨⟨r10_Program⟩⟩, .slice r10_Graph_Verticesa r10_Graph_Verticesl r10_Graph_Verticesc, .slice r10_Paramsa r10_Paramsl r10_Paramsc, .int .i64 r10_Steps, .int .i64 r10_Sent, .int .i64 r10_Parts]⟩ ∧
      ∀ (H4 : AH),
      H4 = H3.new (.cells [.string ⟨⟨[]⟩⟩, .slice none 0 0, .slice none 0 0, .int .i64 0, .int .i64 0, .int .i64 0] 0) →
      ∃ (H5 : AH),
      storeCellsv H4 H3.next 0 [.string ⟨⟨r10_Program⟩⟩, .slice r10_Graph_Verticesa r10_Graph_Verticesl r10_Graph_Verticesc, .slice r10_Paramsa r10_Paramsl r10_Paramsc, .int .i64 r10_Steps, .int .i64 r10_Sent, .int .i64 r10_Parts] = some H5 ∧
      FW Ee F_wire_Reader_End [.pointer r8] H5 fun v_2 H6 =>
        ∃ (r12 : Int),
        v_2 = .int .i64 r12 ∧
        cond (r12 != 0) (
          ∃ (H7 : AH),
          storeCellsv H6 H.next 0 [.string ⟨⟨[]⟩⟩, .slice none 0 0, .slice none 0 0, .int .i64 0, .int .i64 0, .int .i64 0] = some H7 ∧
          ∃ (r2_Program : List UInt8) (r2_Graph_Verticesa : Option Addr) (r2_Graph_Verticesl : Nat) (r2_Graph_Verticesc : Nat) (r2_Paramsa : Option Addr) (r2_Paramsl : Nat) (r2_Paramsc : Nat) (r2_Steps : Int) (r2_Sent : Int) (r2_Parts : Int),
          H7.cell H.next (0 + 0) = some (.string ⟨⟨r2_Program⟩⟩) ∧
          H7.cell H.next (0 + 1) = some (.slice r2_Graph_Verticesa r2_Graph_Verticesl r2_Graph_Verticesc) ∧
          H7.cell H.next (0 + 2) = some (.slice r2_Paramsa r2_Paramsl r2_Paramsc) ∧
          H7.cell H.next (0 + 3) = some (.int .i64 r2_Steps) ∧
          H7.cell H.next (0 + 4) = some (.int .i64 r2_Sent) ∧
          H7.cell H.next (0 + 5) = some (.int .i64 r2_Parts) ∧
          Q (.tuple ⟨[.agg ⟨[.string ⟨⟨r2_Program⟩⟩, .slice r2_Graph_Verticesa r2_Graph_Verticesl r2_Graph_Verticesc, .slice r2_Paramsa r2_Paramsl r2_Paramsc, .int .i64 r2_Steps, .int .i64 r2_Sent, .int .i64 r2_Parts]⟩, .int .i64 r12]⟩) H7) (
          ∃ (t17_Program : List UInt8) (t17_Graph_Verticesa : Option Addr) (t17_Graph_Verticesl : Nat) (t17_Graph_Verticesc : Nat) (t17_Paramsa : Option Addr) (t17_Paramsl : Nat) (t17_Paramsc : Nat) (t17_Steps : Int) (t17_Sent : Int) (t17_Parts : Int),
          H6.cell H3.next (0 + 0) = some (.string ⟨⟨t17_Program⟩⟩) ∧
          H6.cell H3.next (0 + 1) = some (.slice t17_Graph_Verticesa t17_Graph_Verticesl t17_Graph_Verticesc) ∧
          H6.cell H3.next (0 + 2) = some (.slice t17_Paramsa t17_Paramsl t17_Paramsc) ∧
          H6.cell H3.next (0 + 3) = some (.int .i64 t17_Steps) ∧
          H6.cell H3.next (0 + 4) = some (.int .i64 t17_Sent) ∧
          H6.cell H3.next (0 + 5) = some (.int .i64 t17_Parts) ∧
          ∃ (H8 : AH),
          storeCellsv H6 H.next 0 [.string ⟨⟨t17_Program⟩⟩, .slice t17_Graph_Verticesa t17_Graph_Verticesl t17_Graph_Verticesc, .slice t17_Paramsa t17_Paramsl t17_Paramsc, .int .i64 t17_Steps, .int .i64 t17_Sent, .int .i64 t17_Parts] = some H8 ∧
          ∃ (r2_Program_1 : List UInt8) (r2_Graph_Verticesa_1 : Option Addr) (r2_Graph_Verticesl_1 : Nat) (r2_Graph_Verticesc_1 : Nat) (r2_Paramsa_1 : Option Addr) (r2_Paramsl_1 : Nat) (r2_Paramsc_1 : Nat) (r2_Steps_1 : Int) (r2_Sent_1 : Int) (r2_Parts_1 : Int),
          H8.cell H.next (0 + 0) = some (.string ⟨⟨r2_Program_1⟩⟩) ∧
          H8.cell H.next (0 + 1) = some (.slice r2_Graph_Verticesa_1 r2_Graph_Verticesl_1 r2_Graph_Verticesc_1) ∧
          H8.cell H.next (0 + 2) = some (.slice r2_Paramsa_1 r2_Paramsl_1 r2_Paramsc_1) ∧
          H8.cell H.next (0 + 3) = some (.int .i64 r2_Steps_1) ∧
          H8.cell H.next (0 + 4) = some (.int .i64 r2_Sent_1) ∧
          H8.cell H.next (0 + 5) = some (.int .i64 r2_Parts_1) ∧
          Q (.tuple ⟨[.agg ⟨[.string ⟨⟨r2_Program_1⟩⟩, .slice r2_Graph_Verticesa_1 r2_Graph_Verticesl_1 r2_Graph_Verticesc_1, .slice r2_Paramsa_1 r2_Paramsl_1 r2_Paramsc_1, .int .i64 r2_Steps_1, .int .i64 r2_Sent_1, .int .i64 r2_Parts_1]⟩, .int .i64 0]⟩) H8)
set_option maxRecDepth 100000 in
theorem fw_run_DecodeJob {s0 : List UInt8} {H : AH} {Q : Value → AH → Prop} (h : VC_run_DecodeJob s0 H Q) : FW Ee F_run_DecodeJob [.string ⟨⟨s0⟩⟩] H Q := by
  have e : VC_run_DecodeJob s0 H Q = wpF Ee ⟨[], []⟩ F_run_DecodeJob [.string ⟨⟨s0⟩⟩] H Q := by kernel_rfl
  letI : Sy := sy0
  exact wpF_sound (Eq.mp e h)
/-- cohort/cohortref09.JobBytes -/
def VC_cohortref09_JobBytes (j0_Program : List UInt8) (j0_Grapha : Option Addr) (j0_Graphl : Nat) (j0_Graphc : Nat) (j0_Paramsa : Option Addr) (j0_Paramsl : Nat) (j0_Paramsc : Nat) (j0_Steps : Int) (j0_Sent : Int) (j0_Parts : Int) (H : AH) (Q : Value → AH → Prop) : Prop :=
  ∀ (H1 : AH),
  H1 = H.new (.cells [.string ⟨⟨j0_Program⟩⟩, .slice j0_Grapha j0_Graphl j0_Graphc, .slice j0_Paramsa j0_Paramsl j0_Paramsc, .int .i64 j0_Steps, .int .i64 j0_Sent, .int .i64 j0_Parts] 0) →
  ∃ (t6 : List UInt8),
  H1.cell H.next 0 = some (.string ⟨⟨t6⟩⟩) ∧
  FW Ee F_cohortref01_Text [.string ⟨⟨t6⟩⟩] H1 fun v H2 =>
    ∃ (r7 : List UInt8),
    v = .string ⟨⟨r7⟩⟩ ∧
    ∃ (t9a : Option Addr) (t9l : Nat) (t9c : Nat),
    H2.cell H.next 1 = some (.slice t9a t9l t9c) ∧
    FW Ee F_cohortref03_Bytes [.slice t9a t9l t9c] H2 fun v_1 H3 =>
      ∃ (r10 : List UInt8),
      v_1 = .string ⟨⟨r10⟩⟩ ∧
      (r7 : List UInt8).length + (r10 : List UInt8).length < 4611686018427387904 ∧
      ∃ (t13a : Option Addr) (t13l : Nat) (t13c : Nat),
      H3.cell H.next 2 = some (.slice t13a t13l t13c) ∧
      ∀ (t15 : Int),
      t15 = IntKind.u64.wrap (((t13l : Nat) : Int)) →
      FW Ee F_cohortref01_Number [.int .u64 t15] H3 fun v_2 H4 =>
        ∃ (r16 : List UInt8),
        v_2 = .string ⟨⟨r16⟩⟩ ∧
        (r7 ++ r10 : List UInt8).length + (r16 : List UInt8).length < 4611686018427387904 ∧
        H2.cell H.next 2 = some (.slice t13a t13l t13c) ∧
        H1.cell H.next 2 = some (.slice t13a t13l t13c) ∧
        H1.cell H.next 1 = some (.slice t9a t9l t9c) ∧
        ∃ (Inv : Nat → List UInt8 → Int → AH → Prop),
        (
          ∃ (n_1 : Nat),
          Inv n_1 ((r7 ++ r10) ++ r16) 0 H4) ∧
        ∀ (n : Nat),
        ∀ (s3 : List UInt8) (i4 : Int) (H5 : AH),
        Inv n s3 i4 H5 →
        ∃ (t20a : Option Addr) (t20l : Nat) (t20c : Nat),
        H5.cell H.next 2 = some (.slice t20a t20l t20c) ∧
        cond (decide (i4 < (((t20l : Nat) : Int)))) (
          ∃ (t27a : Option Addr) (t27l : Nat) (t27c : Nat),
          H5.cell H.next 2 = some (.slice t27a t27l t27c) ∧
          grd t27a.isSome (
            (0 : Int) ≤ i4 ∧
            (i4 : Int) < ((t27l : Nat) : Int) ∧
            ∃ (t30 : Int),
            H5.cell ((adr t27a).block) ((adr t27a).off + (i4 : Int).toNat * 1) = some (.int .i64 t30) ∧
            FW Ee F_cohortref01_Signed [.int .i64 t30] H5 fun v_3 H6 =>
              ∃ (r31 : List UInt8),
              v_3 = .string ⟨⟨r31⟩⟩ ∧
              (s3 : List UInt8).length + (r31 : List UInt8).length < 4611686018427387904 ∧
              ∀ (t24 : Int),
              t24 = IntKind.i64.wrap (i4 + 1) →
              ∃ (m : Nat),
              m < n ∧
              Inv m (s3 ++ r31) t24 H6)) (
          ∃ (t35 : Int),
          H5.cell H.next 3 = some (.int .i64 t35) ∧
          ∀ (t36 : Int),
          t36 = IntKind.u64.wrap (t35) →
          FW Ee F_cohortref01_Number [.int .u64 t36] H5 fun v_4 H7 =>
            ∃ (r37 : List UInt8),
            v_4 = .string ⟨⟨r37⟩⟩ ∧
            (s3 : List UInt8).length + (r37 : List UInt8).length < 4611686018427387904 ∧
            ∃ (t40 : Int),
            H7.cell H.next 4 = some (.int .i64 t40) ∧
            ∀ (t41 : Int),
            t41 = IntKind.u64.wrap (t40) →
            FW Ee F_cohortref01_Number [.int .u64 t41] H7 fun v_5 H8 =>
              ∃ (r42 : List UInt8),
              v_5 = .string ⟨⟨r42⟩⟩ ∧
              (s3 ++ r37 : List UInt8).length + (r42 : List UInt8).length < 4611686018427387904 ∧
              ∃ (t45 : Int),
              H8.cell H.next 5 = some (.int .i64 t45) ∧
              ∀ (t46 : Int),
              t46 = IntKind.u64.wrap (t45) →
              FW Ee F_cohortref01_Number [.int .u64 t46] H8 fun v_6 H9 =>
                ∃ (r47 : List UInt8),
                v_6 = .string ⟨⟨r47⟩⟩ ∧
                ((s3 ++ r37) ++ r42 : List UInt8).length + (r47 : List UInt8).length < 4611686018427387904 ∧
                H7.cell H.next 5 = some (.int .i64 t45) ∧
                H5.cell H.next 5 = some (.int .i64 t45) ∧
                H5.cell H.next 4 = some (.int .i64 t40) ∧
                Q (.string ⟨⟨((s3 ++ r37) ++ r42) ++ r47⟩⟩) H9)
set_option maxRecDepth 100000 in
theorem fw_cohortref09_JobBytes {j0_Program : List UInt8} {j0_Grapha : Option Addr} {j0_Graphl : Nat} {j0_Graphc : Nat} {j0_Paramsa : Option Addr} {j0_Paramsl : Nat} {j0_Paramsc : Nat} {j0_Steps : Int} {j0_Sent : Int} {j0_Parts : Int} {H : AH} {Q : Value → AH → Prop} (h : VC_cohortref09_JobBytes j0_Program j0_Grapha j0_Graphl j0_Graphc j0_Paramsa j0_Paramsl j0_Paramsc j0_Steps j0_Sent j0_Parts H Q) : FW Ee F_cohortref09_JobBytes [.agg ⟨[.string ⟨⟨j0_Program⟩⟩, .slice j0_Grapha j0_Graphl j0_Graphc, .slice j0_Paramsa j0_Paramsl j0_Paramsc, .int .i64 j0_Steps, .int .i64 j0_Sent, .int .i64 j0_Parts]⟩] H Q := by
  have e : VC_cohortref09_JobBytes j0_Program j0_Grapha j0_Graphl j0_Graphc j0_Paramsa j0_Paramsl j0_Paramsc j0_Steps j0_Sent j0_Parts H Q = wpF Ee ⟨[], []⟩ F_cohortref09_JobBytes [.agg ⟨[.string ⟨⟨j0_Program⟩⟩, .slice j0_Grapha j0_Graphl j0_Graphc, .slice j0_Paramsa j0_Paramsl j0_Paramsc, .int .i64 j0_Steps, .int .i64 j0_Sent, .int .i64 j0_Parts]⟩] H Q := by kernel_rfl
  letI : Sy := sy0
  exact wpF_sound (Eq.mp e h)
/-- cohort/cohortref09.Decode -/
def VC_cohortref09_Decode (s0 : List UInt8) (H : AH) (Q : Value → AH → Prop) : Prop :=
  ∀ (H1 : AH),
  H1 = H.new (.cells [.string ⟨⟨[]⟩⟩, .slice none 0 0, .slice none 0 0, .int .i64 0, .int .i64 0, .int .i64 0] 0) →
  ∀ (H2 : AH),
  H2 = H1.new (.cells [.string ⟨⟨[]⟩⟩, .int .i64 0, .int .i64 0] 0) →
  ∀ (H3 : AH),
  H3 = H2.new (.cells [.string ⟨⟨[]⟩⟩, .slice none 0 0, .slice none 0 0, .int .i64 0, .int .i64 0, .int .i64 0] 0) →
  ∃ (H4 : AH),
  storeCellsv H3 H1.next 0 [.string ⟨⟨s0⟩⟩, .int .i64 0, .int .i64 0] = some H4 ∧
  ∃ (H5 : AH),
  storeCellsv H4 H2.next 0 [.string ⟨⟨[]⟩⟩, .slice none 0 0, .slice none 0 0, .int .i64 0, .int .i64 0, .int .i64 0] = some H5 ∧
  ∃ (t14_S : List UInt8) (t14_At : Int) (t14_Err : Int),
  H5.cell H1.next (0 + 0) = some (.string ⟨⟨t14_S⟩⟩) ∧
  H5.cell H1.next (0 + 1) = some (.int .i64 t14_At) ∧
  H5.cell H1.next (0 + 2) = some (.int .i64 t14_Err) ∧
  FW Ee F_cohortref01_Reader_Text [.agg ⟨[.string ⟨⟨t14_S⟩⟩, .int .i64 t14_At, .int .i64 t14_Err]⟩] H5 fun v H6 =>
    ∃ (r15_0_S : List UInt8) (r15_0_At : Int) (r15_0_Err : Int) (r15_1 : List UInt8),
    v = .tuple ⟨[.agg ⟨[.string ⟨⟨r15_0_S⟩⟩, .int .i64 r15_0_At, .int .i64 r15_0_Err]⟩, .string ⟨⟨r15_1⟩⟩]⟩ ∧
    ∃ (H7 : AH),
    storeCellsv H6 H1.next 0 [.string ⟨⟨r15_0_S⟩⟩, .int .i64 r15_0_At, .int .i64 r15_0_Err] = some H7 ∧
    ∃ (H8 : AH),
    storeCellsv H7 H2.next 0 [.string ⟨⟨r15_1⟩⟩] = some H8 ∧
    ∃ (t20_S : List UInt8) (t20_At : Int) (t20_Err : Int),
    H8.cell H1.next (0 + 0) = some (.string ⟨⟨t20_S⟩⟩) ∧
    H8.cell H1.next (0 + 1) = some (.int .i64 t20_At) ∧
    H8.cell H1.next (0 + 2) = some (.int .i64 t20_Err) ∧
    FW Ee F_cohortref03_Take [.agg ⟨[.string ⟨⟨t20_S⟩⟩, .int .i64 t20_At, .int .i64 t20_Err]⟩] H8 fun v_1 H9 =>
      ∃ (r21_0_S : List UInt8) (r21_0_At : Int) (r21_0_Err : Int) (r21_1a : Option Addr) (r21_1l : Nat) (r21_1c : Nat),
      v_1 = .tuple ⟨[.agg ⟨[.string ⟨⟨r21_0_S⟩⟩, .int .i64 r21_0_At, .int .i64 r21_0_Err]⟩, .slice r21_1a r21_1l r21_1c]⟩ ∧
      ∃ (H10 : AH),
      storeCellsv H9 H1.next 0 [.string ⟨⟨r21_0_S⟩⟩, .int .i64 r21_0_At, .int .i64 r21_0_Err] = some H10 ∧
      ∃ (H11 : AH),
      storeCellsv H10 H2.next 1 [.slice r21_1a r21_1l r21_1c] = some H11 ∧
      ∃ (t26_S : List UInt8) (t26_At : Int) (t26_Err : Int),
      H11.cell H1.next (0 + 0) = some (.string ⟨⟨t26_S⟩⟩) ∧
      H11.cell H1.next (0 + 1) = some (.int .i64 t26_At) ∧
      H11.cell H1.next (0 + 2) = some (.int .i64 t26_Err) ∧
      FW Ee F_cohortref01_Reader_Count [.agg ⟨[.string ⟨⟨t26_S⟩⟩, .int .i64 t26_At, .int .i64 t26_Err]⟩, .int .i64 4] H11 fun v_2 H12 =>
        ∃ (r27_0_S : List UInt8) (r27_0_At : Int) (r27_0_Err : Int) (r27_1 : Int),
        v_2 = .tuple ⟨[.agg ⟨[.string ⟨⟨r27_0_S⟩⟩, .int .i64 r27_0_At, .int .i64 r27_0_Err]⟩, .int .i64 r27_1]⟩ ∧
        ∃ (H13 : AH),
        storeCellsv H12 H1.next 0 [.string ⟨⟨r27_0_S⟩⟩, .int .i64 r27_0_At, .int .i64 r27_0_Err] = some H13 ∧
        ∃ (J_1 : Int → AH → Prop),
        (
          ∃ (Inv : Nat → Int → AH → Prop),
          (
            ∃ (n_1 : Nat),
            Inv n_1 0 H13) ∧
          ∀ (n : Nat),
          ∀ (i7 : Int) (H14 : AH),
          Inv n i7 H14 →
          cond (decide (i7 < r27_1)) (
            ∃ (t35 : Int),
            H14.cell H1.next 2 = some (.int .i64 t35) ∧
            cond (t35 == 0) (
              ∃ (t41_S : List UInt8) (t41_At : Int) (t41_Err : Int),
              H14.cell H1.next (0 + 0) = some (.string ⟨⟨t41_S⟩⟩) ∧
              H14.cell H1.next (0 + 1) = some (.int .i64 t41_At) ∧
              H14.cell H1.next (0 + 2) = some (.int .i64 t41_Err) ∧
              FW Ee F_cohortref01_Reader_Signed [.agg ⟨[.string ⟨⟨t41_S⟩⟩, .int .i64 t41_At, .int .i64 t41_Err]⟩] H14 fun v_3 H15 =>
                ∃ (r42_0_S : List UInt8) (r42_0_At : Int) (r42_0_Err : Int) (r42_1 : Int),
                v_3 = .tuple ⟨[.agg ⟨[.string ⟨⟨r42_0_S⟩⟩, .int .i64 r42_0_At, .int .i64 r42_0_Err]⟩, .int .i64 r42_1]⟩ ∧
                ∀ (H16 : AH),
                H16 = H15.new (.cells [.string ⟨⟨[]⟩⟩, .int .i64 0, .int .i64 0] 0) →
                ∃ (H17 : AH),
                storeCellsv H16 H15.next 0 [.string ⟨⟨r42_0_S⟩⟩, .int .i64 r42_0_At, .int .i64 r42_0_Err] = some H17 ∧
                ∃ (t45_S : List UInt8) (t45_At : Int) (t45_Err : Int),
                H17.cell H15.next (0 + 0) = some (.string ⟨⟨t45_S⟩⟩) ∧
                H17.cell H15.next (0 + 1) = some (.int .i64 t45_At) ∧
                H17.cell H15.next (0 + 2) = some (.int .i64 t45_Err) ∧
                ∃ (H18 : AH),
                storeCellsv H17 H1.next 0 [.string ⟨⟨t45_S⟩⟩, .int .i64 t45_At, .int .i64 t45_Err] = some H18 ∧
                ∃ (t47a : Option Addr) (t47l : Nat) (t47c : Nat),
                H18.cell H2.next 2 = some (.slice t47a t47l t47c) ∧
                ∀ (H19 : AH),
                H19 = H18.new (.cells [.int .i64 r42_1] 0) →
                ∃ (t50a : Option Addr) (t50l : Nat) (t50c : Nat) (H20 : AH),
                apnd H19 1 8 t47a t47l t47c (.slice (some ⟨H18.next, 0, none⟩) 1 2) = some (.slice t50a t50l t50c, H20) ∧
                ∃ (H21 : AH),
                storeCellsv H20 H2.next 2 [.slice t50a t50l t50c] = some H21 ∧
                ∀ (t39 : Int),
                t39 = IntKind.i64.wrap (i7 + 1) →
                ∃ (m : Nat),
                m < n ∧
                Inv m t39 H21) (
              J_1 i7 H14)) (
            J_1 i7 H14)) ∧
        ∀ (i7_1 : Int) (H22 : AH),
        J_1 i7_1 H22 →
        ∃ (t53_S : List UInt8) (t53_At : Int) (t53_Err : Int),
        H22.cell H1.next (0 + 0) = some (.string ⟨⟨t53_S⟩⟩) ∧
        H22.cell H1.next (0 + 1) = some (.int .i64 t53_At) ∧
        H22.cell H1.next (0 + 2) = some (.int .i64 t53_Err) ∧
        FW Ee F_cohortref01_Reader_Count [.agg ⟨[.string ⟨⟨t53_S⟩⟩, .int .i64 t53_At, .int .i64 t53_Err]⟩, .int .i64 1000] H22 fun v_4 H23 =>
          ∃ (r54_0_S : List UInt8) (r54_0_At : Int) (r54_0_Err : Int) (r54_1 : Int),
          v_4 = .tuple ⟨[.agg ⟨[.string ⟨⟨r54_0_S⟩⟩, .int .i64 r54_0_At, .int .i64 r54_0_Err]⟩, .int .i64 r54_1]⟩ ∧
          ∃ (H24 : AH),
          storeCellsv H23 H1.next 0 [.string ⟨⟨r54_0_S⟩⟩, .int .i64 r54_0_At, .int .i64 r54_0_Err] = some H24 ∧
          ∃ (H25 : AH),
          storeCellsv H24 H2.next 3 [.int .i64 r54_1] = some H25 ∧
          ∃ (t59_S : List UInt8) (t59_At : Int) (t59_Err : Int),
          H25.cell H1.next (0 + 0) = some (.string ⟨⟨t59_S⟩⟩) ∧
          H25.cell H1.next (0 + 1) = some (.int .i64 t59_At) ∧
          H25.cell H1.next (0 + 2) = some (.int .i64 t59_Err) ∧
          FW Ee F_cohortref01_Reader_Count [.agg ⟨[.string ⟨⟨t59_S⟩⟩, .int .i64 t59_At, .int .i64 t59_Err]⟩, .int .i64 65536] H25 fun v_5 H26 =>
            ∃ (r60_0_S : List UInt8) (r60_0_At : Int) (r60_0_Err : Int) (r60_1 : Int),
            v_5 = .tuple ⟨[.agg ⟨[.string ⟨⟨r60_0_S⟩⟩, .int .i64 r60_0_At, .int .i64 r60_0_Err]⟩, .int .i64 r60_1]⟩ ∧
            ∃ (H27 : AH),
            storeCellsv H26 H1.next 0 [.string ⟨⟨r60_0_S⟩⟩, .int .i64 r60_0_At, .int .i64 r60_0_Err] = some H27 ∧
            ∃ (H28 : AH),
            storeCellsv H27 H2.next 4 [.int .i64 r60_1] = some H28 ∧
            ∃ (t65_S : List UInt8) (t65_At : Int) (t65_Err : Int),
            H28.cell H1.next (0 + 0) = some (.string ⟨⟨t65_S⟩⟩) ∧
            H28.cell H1.next (0 + 1) = some (.int .i64 t65_At) ∧
            H28.cell H1.next (0 + 2) = some (.int .i64 t65_Err) ∧
            FW Ee F_cohortref01_Reader_Count [.agg ⟨[.string ⟨⟨t65_S⟩⟩, .int .i64 t65_At, .int .i64 t65_Err]⟩, .int .i64 16] H28 fun v_6 H29 =>
              ∃ (r66_0_S : List UInt8) (r66_0_At : Int) (r66_0_Err : Int) (r66_1 : Int),
              v_6 = .tuple ⟨[.agg ⟨[.string ⟨⟨r66_0_S⟩⟩, .int .i64 r66_0_At, .int .i64 r66_0_Err]⟩, .int .i64 r66_1]⟩ ∧
              ∃ (H30 : AH),
              storeCellsv H29 H1.next 0 [.string ⟨⟨r66_0_S⟩⟩, .int .i64 r66_0_At, .int .i64 r66_0_Err] = some H30 ∧
              ∃ (H31 : AH),
              storeCellsv H30 H2.next 5 [.int .i64 r66_1] = some H31 ∧
              ∃ (t71 : Int),
              H31.cell H1.next 2 = some (.int .i64 t71) ∧
              cond (t71 == 0) (
                ∃ (t73_Program : List UInt8) (t73_Grapha : Option Addr) (t73_Graphl : Nat) (t73_Graphc : Nat) (t73_Paramsa : Option Addr) (t73_Paramsl : Nat) (t73_Paramsc : Nat) (t73_Steps : Int) (t73_Sent : Int) (t73_Parts : Int),
                H31.cell H2.next (0 + 0) = some (.string ⟨⟨t73_Program⟩⟩) ∧
                H31.cell H2.next (0 + 1) = some (.slice t73_Grapha t73_Graphl t73_Graphc) ∧
                H31.cell H2.next (0 + 2) = some (.slice t73_Paramsa t73_Paramsl t73_Paramsc) ∧
                H31.cell H2.next (0 + 3) = some (.int .i64 t73_Steps) ∧
                H31.cell H2.next (0 + 4) = some (.int .i64 t73_Sent) ∧
                H31.cell H2.next (0 + 5) = some (.int .i64 t73_Parts) ∧
                FW Ee F_cohortref09_Check [.agg ⟨[.string ⟨⟨t73_Program⟩⟩, .slice t73_Grapha t73_Graphl t73_Graphc, .slice t73_Paramsa t73_Paramsl t73_Paramsc, .int .i64 t73_Steps, .int .i64 t73_Sent, .int .i64 t73_Parts]⟩] H31 fun v_7 H32 =>
                  ∃ (r74 : Int),
                  v_7 = .int .i64 r74 ∧
                  ∃ (H33 : AH),
                  storeCellsv H32 H1.next 2 [.int .i64 r74] = some H33 ∧
                  ∃ (t76_S : List UInt8) (t76_At : Int) (t76_Err : Int),
                  H33.cell H1.next (0 + 0) = some (.string ⟨⟨t76_S⟩⟩) ∧
                  H33.cell H1.next (0 + 1) = some (.int .i64 t76_At) ∧
                  H33.cell H1.next (0 + 2) = some (.int .i64 t76_Err) ∧
                  FW Ee F_cohortref01_Reader_End [.agg ⟨[.string ⟨⟨t76_S⟩⟩, .int .i64 t76_At, .int .i64 t76_Err]⟩] H33 fun v_8 H34 =>
                    ∃ (r77_S : List UInt8) (r77_At : Int) (r77_Err : Int),
                    v_8 = .agg ⟨[.string ⟨⟨r77_S⟩⟩, .int .i64 r77_At, .int .i64 r77_Err]⟩ ∧
                    ∃ (H35 : AH),
                    storeCellsv H34 H1.next 0 [.string ⟨⟨r77_S⟩⟩, .int .i64 r77_At, .int .i64 r77_Err] = some H35 ∧
                    ∃ (t79 : Int),
                    H35.cell H1.next 2 = some (.int .i64 t79) ∧
                    cond (t79 != 0) (
                      ∃ (t83 : Int),
                      H35.cell H1.next 2 = some (.int .i64 t83) ∧
                      ∃ (H36 : AH),
                      storeCellsv H35 H.next 0 [.string ⟨⟨[]⟩⟩, .slice none 0 0, .slice none 0 0, .int .i64 0, .int .i64 0, .int .i64 0] = some H36 ∧
                      H36.cell H1.next 2 = some (.int .i64 t83) ∧
                      ∃ (r2_Program : List UInt8) (r2_Grapha : Option Addr) (r2_Graphl : Nat) (r2_Graphc : Nat) (r2_Paramsa : Option Addr) (r2_Paramsl : Nat) (r2_Paramsc : Nat) (r2_Steps : Int) (r2_Sent : Int) (r2_Parts : Int),
                      H36.cell H.next (0 + 0) = some (.string ⟨⟨r2_Program⟩⟩) ∧
                      H36.cell H.next (0 + 1) = some (.slice r2_Grapha r2_Graphl r2_Graphc) ∧
                      H36.cell H.next (0 + 2) = some (.slice r2_Paramsa r2_Paramsl r2_Paramsc) ∧
                      H36.cell H.next (0 + 3) = some (.int .i64 r2_Steps) ∧
                      H36.cell H.next (0 + 4) = some (.int .i64 r2_Sent) ∧
                      H36.cell H.next (0 + 5) = some (.int .i64 r2_Parts) ∧
                      Q (.tuple ⟨[.agg ⟨[.string ⟨⟨r2_Program⟩⟩, .slice r2_Grapha r2_Graphl r2_Graphc, .slice r2_Paramsa r2_Paramsl r2_Paramsc, .int .i64 r2_Steps, .int .i64 r2_Sent, .int .i64 r2_Parts]⟩, .int .i64 t83]⟩) H36) (
                      ∃ (t84_Program : List UInt8) (t84_Grapha : Option Addr) (t84_Graphl : Nat) (t84_Graphc : Nat) (t84_Paramsa : Option Addr) (t84_Paramsl : Nat) (t84_Paramsc : Nat) (t84_Steps : Int) (t84_Sent : Int) (t84_Parts : Int),
                      H35.cell H2.next (0 + 0) = some (.string ⟨⟨t84_Program⟩⟩) ∧
                      H35.cell H2.next (0 + 1) = some (.slice t84_Grapha t84_Graphl t84_Graphc) ∧
                      H35.cell H2.next (0 + 2) = some (.slice t84_Paramsa t84_Paramsl t84_Paramsc) ∧
                      H35.cell H2.next (0 + 3) = some (.int .i64 t84_Steps) ∧
                      H35.cell H2.next (0 + 4) = some (.int .i64 t84_Sent) ∧
                      H35.cell H2.next (0 + 5) = some (.int .i64 t84_Parts) ∧
                      ∃ (H37 : AH),
                      storeCellsv H35 H.next 0 [.string ⟨⟨t84_Program⟩⟩, .slice t84_Grapha t84_Graphl t84_Graphc, .slice t84_Paramsa t84_Paramsl t84_Paramsc, .int .i64 t84_Steps, .int .i64 t84_Sent, .int .i64 t84_Parts] = some H37 ∧
                      ∃ (r2_Program_1 : List UInt8) (r2_Grapha_1 : Option Addr) (r2_Graphl_1 : Nat) (r2_Graphc_1 : Nat) (r2_Paramsa_1 : Option Addr) (r2_Paramsl_1 : Nat) (r2_Paramsc_1 : Nat) (r2_Steps_1 : Int) (r2_Sent_1 : Int) (r2_Parts_1 : Int),
                      H37.cell H.next (0 + 0) = some (.string ⟨⟨r2_Program_1⟩⟩) ∧
                      H37.cell H.next (0 + 1) = some (.slice r2_Grapha_1 r2_Graphl_1 r2_Graphc_1) ∧
                      H37.cell H.next (0 + 2) = some (.slice r2_Paramsa_1 r2_Paramsl_1 r2_Paramsc_1) ∧
                      H37.cell H.next (0 + 3) = some (.int .i64 r2_Steps_1) ∧
                      H37.cell H.next (0 + 4) = some (.int .i64 r2_Sent_1) ∧
                      H37.cell H.next (0 + 5) = some (.int .i64 r2_Parts_1) ∧
                      Q (.tuple ⟨[.agg ⟨[.string ⟨⟨r2_Program_1⟩⟩, .slice r2_Grapha_1 r2_Graphl_1 r2_Graphc_1, .slice r2_Paramsa_1 r2_Paramsl_1 r2_Paramsc_1, .int .i64 r2_Steps_1, .int .i64 r2_Sent_1, .int .i64 r2_Parts_1]⟩, .int .i64 0]⟩) H37)) (
                ∃ (t76_S_1 : List UInt8) (t76_At_1 : Int) (t76_Err_1 : Int),
                H31.cell H1.next (0 + 0) = some (.string ⟨⟨t76_S_1⟩⟩) ∧
                H31.cell H1.next (0 + 1) = some (.int .i64 t76_At_1) ∧
                H31.cell H1.next (0 + 2) = some (.int .i64 t76_Err_1) ∧
                FW Ee F_cohortref01_Reader_End [.agg ⟨[.string ⟨⟨t76_S_1⟩⟩, .int .i64 t76_At_1, .int .i64 t76_Err_1]⟩] H31 fun v_9 H38 =>
                  ∃ (r77_S_1 : List UInt8) (r77_At_1 : Int) (r77_Err_1 : Int),
                  v_9 = .agg ⟨[.string ⟨⟨r77_S_1⟩⟩, .int .i64 r77_At_1, .int .i64 r77_Err_1]⟩ ∧
                  ∃ (H39 : AH),
                  storeCellsv H38 H1.next 0 [.string ⟨⟨r77_S_1⟩⟩, .int .i64 r77_At_1, .int .i64 r77_Err_1] = some H39 ∧
                  ∃ (t79_1 : Int),
                  H39.cell H1.next 2 = some (.int .i64 t79_1) ∧
                  cond (t79_1 != 0) (
                    ∃ (t83_1 : Int),
                    H39.cell H1.next 2 = some (.int .i64 t83_1) ∧
                    ∃ (H40 : AH),
                    storeCellsv H39 H.next 0 [.string ⟨⟨[]⟩⟩, .slice none 0 0, .slice none 0 0, .int .i64 0, .int .i64 0, .int .i64 0] = some H40 ∧
                    H40.cell H1.next 2 = some (.int .i64 t83_1) ∧
                    ∃ (r2_Program_2 : List UInt8) (r2_Grapha_2 : Option Addr) (r2_Graphl_2 : Nat) (r2_Graphc_2 : Nat) (r2_Paramsa_2 : Option Addr) (r2_Paramsl_2 : Nat) (r2_Paramsc_2 : Nat) (r2_Steps_2 : Int) (r2_Sent_2 : Int) (r2_Parts_2 : Int),
                    H40.cell H.next (0 + 0) = some (.string ⟨⟨r2_Program_2⟩⟩) ∧
                    H40.cell H.next (0 + 1) = some (.slice r2_Grapha_2 r2_Graphl_2 r2_Graphc_2) ∧
                    H40.cell H.next (0 + 2) = some (.slice r2_Paramsa_2 r2_Paramsl_2 r2_Paramsc_2) ∧
                    H40.cell H.next (0 + 3) = some (.int .i64 r2_Steps_2) ∧
                    H40.cell H.next (0 + 4) = some (.int .i64 r2_Sent_2) ∧
                    H40.cell H.next (0 + 5) = some (.int .i64 r2_Parts_2) ∧
                    Q (.tuple ⟨[.agg ⟨[.string ⟨⟨r2_Program_2⟩⟩, .slice r2_Grapha_2 r2_Graphl_2 r2_Graphc_2, .slice r2_Paramsa_2 r2_Paramsl_2 r2_Paramsc_2, .int .i64 r2_Steps_2, .int .i64 r2_Sent_2, .int .i64 r2_Parts_2]⟩, .int .i64 t83_1]⟩) H40) (
                    ∃ (t84_Program_1 : List UInt8) (t84_Grapha_1 : Option Addr) (t84_Graphl_1 : Nat) (t84_Graphc_1 : Nat) (t84_Paramsa_1 : Option Addr) (t84_Paramsl_1 : Nat) (t84_Paramsc_1 : Nat) (t84_Steps_1 : Int) (t84_Sent_1 : Int) (t84_Parts_1 : Int),
                    H39.cell H2.next (0 + 0) = some (.string ⟨⟨t84_Program_1⟩⟩) ∧
                    H39.cell H2.next (0 + 1) = some (.slice t84_Grapha_1 t84_Graphl_1 t84_Graphc_1) ∧
                    H39.cell H2.next (0 + 2) = some (.slice t84_Paramsa_1 t84_Paramsl_1 t84_Paramsc_1) ∧
                    H39.cell H2.next (0 + 3) = some (.int .i64 t84_Steps_1) ∧
                    H39.cell H2.next (0 + 4) = some (.int .i64 t84_Sent_1) ∧
                    H39.cell H2.next (0 + 5) = some (.int .i64 t84_Parts_1) ∧
                    ∃ (H41 : AH),
                    storeCellsv H39 H.next 0 [.string ⟨⟨t84_Program_1⟩⟩, .slice t84_Grapha_1 t84_Graphl_1 t84_Graphc_1, .slice t84_Paramsa_1 t84_Paramsl_1 t84_Paramsc_1, .int .i64 t84_Steps_1, .int .i64 t84_Sent_1, .int .i64 t84_Parts_1] = some H41 ∧
                    ∃ (r2_Program_3 : List UInt8) (r2_Grapha_3 : Option Addr) (r2_Graphl_3 : Nat) (r2_Graphc_3 : Nat) (r2_Paramsa_3 : Option Addr) (r2_Paramsl_3 : Nat) (r2_Paramsc_3 : Nat) (r2_Steps_3 : Int) (r2_Sent_3 : Int) (r2_Parts_3 : Int),
                    H41.cell H.next (0 + 0) = some (.string ⟨⟨r2_Program_3⟩⟩) ∧
                    H41.cell H.next (0 + 1) = some (.slice r2_Grapha_3 r2_Graphl_3 r2_Graphc_3) ∧
                    H41.cell H.next (0 + 2) = some (.slice r2_Paramsa_3 r2_Paramsl_3 r2_Paramsc_3) ∧
                    H41.cell H.next (0 + 3) = some (.int .i64 r2_Steps_3) ∧
                    H41.cell H.next (0 + 4) = some (.int .i64 r2_Sent_3) ∧
                    H41.cell H.next (0 + 5) = some (.int .i64 r2_Parts_3) ∧
                    Q (.tuple ⟨[.agg ⟨[.string ⟨⟨r2_Program_3⟩⟩, .slice r2_Grapha_3 r2_Graphl_3 r2_Graphc_3, .slice r2_Paramsa_3 r2_Paramsl_3 r2_Paramsc_3, .int .i64 r2_Steps_3, .int .i64 r2_Sent_3, .int .i64 r2_Parts_3]⟩, .int .i64 0]⟩) H41))
set_option maxRecDepth 100000 in
theorem fw_cohortref09_Decode {s0 : List UInt8} {H : AH} {Q : Value → AH → Prop} (h : VC_cohortref09_Decode s0 H Q) : FW Ee F_cohortref09_Decode [.string ⟨⟨s0⟩⟩] H Q := by
  have e : VC_cohortref09_Decode s0 H Q = wpF Ee ⟨[0], []⟩ F_cohortref09_Decode [.string ⟨⟨s0⟩⟩] H Q := by kernel_rfl
  letI : Sy := sy0
  exact wpF_sound (Eq.mp e h)
/-- cohort/cohortlaw09.RunJobs -/
def VC_cohortlaw09_RunJobs (j0_Program : List UInt8) (j0_Graph_Verticesa : Option Addr) (j0_Graph_Verticesl : Nat) (j0_Graph_Verticesc : Nat) (j0_Paramsa : Option Addr) (j0_Paramsl : Nat) (j0_Paramsc : Nat) (j0_Steps : Int) (j0_Sent : Int) (j0_Parts : Int) (s1 : List UInt8) (H : AH) (Q : Value → AH → Prop) : Prop :=
  ∀ (H1 : AH),
  H1 = H.new (.cells [.string ⟨⟨j0_Program⟩⟩, .slice j0_Graph_Verticesa j0_Graph_Verticesl j0_Graph_Verticesc, .slice j0_Paramsa j0_Paramsl j0_Paramsc, .int .i64 j0_Steps, .int .i64 j0_Sent, .int .i64 j0_Parts] 0) →
  ∃ (t18_Program : List UInt8) (t18_Graph_Verticesa : Option Addr) (t18_Graph_Verticesl : Nat) (t18_Graph_Verticesc : Nat) (t18_Paramsa : Option Addr) (t18_Paramsl : Nat) (t18_Paramsc : Nat) (t18_Steps : Int) (t18_Sent : Int) (t18_Parts : Int),
  H1.cell H.next (0 + 0) = some (.string ⟨⟨t18_Program⟩⟩) ∧
  H1.cell H.next (0 + 1) = some (.slice t18_Graph_Verticesa t18_Graph_Verticesl t18_Graph_Verticesc) ∧
  H1.cell H.next (0 + 2) = some (.slice t18_Paramsa t18_Paramsl t18_Paramsc) ∧
  H1.cell H.next (0 + 3) = some (.int .i64 t18_Steps) ∧
  H1.cell H.next (0 + 4) = some (.int .i64 t18_Sent) ∧
  H1.cell H.next (0 + 5) = some (.int .i64 t18_Parts) ∧
  FW Ee F_run_EncodeJob [.agg ⟨[.string ⟨⟨t18_Program⟩⟩, .slice t18_Graph_Verticesa t18_Graph_Verticesl t18_Graph_Verticesc, .slice t18_Paramsa t18_Paramsl t18_Paramsc, .int .i64 t18_Steps, .int .i64 t18_Sent, .int .i64 t18_Parts]⟩] H1 fun v H2 =>
    ∃ (r19_0 : List UInt8) (r19_1 : Int),
    v = .tuple ⟨[.string ⟨⟨r19_0⟩⟩, .int .i64 r19_1]⟩ ∧
    ∃ (t22_Program : List UInt8) (t22_Graph_Verticesa : Option Addr) (t22_Graph_Verticesl : Nat) (t22_Graph_Verticesc : Nat) (t22_Paramsa : Option Addr) (t22_Paramsl : Nat) (t22_Paramsc : Nat) (t22_Steps : Int) (t22_Sent : Int) (t22_Parts : Int),
    H2.cell H.next (0 + 0) = some (.string ⟨⟨t22_Program⟩⟩) ∧
    H2.cell H.next (0 + 1) = some (.slice t22_Graph_Verticesa t22_Graph_Verticesl t22_Graph_Verticesc) ∧
    H2.cell H.next (0 + 2) = some (.slice t22_Paramsa t22_Paramsl t22_Paramsc) ∧
    H2.cell H.next (0 + 3) = some (.int .i64 t22_Steps) ∧
    H2.cell H.next (0 + 4) = some (.int .i64 t22_Sent) ∧
    H2.cell H.next (0 + 5) = some (.int .i64 t22_Parts) ∧
    FW Ee F_cohortlaw09_Ref [.agg ⟨[.string ⟨⟨t22_Program⟩⟩, .slice t22_Graph_Verticesa t22_Graph_Verticesl t22_Graph_Verticesc, .slice t22_Paramsa t22_Paramsl t22_Paramsc, .int .i64 t22_Steps, .int .i64 t22_Sent, .int .i64 t22_Parts]⟩] H2 fun v_1 H3 =>
      ∃ (r23_Program : List UInt8) (r23_Grapha : Option Addr) (r23_Graphl : Nat) (r23_Graphc : Nat) (r23_Paramsa : Option Addr) (r23_Paramsl : Nat) (r23_Paramsc : Nat) (r23_Steps : Int) (r23_Sent : Int) (r23_Parts : Int),
      v_1 = .agg ⟨[.string ⟨⟨r23_Program⟩⟩, .slice r23_Grapha r23_Graphl r23_Graphc, .slice r23_Paramsa r23_Paramsl r23_Paramsc, .int .i64 r23_Steps, .int .i64 r23_Sent, .int .i64 r23_Parts]⟩ ∧
      FW Ee F_cohortref09_Check [.agg ⟨[.string ⟨⟨r23_Program⟩⟩, .slice r23_Grapha r23_Graphl r23_Graphc, .slice r23_Paramsa r23_Paramsl r23_Paramsc, .int .i64 r23_Steps, .int .i64 r23_Sent, .int .i64 r23_Parts]⟩] H3 fun v_2 H4 =>
        ∃ (r24 : Int),
        v_2 = .int .i64 r24 ∧
        FW Ee F_cohortlaw09_awake [] H4 fun v_3 H5 =>
          ∃ (r25 : Bool),
          v_3 = .bool r25 ∧
          cond (!r25) (
            Q (.bool false) H5) (
            cond (r19_1 != r24) (
              Q (.bool false) H5) (
              ∃ (J_1 : Bool → AH → Prop),
              (
                cond (r24 == 0) (
                  FW Ee F_run_DecodeJob [.string ⟨⟨r19_0⟩⟩] H5 fun v_4 H6 =>
                    ∃ (r36_0_Program : List UInt8) (r36_0_Graph_Verticesa : Option Addr) (r36_0_Graph_Verticesl : Nat) (r36_0_Graph_Verticesc : Nat) (r36_0_Paramsa : Option Addr) (r36_0_Paramsl : Nat) (r36_0_Paramsc : Nat) (r36_0_Steps : Int) (r36_0_Sent : Int) (r36_0_Parts : Int) (r36_1 : Int),
                    v_4 = .tuple ⟨[.agg ⟨[.string ⟨⟨r36_0_Program⟩⟩, .slice r36_0_Graph_Verticesa r36_0_Graph_Verticesl r36_0_Graph_Verticesc, .slice r36_0_Paramsa r36_0_Paramsl r36_0_Paramsc, .int .i64 r36_0_Steps, .int .i64 r36_0_Sent, .int .i64 r36_0_Parts]⟩, .int .i64 r36_1]⟩ ∧
                    ∀ (H7 : AH),
                    H7 = H6.new (.cells [.string ⟨⟨[]⟩⟩, .slice none 0 0, .slice none 0 0, .int .i64 0, .int .i64 0, .int .i64 0] 0) →
                    ∃ (H8 : AH),
                    storeCellsv H7 H6.next 0 [.string ⟨⟨r36_0_Program⟩⟩, .slice r36_0_Graph_Verticesa r36_0_Graph_Verticesl r36_0_Graph_Verticesc, .slice r36_0_Paramsa r36_0_Paramsl r36_0_Paramsc, .int .i64 r36_0_Steps, .int .i64 r36_0_Sent, .int .i64 r36_0_Parts] = some H8 ∧
                    FW Ee F_wire_NewWriter [] H8 fun v_5 H9 =>
                      ∃ (r39 : Option Addr),
                      v_5 = .pointer r39 ∧
                      ∃ (t41_Program : List UInt8) (t41_Graph_Verticesa : Option Addr) (t41_Graph_Verticesl : Nat) (t41_Graph_Verticesc : Nat) (t41_Paramsa : Option Addr) (t41_Paramsl : Nat) (t41_Paramsc : Nat) (t41_Steps : Int) (t41_Sent : Int) (t41_Parts : Int),
                      H9.cell H.next (0 + 0) = some (.string ⟨⟨t41_Program⟩⟩) ∧
                      H9.cell H.next (0 + 1) = some (.slice t41_Graph_Verticesa t41_Graph_Verticesl t41_Graph_Verticesc) ∧
                      H9.cell H.next (0 + 2) = some (.slice t41_Paramsa t41_Paramsl t41_Paramsc) ∧
                      H9.cell H.next (0 + 3) = some (.int .i64 t41_Steps) ∧
                      H9.cell H.next (0 + 4) = some (.int .i64 t41_Sent) ∧
                      H9.cell H.next (0 + 5) = some (.int .i64 t41_Parts) ∧
                      FW Ee F_run_PutJob [.pointer r39, .agg ⟨[.string ⟨⟨t41_Program⟩⟩, .slice t41_Graph_Verticesa t41_Graph_Verticesl t41_Graph_Verticesc, .slice t41_Paramsa t41_Paramsl t41_Paramsc, .int .i64 t41_Steps, .int .i64 t41_Sent, .int .i64 t41_Parts]⟩] H9 fun v_6 H10 =>
                        v_6 = .tuple ⟨[]⟩ ∧
                        FW Ee F_wire_Writer_All [.pointer r39] H10 fun v_7 H11 =>
                          ∃ (r44 : List UInt8),
                          v_7 = .string ⟨⟨r44⟩⟩ ∧
                          (r44 : List UInt8).length + ([120] : List UInt8).length < 4611686018427387904 ∧
                          FW Ee F_wire_NewReader [.string ⟨⟨r44 ++ [120]⟩⟩] H11 fun v_8 H12 =>
                            ∃ (r46 : Option Addr),
                            v_8 = .pointer r46 ∧
                            FW Ee F_run_TakeJob [.pointer r46] H12 fun v_9 H13 =>
                              ∃ (r48_Program : List UInt8) (r48_Graph_Verticesa : Option Addr) (r48_Graph_Verticesl : Nat) (r48_Graph_Verticesc : Nat) (r48_Paramsa : Option Addr) (r48_Paramsl : Nat) (r48_Paramsc : Nat) (r48_Steps : Int) (r48_Sent : Int) (r48_Parts : Int),
                              v_9 = .agg ⟨[.string ⟨⟨r48_Program⟩⟩, .slice r48_Graph_Verticesa r48_Graph_Verticesl r48_Graph_Verticesc, .slice r48_Paramsa r48_Paramsl r48_Paramsc, .int .i64 r48_Steps, .int .i64 r48_Sent, .int .i64 r48_Parts]⟩ ∧
                              ∀ (H14 : AH),
                              H14 = H13.new (.cells [.string ⟨⟨[]⟩⟩, .slice none 0 0, .slice none 0 0, .int .i64 0, .int .i64 0, .int .i64 0] 0) →
                              ∃ (H15 : AH),
                              storeCellsv H14 H13.next 0 [.string ⟨⟨r48_Program⟩⟩, .slice r48_Graph_Verticesa r48_Graph_Verticesl r48_Graph_Verticesc, .slice r48_Paramsa r48_Paramsl r48_Paramsc, .int .i64 r48_Steps, .int .i64 r48_Sent, .int .i64 r48_Parts] = some H15 ∧
                              ∃ (t50_Program : List UInt8) (t50_Graph_Verticesa : Option Addr) (t50_Graph_Verticesl : Nat) (t50_Graph_Verticesc : Nat) (t50_Paramsa : Option Addr) (t50_Paramsl : Nat) (t50_Paramsc : Nat) (t50_Steps : Int) (t50_Sent : Int) (t50_Parts : Int),
                              H15.cell H.next (0 + 0) = some (.string ⟨⟨t50_Program⟩⟩) ∧
                              H15.cell H.next (0 + 1) = some (.slice t50_Graph_Verticesa t50_Graph_Verticesl t50_Graph_Verticesc) ∧
                              H15.cell H.next (0 + 2) = some (.slice t50_Paramsa t50_Paramsl t50_Paramsc) ∧
                              H15.cell H.next (0 + 3) = some (.int .i64 t50_Steps) ∧
                              H15.cell H.next (0 + 4) = some (.int .i64 t50_Sent) ∧
                              H15.cell H.next (0 + 5) = some (.int .i64 t50_Parts) ∧
                              FW Ee F_cohortlaw09_Ref [.agg ⟨[.string ⟨⟨t50_Program⟩⟩, .slice t50_Graph_Verticesa t50_Graph_Verticesl t50_Graph_Verticesc, .slice t50_Paramsa t50_Paramsl t50_Paramsc, .int .i64 t50_Steps, .int .i64 t50_Sent, .int .i64 t50_Parts]⟩] H15 fun v_10 H16 =>
                                ∃ (r51_Program : List UInt8) (r51_Grapha : Option Addr) (r51_Graphl : Nat) (r51_Graphc : Nat) (r51_Paramsa : Option Addr) (r51_Paramsl : Nat) (r51_Paramsc : Nat) (r51_Steps : Int) (r51_Sent : Int) (r51_Parts : Int),
                                v_10 = .agg ⟨[.string ⟨⟨r51_Program⟩⟩, .slice r51_Grapha r51_Graphl r51_Graphc, .slice r51_Paramsa r51_Paramsl r51_Paramsc, .int .i64 r51_Steps, .int .i64 r51_Sent, .int .i64 r51_Parts]⟩ ∧
                                FW Ee F_cohortref09_JobBytes [.agg ⟨[.string ⟨⟨r51_Program⟩⟩, .slice r51_Grapha r51_Graphl r51_Graphc, .slice r51_Paramsa r51_Paramsl r51_Paramsc, .int .i64 r51_Steps, .int .i64 r51_Sent, .int .i64 r51_Parts]⟩] H16 fun v_11 H17 =>
                                  ∃ (r52 : List UInt8),
                                  v_11 = .string ⟨⟨r52⟩⟩ ∧
                                  cond (!((r19_0 : List UInt8) == r52)) (
                                    Q (.bool false) H17) (
                                    cond (r36_1 != 0) (
                                      Q (.bool false) H17) (
                                      ∃ (t59_Program : List UInt8) (t59_Graph_Verticesa : Option Addr) (t59_Graph_Verticesl : Nat) (t59_Graph_Verticesc : Nat) (t59_Paramsa : Option Addr) (t59_Paramsl : Nat) (t59_Paramsc : Nat) (t59_Steps : Int) (t59_Sent : Int) (t59_Parts : Int),
                                      H17.cell H6.next (0 + 0) = some (.string ⟨⟨t59_Program⟩⟩) ∧
                                      H17.cell H6.next (0 + 1) = some (.slice t59_Graph_Verticesa t59_Graph_Verticesl t59_Graph_Verticesc) ∧
                                      H17.cell H6.next (0 + 2) = some (.slice t59_Paramsa t59_Paramsl t59_Paramsc) ∧
                                      H17.cell H6.next (0 + 3) = some (.int .i64 t59_Steps) ∧
                                      H17.cell H6.next (0 + 4) = some (.int .i64 t59_Sent) ∧
                                      H17.cell H6.next (0 + 5) = some (.int .i64 t59_Parts) ∧
                                      FW Ee F_cohortlaw09_Ref [.agg ⟨[.string ⟨⟨t59_Program⟩⟩, .slice t59_Graph_Verticesa t59_Graph_Verticesl t59_Graph_Verticesc, .slice t59_Paramsa t59_Paramsl t59_Paramsc, .int .i64 t59_Steps, .int .i64 t59_Sent, .int .i64 t59_Parts]⟩] H17 fun v_12 H18 =>
                                        ∃ (r60_Program : List UInt8) (r60_Grapha : Option Addr) (r60_Graphl : Nat) (r60_Graphc : Nat) (r60_Paramsa : Option Addr) (r60_Paramsl : Nat) (r60_Paramsc : Nat) (r60_Steps : Int) (r60_Sent : Int) (r60_Parts : Int),
                                        v_12 = .agg ⟨[.string ⟨⟨r60_Program⟩⟩, .slice r60_Grapha r60_Graphl r60_Graphc, .slice r60_Paramsa r60_Paramsl r60_Paramsc, .int .i64 r60_Steps, .int .i64 r60_Sent, .int .i64 r60_Parts]⟩ ∧
                                        FW Ee F_cohortref09_JobBytes [.agg ⟨[.string ⟨⟨r60_Program⟩⟩, .slice r60_Grapha r60_Graphl r60_Graphc, .slice r60_Paramsa r60_Paramsl r60_Paramsc, .int .i64 r60_Steps, .int .i64 r60_Sent, .int .i64 r60_Parts]⟩] H18 fun v_13 H19 =>
                                          ∃ (r61 : List UInt8),
                                          v_13 = .string ⟨⟨r61⟩⟩ ∧
                                          cond (!((r61 : List UInt8) == r19_0)) (
                                            Q (.bool false) H19) (
                                            FW Ee F_wire_Writer_All [.pointer r39] H19 fun v_14 H20 =>
                                              ∃ (r67 : List UInt8),
                                              v_14 = .string ⟨⟨r67⟩⟩ ∧
                                              cond (!((r67 : List UInt8) == r19_0)) (
                                                Q (.bool false) H20) (
                                                ∃ (t72_Program : List UInt8) (t72_Graph_Verticesa : Option Addr) (t72_Graph_Verticesl : Nat) (t72_Graph_Verticesc : Nat) (t72_Paramsa : Option Addr) (t72_Paramsl : Nat) (t72_Paramsc : Nat) (t72_Steps : Int) (t72_Sent : Int) (t72_Parts : Int),
                                                H20.cell H13.next (0 + 0) = some (.string ⟨⟨t72_Program⟩⟩) ∧
                                                H20.cell H13.next (0 + 1) = some (.slice t72_Graph_Verticesa t72_Graph_Verticesl t72_Graph_Verticesc) ∧
                                                H20.cell H13.next (0 + 2) = some (.slice t72_Paramsa t72_Paramsl t72_Paramsc) ∧
                                                H20.cell H13.next (0 + 3) = some (.int .i64 t72_Steps) ∧
                                                H20.cell H13.next (0 + 4) = some (.int .i64 t72_Sent) ∧
                                                H20.cell H13.next (0 + 5) = some (.int .i64 t72_Parts) ∧
                                                FW Ee F_cohortlaw09_Ref [.agg ⟨[.string ⟨⟨t72_Program⟩⟩, .slice t72_Graph_Verticesa t72_Graph_Verticesl t72_Graph_Verticesc, .slice t72_Paramsa t72_Paramsl t72_Paramsc, .int .i64 t72_Steps, .int .i64 t72_Sent, .int .i64 t72_Parts]⟩] H20 fun v_15 H21 =>
                                                  ∃ (r73_Program : List UInt8) (r73_Grapha : Option Addr) (r73_Graphl : Nat) (r73_Graphc : Nat) (r73_Paramsa : Option Addr) (r73_Paramsl : Nat) (r73_Paramsc : Nat) (r73_Steps : Int) (r73_Sent : Int) (r73_Parts : Int),
                                                  v_15 = .agg ⟨[.string ⟨⟨r73_Program⟩⟩, .slice r73_Grapha r73_Graphl r73_Graphc, .slice r73_Paramsa r73_Paramsl r73_Paramsc, .int .i64 r73_Steps, .int .i64 r73_Sent, .int .i64 r73_Parts]⟩ ∧
                                                  FW Ee F_cohortref09_JobBytes [.agg ⟨[.string ⟨⟨r73_Program⟩⟩, .slice r73_Grapha r73_Graphl r73_Graphc, .slice r73_Paramsa r73_Paramsl r73_Paramsc, .int .i64 r73_Steps, .int .i64 r73_Sent, .int .i64 r73_Parts]⟩] H21 fun v_16 H22 =>
                                                    ∃ (r74 : List UInt8),
                                                    v_16 = .string ⟨⟨r74⟩⟩ ∧
                                                    cond (!((r74 : List UInt8) == r19_0)) (
                                                      Q (.bool false) H22) (
                                                      FW Ee F_wire_Reader_Left [.pointer r46] H22 fun v_17 H23 =>
                                                        ∃ (r80 : Int),
                                                        v_17 = .int .i64 r80 ∧
                                                        cond (r80 != 1) (
                                                          Q (.bool false) H23) (
                                                          J_1 false H23))))))) (
                  cond (!((r19_0 : List UInt8) == [])) (
                    Q (.bool false) H5) (
                    J_1 false H5))) ∧
              ∀ (t4 : Bool) (H24 : AH),
              J_1 t4 H24 →
              FW Ee F_run_DecodeJob [.string ⟨⟨s1⟩⟩] H24 fun v_18 H25 =>
                ∃ (r87_0_Program : List UInt8) (r87_0_Graph_Verticesa : Option Addr) (r87_0_Graph_Verticesl : Nat) (r87_0_Graph_Verticesc : Nat) (r87_0_Paramsa : Option Addr) (r87_0_Paramsl : Nat) (r87_0_Paramsc : Nat) (r87_0_Steps : Int) (r87_0_Sent : Int) (r87_0_Parts : Int) (r87_1 : Int),
                v_18 = .tuple ⟨[.agg ⟨[.string ⟨⟨r87_0_Program⟩⟩, .slice r87_0_Graph_Verticesa r87_0_Graph_Verticesl r87_0_Graph_Verticesc, .slice r87_0_Paramsa r87_0_Paramsl r87_0_Paramsc, .int .i64 r87_0_Steps, .int .i64 r87_0_Sent, .int .i64 r87_0_Parts]⟩, .int .i64 r87_1]⟩ ∧
                ∀ (H26 : AH),
                H26 = H25.new (.cells [.string ⟨⟨[]⟩⟩, .slice none 0 0, .slice none 0 0, .int .i64 0, .int .i64 0, .int .i64 0] 0) →
                ∃ (H27 : AH),
                storeCellsv H26 H25.next 0 [.string ⟨⟨r87_0_Program⟩⟩, .slice r87_0_Graph_Verticesa r87_0_Graph_Verticesl r87_0_Graph_Verticesc, .slice r87_0_Paramsa r87_0_Paramsl r87_0_Paramsc, .int .i64 r87_0_Steps, .int .i64 r87_0_Sent, .int .i64 r87_0_Parts] = some H27 ∧
                FW Ee F_cohortref09_Decode [.string ⟨⟨s1⟩⟩] H27 fun v_19 H28 =>
                  ∃ (r92_0_Program : List UInt8) (r92_0_Grapha : Option Addr) (r92_0_Graphl : Nat) (r92_0_Graphc : Nat) (r92_0_Paramsa : Option Addr) (r92_0_Paramsl : Nat) (r92_0_Paramsc : Nat) (r92_0_Steps : Int) (r92_0_Sent : Int) (r92_0_Parts : Int) (r92_1 : Int),
                  v_19 = .tuple ⟨[.agg ⟨[.string ⟨⟨r92_0_Program⟩⟩, .slice r92_0_Grapha r92_0_Graphl r92_0_Graphc, .slice r92_0_Paramsa r92_0_Paramsl r92_0_Paramsc, .int .i64 r92_0_Steps, .int .i64 r92_0_Sent, .int .i64 r92_0_Parts]⟩, .int .i64 r92_1]⟩ ∧
                  ∀ (H29 : AH),
                  H29 = H28.new (.cells [.string ⟨⟨[]⟩⟩, .slice none 0 0, .slice none 0 0, .int .i64 0, .int .i64 0, .int .i64 0] 0) →
                  ∃ (H30 : AH),
                  storeCellsv H29 H28.next 0 [.string ⟨⟨r92_0_Program⟩⟩, .slice r92_0_Grapha r92_0_Graphl r92_0_Graphc, .slice r92_0_Paramsa r92_0_Paramsl r92_0_Paramsc, .int .i64 r92_0_Steps, .int .i64 r92_0_Sent, .int .i64 r92_0_Parts] = some H30 ∧
                  cond (r87_1 != r92_1) (
                    Q (.bool false) H30) (
                    cond (r92_1 != 0) (
                      ∃ (t102 : List UInt8),
                      H30.cell H25.next 0 = some (.string ⟨⟨t102⟩⟩) ∧
                      cond ((t102 : List UInt8) == []) (
                        ∃ (t108a : Option Addr) (t108l : Nat) (t108c : Nat),
                        H30.cell H25.next 1 = some (.slice t108a t108l t108c) ∧
                        cond ((((t108l : Nat) : Int)) == 0) (
                          Q (.bool true) H30) (
                          cond (r92_1 == 0) (
                            ∃ (t116_Program : List UInt8) (t116_Graph_Verticesa : Option Addr) (t116_Graph_Verticesl : Nat) (t116_Graph_Verticesc : Nat) (t116_Paramsa : Option Addr) (t116_Paramsl : Nat) (t116_Paramsc : Nat) (t116_Steps : Int) (t116_Sent : Int) (t116_Parts : Int),
                            H30.cell H25.next (0 + 0) = some (.string ⟨⟨t116_Program⟩⟩) ∧
                            H30.cell H25.next (0 + 1) = some (.slice t116_Graph_Verticesa t116_Graph_Verticesl t116_Graph_Verticesc) ∧
                            H30.cell H25.next (0 + 2) = some (.slice t116_Paramsa t116_Paramsl t116_Paramsc) ∧
                            H30.cell H25.next (0 + 3) = some (.int .i64 t116_Steps) ∧
                            H30.cell H25.next (0 + 4) = some (.int .i64 t116_Sent) ∧
                            H30.cell H25.next (0 + 5) = some (.int .i64 t116_Parts) ∧
                            FW Ee F_cohortlaw09_Ref [.agg ⟨[.string ⟨⟨t116_Program⟩⟩, .slice t116_Graph_Verticesa t116_Graph_Verticesl t116_Graph_Verticesc, .slice t116_Paramsa t116_Paramsl t116_Paramsc, .int .i64 t116_Steps, .int .i64 t116_Sent, .int .i64 t116_Parts]⟩] H30 fun v_20 H31 =>
                              ∃ (r117_Program : List UInt8) (r117_Grapha : Option Addr) (r117_Graphl : Nat) (r117_Graphc : Nat) (r117_Paramsa : Option Addr) (r117_Paramsl : Nat) (r117_Paramsc : Nat) (r117_Steps : Int) (r117_Sent : Int) (r117_Parts : Int),
                              v_20 = .agg ⟨[.string ⟨⟨r117_Program⟩⟩, .slice r117_Grapha r117_Graphl r117_Graphc, .slice r117_Paramsa r117_Paramsl r117_Paramsc, .int .i64 r117_Steps, .int .i64 r117_Sent, .int .i64 r117_Parts]⟩ ∧
                              FW Ee F_cohortref09_JobBytes [.agg ⟨[.string ⟨⟨r117_Program⟩⟩, .slice r117_Grapha r117_Graphl r117_Graphc, .slice r117_Paramsa r117_Paramsl r117_Paramsc, .int .i64 r117_Steps, .int .i64 r117_Sent, .int .i64 r117_Parts]⟩] H31 fun v_21 H32 =>
                                ∃ (r118 : List UInt8),
                                v_21 = .string ⟨⟨r118⟩⟩ ∧
                                ∃ (t119_Program : List UInt8) (t119_Grapha : Option Addr) (t119_Graphl : Nat) (t119_Graphc : Nat) (t119_Paramsa : Option Addr) (t119_Paramsl : Nat) (t119_Paramsc : Nat) (t119_Steps : Int) (t119_Sent : Int) (t119_Parts : Int),
                                H32.cell H28.next (0 + 0) = some (.string ⟨⟨t119_Program⟩⟩) ∧
                                H32.cell H28.next (0 + 1) = some (.slice t119_Grapha t119_Graphl t119_Graphc) ∧
                                H32.cell H28.next (0 + 2) = some (.slice t119_Paramsa t119_Paramsl t119_Paramsc) ∧
                                H32.cell H28.next (0 + 3) = some (.int .i64 t119_Steps) ∧
                                H32.cell H28.next (0 + 4) = some (.int .i64 t119_Sent) ∧
                                H32.cell H28.next (0 + 5) = some (.int .i64 t119_Parts) ∧
                                FW Ee F_cohortref09_JobBytes [.agg ⟨[.string ⟨⟨t119_Program⟩⟩, .slice t119_Grapha t119_Graphl t119_Graphc, .slice t119_Paramsa t119_Paramsl t119_Paramsc, .int .i64 t119_Steps, .int .i64 t119_Sent, .int .i64 t119_Parts]⟩] H32 fun v_22 H33 =>
                                  ∃ (r120 : List UInt8),
                                  v_22 = .string ⟨⟨r120⟩⟩ ∧
                                  H31.cell H28.next (0 + 0) = some (.string ⟨⟨t119_Program⟩⟩) ∧
                                  H31.cell H28.next (0 + 1) = some (.slice t119_Grapha t119_Graphl t119_Graphc) ∧
                                  H31.cell H28.next (0 + 2) = some (.slice t119_Paramsa t119_Paramsl t119_Paramsc) ∧
                                  H31.cell H28.next (0 + 3) = some (.int .i64 t119_Steps) ∧
                                  H31.cell H28.next (0 + 4) = some (.int .i64 t119_Sent) ∧
                                  H31.cell H28.next (0 + 5) = some (.int .i64 t119_Parts) ∧
                                  H30.cell H28.next (0 + 0) = some (.string ⟨⟨t119_Program⟩⟩) ∧
                                  H30.cell H28.next (0 + 1) = some (.slice t119_Grapha t119_Graphl t119_Graphc) ∧
                                  H30.cell H28.next (0 + 2) = some (.slice t119_Paramsa t119_Paramsl t119_Paramsc) ∧
                                  H30.cell H28.next (0 + 3) = some (.int .i64 t119_Steps) ∧
                                  H30.cell H28.next (0 + 4) = some (.int .i64 t119_Sent) ∧
                                  H30.cell H28.next (0 + 5) = some (.int .i64 t119_Parts) ∧
                                  Q (.bool ((r118 : List UInt8) == r120)) H33) (
                            Q (.bool false) H30))) (
                        cond (r92_1 == 0) (
                          ∃ (t116_Program_1 : List UInt8) (t116_Graph_Verticesa_1 : Option Addr) (t116_Graph_Verticesl_1 : Nat) (t116_Graph_Verticesc_1 : Nat) (t116_Paramsa_1 : Option Addr) (t116_Paramsl_1 : Nat) (t116_Paramsc_1 : Nat) (t116_Steps_1 : Int) (t116_Sent_1 : Int) (t116_Parts_1 : Int),
                          H30.cell H25.next (0 + 0) = some (.string ⟨⟨t116_Program_1⟩⟩) ∧
                          H30.cell H25.next (0 + 1) = some (.slice t116_Graph_Verticesa_1 t116_Graph_Verticesl_1 t116_Graph_Verticesc_1) ∧
                          H30.cell H25.next (0 + 2) = some (.slice t116_Paramsa_1 t116_Paramsl_1 t116_Paramsc_1) ∧
                          H30.cell H25.next (0 + 3) = some (.int .i64 t116_Steps_1) ∧
                          H30.cell H25.next (0 + 4) = some (.int .i64 t116_Sent_1) ∧
                          H30.cell H25.next (0 + 5) = some (.int .i64 t116_Parts_1) ∧
                          FW Ee F_cohortlaw09_Ref [.agg ⟨[.string ⟨⟨t116_Program_1⟩⟩, .slice t116_Graph_Verticesa_1 t116_Graph_Verticesl_1 t116_Graph_Verticesc_1, .slice t116_Paramsa_1 t116_Paramsl_1 t116_Paramsc_1, .int .i64 t116_Steps_1, .int .i64 t116_Sent_1, .int .i64 t116_Parts_1]⟩] H30 fun v_23 H34 =>
                            ∃ (r117_Program_1 : List UInt8) (r117_Grapha_1 : Option Addr) (r117_Graphl_1 : Nat) (r117_Graphc_1 : Nat) (r117_Paramsa_1 : Option Addr) (r117_Paramsl_1 : Nat) (r117_Paramsc_1 : Nat) (r117_Steps_1 : Int) (r117_Sent_1 : Int) (r117_Parts_1 : Int),
                            v_23 = .agg ⟨[.string ⟨⟨r117_Program_1⟩⟩, .slice r117_Grapha_1 r117_Graphl_1 r117_Graphc_1, .slice r117_Paramsa_1 r117_Paramsl_1 r117_Paramsc_1, .int .i64 r117_Steps_1, .int .i64 r117_Sent_1, .int .i64 r117_Parts_1]⟩ ∧
                            FW Ee F_cohortref09_JobBytes [.agg ⟨[.string ⟨⟨r117_Program_1⟩⟩, .slice r117_Grapha_1 r117_Graphl_1 r117_Graphc_1, .slice r117_Paramsa_1 r117_Paramsl_1 r117_Paramsc_1, .int .i64 r117_Steps_1, .int .i64 r117_Sent_1, .int .i64 r117_Parts_1]⟩] H34 fun v_24 H35 =>
                              ∃ (r118_1 : List UInt8),
                              v_24 = .string ⟨⟨r118_1⟩⟩ ∧
                              ∃ (t119_Program_1 : List UInt8) (t119_Grapha_1 : Option Addr) (t119_Graphl_1 : Nat) (t119_Graphc_1 : Nat) (t119_Paramsa_1 : Option Addr) (t119_Paramsl_1 : Nat) (t119_Paramsc_1 : Nat) (t119_Steps_1 : Int) (t119_Sent_1 : Int) (t119_Parts_1 : Int),
                              H35.cell H28.next (0 + 0) = some (.string ⟨⟨t119_Program_1⟩⟩) ∧
                              H35.cell H28.next (0 + 1) = some (.slice t119_Grapha_1 t119_Graphl_1 t119_Graphc_1) ∧
                              H35.cell H28.next (0 + 2) = some (.slice t119_Paramsa_1 t119_Paramsl_1 t119_Paramsc_1) ∧
                              H35.cell H28.next (0 + 3) = some (.int .i64 t119_Steps_1) ∧
                              H35.cell H28.next (0 + 4) = some (.int .i64 t119_Sent_1) ∧
                              H35.cell H28.next (0 + 5) = some (.int .i64 t119_Parts_1) ∧
                              FW Ee F_cohortref09_JobBytes [.agg ⟨[.string ⟨⟨t119_Program_1⟩⟩, .slice t119_Grapha_1 t119_Graphl_1 t119_Graphc_1, .slice t119_Paramsa_1 t119_Paramsl_1 t119_Paramsc_1, .int .i64 t119_Steps_1, .int .i64 t119_Sent_1, .int .i64 t119_Parts_1]⟩] H35 fun v_25 H36 =>
                                ∃ (r120_1 : List UInt8),
                                v_25 = .string ⟨⟨r120_1⟩⟩ ∧
                                H34.cell H28.next (0 + 0) = some (.string ⟨⟨t119_Program_1⟩⟩) ∧
                                H34.cell H28.next (0 + 1) = some (.slice t119_Grapha_1 t119_Graphl_1 t119_Graphc_1) ∧
                                H34.cell H28.next (0 + 2) = some (.slice t119_Paramsa_1 t119_Paramsl_1 t119_Paramsc_1) ∧
                                H34.cell H28.next (0 + 3) = some (.int .i64 t119_Steps_1) ∧
                                H34.cell H28.next (0 + 4) = some (.int .i64 t119_Sent_1) ∧
                                H34.cell H28.next (0 + 5) = some (.int .i64 t119_Parts_1) ∧
                                H30.cell H28.next (0 + 0) = some (.string ⟨⟨t119_Program_1⟩⟩) ∧
                                H30.cell H28.next (0 + 1) = some (.slice t119_Grapha_1 t119_Graphl_1 t119_Graphc_1) ∧
                                H30.cell H28.next (0 + 2) = some (.slice t119_Paramsa_1 t119_Paramsl_1 t119_Paramsc_1) ∧
                                H30.cell H28.next (0 + 3) = some (.int .i64 t119_Steps_1) ∧
                                H30.cell H28.next (0 + 4) = some (.int .i64 t119_Sent_1) ∧
                                H30.cell H28.next (0 + 5) = some (.int .i64 t119_Parts_1) ∧
                                Q (.bool ((r118_1 : List UInt8) == r120_1)) H36) (
                          Q (.bool false) H30))) (
                      cond (r92_1 == 0) (
                        ∃ (t116_Program_2 : List UInt8) (t116_Graph_Verticesa_2 : Option Addr) (t116_Graph_Verticesl_2 : Nat) (t116_Graph_Verticesc_2 : Nat) (t116_Paramsa_2 : Option Addr) (t116_Paramsl_2 : Nat) (t116_Paramsc_2 : Nat) (t116_Steps_2 : Int) (t116_Sent_2 : Int) (t116_Parts_2 : Int),
                        H30.cell H25.next (0 + 0) = some (.string ⟨⟨t116_Program_2⟩⟩) ∧
                        H30.cell H25.next (0 + 1) = some (.slice t116_Graph_Verticesa_2 t116_Graph_Verticesl_2 t116_Graph_Verticesc_2) ∧
                        H30.cell H25.next (0 + 2) = some (.slice t116_Paramsa_2 t116_Paramsl_2 t116_Paramsc_2) ∧
                        H30.cell H25.next (0 + 3) = some (.int .i64 t116_Steps_2) ∧
                        H30.cell H25.next (0 + 4) = some (.int .i64 t116_Sent_2) ∧
                        H30.cell H25.next (0 + 5) = some (.int .i64 t116_Parts_2) ∧
                        FW Ee F_cohortlaw09_Ref [.agg ⟨[.string ⟨⟨t116_Program_2⟩⟩, .slice t116_Graph_Verticesa_2 t116_Graph_Verticesl_2 t116_Graph_Verticesc_2, .slice t116_Paramsa_2 t116_Paramsl_2 t116_Paramsc_2, .int .i64 t116_Steps_2, .int .i64 t116_Sent_2, .int .i64 t116_Parts_2]⟩] H30 fun v_26 H37 =>
                          ∃ (r117_Program_2 : List UInt8) (r117_Grapha_2 : Option Addr) (r117_Graphl_2 : Nat) (r117_Graphc_2 : Nat) (r117_Paramsa_2 : Option Addr) (r117_Paramsl_2 : Nat) (r117_Paramsc_2 : Nat) (r117_Steps_2 : Int) (r117_Sent_2 : Int) (r117_Parts_2 : Int),
                          v_26 = .agg ⟨[.string ⟨⟨r117_Program_2⟩⟩, .slice r117_Grapha_2 r117_Graphl_2 r117_Graphc_2, .slice r117_Paramsa_2 r117_Paramsl_2 r117_Paramsc_2, .int .i64 r117_Steps_2, .int .i64 r117_Sent_2, .int .i64 r117_Parts_2]⟩ ∧
                          FW Ee F_cohortref09_JobBytes [.agg ⟨[.string ⟨⟨r117_Program_2⟩⟩, .slice r117_Grapha_2 r117_Graphl_2 r117_Graphc_2, .slice r117_Paramsa_2 r117_Paramsl_2 r117_Paramsc_2, .int .i64 r117_Steps_2, .int .i64 r117_Sent_2, .int .i64 r117_Parts_2]⟩] H37 fun v_27 H38 =>
                            ∃ (r118_2 : List UInt8),
                            v_27 = .string ⟨⟨r118_2⟩⟩ ∧
                            ∃ (t119_Program_2 : List UInt8) (t119_Grapha_2 : Option Addr) (t119_Graphl_2 : Nat) (t119_Graphc_2 : Nat) (t119_Paramsa_2 : Option Addr) (t119_Paramsl_2 : Nat) (t119_Paramsc_2 : Nat) (t119_Steps_2 : Int) (t119_Sent_2 : Int) (t119_Parts_2 : Int),
                            H38.cell H28.next (0 + 0) = some (.string ⟨⟨t119_Program_2⟩⟩) ∧
                            H38.cell H28.next (0 + 1) = some (.slice t119_Grapha_2 t119_Graphl_2 t119_Graphc_2) ∧
                            H38.cell H28.next (0 + 2) = some (.slice t119_Paramsa_2 t119_Paramsl_2 t119_Paramsc_2) ∧
                            H38.cell H28.next (0 + 3) = some (.int .i64 t119_Steps_2) ∧
                            H38.cell H28.next (0 + 4) = some (.int .i64 t119_Sent_2) ∧
                            H38.cell H28.next (0 + 5) = some (.int .i64 t119_Parts_2) ∧
                            FW Ee F_cohortref09_JobBytes [.agg ⟨[.string ⟨⟨t119_Program_2⟩⟩, .slice t119_Grapha_2 t119_Graphl_2 t119_Graphc_2, .slice t119_Paramsa_2 t119_Paramsl_2 t119_Paramsc_2, .int .i64 t119_Steps_2, .int .i64 t119_Sent_2, .int .i64 t119_Parts_2]⟩] H38 fun v_28 H39 =>
                              ∃ (r120_2 : List UInt8),
                              v_28 = .string ⟨⟨r120_2⟩⟩ ∧
                              H37.cell H28.next (0 + 0) = some (.string ⟨⟨t119_Program_2⟩⟩) ∧
                              H37.cell H28.next (0 + 1) = some (.slice t119_Grapha_2 t119_Graphl_2 t119_Graphc_2) ∧
                              H37.cell H28.next (0 + 2) = some (.slice t119_Paramsa_2 t119_Paramsl_2 t119_Paramsc_2) ∧
                              H37.cell H28.next (0 + 3) = some (.int .i64 t119_Steps_2) ∧
                              H37.cell H28.next (0 + 4) = some (.int .i64 t119_Sent_2) ∧
                              H37.cell H28.next (0 + 5) = some (.int .i64 t119_Parts_2) ∧
                              H30.cell H28.next (0 + 0) = some (.string ⟨⟨t119_Program_2⟩⟩) ∧
                              H30.cell H28.next (0 + 1) = some (.slice t119_Grapha_2 t119_Graphl_2 t119_Graphc_2) ∧
                              H30.cell H28.next (0 + 2) = some (.slice t119_Paramsa_2 t119_Paramsl_2 t119_Paramsc_2) ∧
                              H30.cell H28.next (0 + 3) = some (.int .i64 t119_Steps_2) ∧
                              H30.cell H28.next (0 + 4) = some (.int .i64 t119_Sent_2) ∧
                              H30.cell H28.next (0 + 5) = some (.int .i64 t119_Parts_2) ∧
                              Q (.bool ((r118_2 : List UInt8) == r120_2)) H39) (
                        Q (.bool false) H30)))))
set_option maxRecDepth 100000 in
theorem fw_cohortlaw09_RunJobs {j0_Program : List UInt8} {j0_Graph_Verticesa : Option Addr} {j0_Graph_Verticesl : Nat} {j0_Graph_Verticesc : Nat} {j0_Paramsa : Option Addr} {j0_Paramsl : Nat} {j0_Paramsc : Nat} {j0_Steps : Int} {j0_Sent : Int} {j0_Parts : Int} {s1 : List UInt8} {H : AH} {Q : Value → AH → Prop} (h : VC_cohortlaw09_RunJobs j0_Program j0_Graph_Verticesa j0_Graph_Verticesl j0_Graph_Verticesc j0_Paramsa j0_Paramsl j0_Paramsc j0_Steps j0_Sent j0_Parts s1 H Q) : FW Ee F_cohortlaw09_RunJobs [.agg ⟨[.string ⟨⟨j0_Program⟩⟩, .slice j0_Graph_Verticesa j0_Graph_Verticesl j0_Graph_Verticesc, .slice j0_Paramsa j0_Paramsl j0_Paramsc, .int .i64 j0_Steps, .int .i64 j0_Sent, .int .i64 j0_Parts]⟩, .string ⟨⟨s1⟩⟩] H Q := by
  have e : VC_cohortlaw09_RunJobs j0_Program j0_Graph_Verticesa j0_Graph_Verticesl j0_Graph_Verticesc j0_Paramsa j0_Paramsl j0_Paramsc j0_Steps j0_Sent j0_Parts s1 H Q = wpF Ee ⟨[], [33]⟩ F_cohortlaw09_RunJobs [.agg ⟨[.string ⟨⟨j0_Program⟩⟩, .slice j0_Graph_Verticesa j0_Graph_Verticesl j0_Graph_Verticesc, .slice j0_Paramsa j0_Paramsl j0_Paramsc, .int .i64 j0_Steps, .int .i64 j0_Sent, .int .i64 j0_Parts]⟩, .string ⟨⟨s1⟩⟩] H Q := by kernel_rfl
  letI : Sy := sy0
  exact wpF_sound (Eq.mp e h)
end Go.Proofs.Cx
