/- What calls come to, as formulas: printed by a program. -/
import Derived.Test.YtkkcknfeljgdcaaGreatVc0
namespace Go.Proofs.Cx
open Go Go.Ev
set_option linter.unusedVariables false
set_option maxRecDepth 100000
set_option maxHeartbeats 8000000
/-- cohort/kern.Programs -/
def VC_kern_Programs  (H : AH) (Q : Value → AH → Prop) : Prop :=
 ∀ (H1 : AH),
 H1 = H.new (.cells [.string ⟨⟨[98, 102, 115]⟩⟩, .string ⟨⟨[99, 99]⟩⟩, .string ⟨⟨[99, 111, 108, 111, 114, 115]⟩⟩, .string ⟨⟨[100, 101, 103, 114, 101, 101]⟩⟩, .string ⟨⟨[107, 99, 111, 114, 101]⟩⟩, .string ⟨⟨[108, 97, 98, 101, 108, 115]⟩⟩, .string ⟨⟨[109, 97, 116, 99, 104, 105, 110, 103]⟩⟩, .string ⟨⟨[112, 97, 103, 101, 114, 97, 110, 107]⟩⟩, .string ⟨⟨[115, 115, 115, 112]⟩⟩, .string ⟨⟨[116, 114, 105, 97, 110, 103, 108, 101, 115]⟩⟩] 0) →
 Q (.slice (some ⟨H.next, 0, none⟩) 10 20) H1
set_option maxRecDepth 100000 in
theorem fw_kern_Programs  {H : AH} {Q : Value → AH → Prop} (h : VC_kern_Programs  H Q) : FW Ee F_kern_Programs [] H Q := by
  have e : VC_kern_Programs  H Q = wpF Ee ⟨[], []⟩ F_kern_Programs [] H Q := by kernel_rfl
  letI : Sy := sy0
  exact wpF_sound (Eq.mp e h)
/-- cohort/kern.Turns -/
def VC_kern_Turns (params0a : Option Addr) (params0l : Nat) (params0c : Nat) (H : AH) (Q : Value → AH → Prop) : Prop :=
 cond ((((params0l : Nat) : Int)) != 1) (
 Q (.int .i64 71) H) (
 grd params0a.isSome (
 (0 : Int) ≤ 0 ∧
 (0 : Int) < ((params0l : Nat) : Int) ∧
 ∃ (t9 : Int),
 H.cell ((adr params0a).block) ((adr params0a).off + (0 : Int).toNat * 1) = some (.int .i64 t9) ∧
 cond (decide (t9 < 0)) (
 Q (.int .i64 71) H) (
 grd params0a.isSome (
 (0 : Int) ≤ 0 ∧
 (0 : Int) < ((params0l : Nat) : Int) ∧
 ∃ (t15 : Int),
 H.cell ((adr params0a).block) ((adr params0a).off + (0 : Int).toNat * 1) = some (.int .i64 t15) ∧
 cond (decide (t15 > 100)) (
 Q (.int .i64 71) H) (
 Q (.int .i64 0) H)))))
set_option maxRecDepth 100000 in
theorem fw_kern_Turns {params0a : Option Addr} {params0l : Nat} {params0c : Nat} {H : AH} {Q : Value → AH → Prop} (h : VC_kern_Turns params0a params0l params0c H Q) : FW Ee F_kern_Turns [.slice params0a params0l params0c] H Q := by
  have e : VC_kern_Turns params0a params0l params0c H Q = wpF Ee ⟨[], []⟩ F_kern_Turns [.slice params0a params0l params0c] H Q := by kernel_rfl
  letI : Sy := sy0
  exact wpF_sound (Eq.mp e h)
/-- cohort/kern.None -/
def VC_kern_None (params0a : Option Addr) (params0l : Nat) (params0c : Nat) (H : AH) (Q : Value → AH → Prop) : Prop :=
 cond ((((params0l : Nat) : Int)) != 0) (
 Q (.int .i64 71) H) (
 Q (.int .i64 0) H)
set_option maxRecDepth 100000 in
theorem fw_kern_None {params0a : Option Addr} {params0l : Nat} {params0c : Nat} {H : AH} {Q : Value → AH → Prop} (h : VC_kern_None params0a params0l params0c H Q) : FW Ee F_kern_None [.slice params0a params0l params0c] H Q := by
  have e : VC_kern_None params0a params0l params0c H Q = wpF Ee ⟨[], []⟩ F_kern_None [.slice params0a params0l params0c] H Q := by kernel_rfl
  letI : Sy := sy0
  exact wpF_sound (Eq.mp e h)
/-- cohort/kern.Source -/
def VC_kern_Source (g0_Verticesa : Option Addr) (g0_Verticesl : Nat) (g0_Verticesc : Nat) (params1a : Option Addr) (params1l : Nat) (params1c : Nat) (H : AH) (Q : Value → AH → Prop) : Prop :=
 ∀ (H1 : AH),
 H1 = H.new (.cells [.slice g0_Verticesa g0_Verticesl g0_Verticesc] 0) →
 cond ((((params1l : Nat) : Int)) != 1) (
 Q (.int .i64 71) H1) (
 ∃ (t11_Verticesa : Option Addr) (t11_Verticesl : Nat) (t11_Verticesc : Nat),
 H1.cell H.next (0 + 0) = some (.slice t11_Verticesa t11_Verticesl t11_Verticesc) ∧
 grd params1a.isSome (
 (0 : Int) ≤ 0 ∧
 (0 : Int) < ((params1l : Nat) : Int) ∧
 ∃ (t14 : Int),
 H1.cell ((adr params1a).block) ((adr params1a).off + (0 : Int).toNat * 1) = some (.int .i64 t14) ∧
 FW Ee F_graph_Find [.agg ⟨[.slice t11_Verticesa t11_Verticesl t11_Verticesc]⟩, .int .i64 t14] H1 fun v H2 =>
 ∃ (r15_0 : Int) (r15_1 : Bool),
 v = .tuple ⟨[.int .i64 r15_0, .bool r15_1]⟩ ∧
 cond (!r15_1) (
 Q (.int .i64 71) H2) (
 Q (.int .i64 0) H2)))
set_option maxRecDepth 100000 in
theorem fw_kern_Source {g0_Verticesa : Option Addr} {g0_Verticesl : Nat} {g0_Verticesc : Nat} {params1a : Option Addr} {params1l : Nat} {params1c : Nat} {H : AH} {Q : Value → AH → Prop} (h : VC_kern_Source g0_Verticesa g0_Verticesl g0_Verticesc params1a params1l params1c H Q) : FW Ee F_kern_Source [.agg ⟨[.slice g0_Verticesa g0_Verticesl g0_Verticesc]⟩, .slice params1a params1l params1c] H Q := by
  have e : VC_kern_Source g0_Verticesa g0_Verticesl g0_Verticesc params1a params1l params1c H Q = wpF Ee ⟨[], []⟩ F_kern_Source [.agg ⟨[.slice g0_Verticesa g0_Verticesl g0_Verticesc]⟩, .slice params1a params1l params1c] H Q := by kernel_rfl
  letI : Sy := sy0
  exact wpF_sound (Eq.mp e h)
/-- cohort/kern.Check -/
def VC_kern_Check (program0 : List UInt8) (g1_Verticesa : Option Addr) (g1_Verticesl : Nat) (g1_Verticesc : Nat) (params2a : Option Addr) (params2l : Nat) (params2c : Nat) (H : AH) (Q : Value → AH → Prop) : Prop :=
 ∀ (H1 : AH),
 H1 = H.new (.cells [.slice g1_Verticesa g1_Verticesl g1_Verticesc] 0) →
 ∀ (H2 : AH),
 H2 = H1.new (.cells [.int .i64 0] 0) →
 cond ((program0 : List UInt8) == [98, 102, 115]) (
 ∃ (t12_Verticesa : Option Addr) (t12_Verticesl : Nat) (t12_Verticesc : Nat),
 H2.cell H.next (0 + 0) = some (.slice t12_Verticesa t12_Verticesl t12_Verticesc) ∧
 FW Ee F_kern_Source [.agg ⟨[.slice t12_Verticesa t12_Verticesl t12_Verticesc]⟩, .slice params2a params2l params2c] H2 fun v H3 =>
 ∃ (r14 : Int),
 v = .int .i64 r14 ∧
 ∃ (H4 : AH),
 storeCellsv H3 H1.next 0 [.int .i64 r14] = some H4 ∧
 ∃ (r6 : Int),
 H4.cell H1.next 0 = some (.int .i64 r6) ∧
 Q (.int .i64 r6) H4) (
 cond ((program0 : List UInt8) == [115, 115, 115, 112]) (
 ∃ (t17_Verticesa : Option Addr) (t17_Verticesl : Nat) (t17_Verticesc : Nat),
 H2.cell H.next (0 + 0) = some (.slice t17_Verticesa t17_Verticesl t17_Verticesc) ∧
 FW Ee F_graph_All [.agg ⟨[.slice t17_Verticesa t17_Verticesl t17_Verticesc]⟩] H2 fun v_1 H5 =>
 ∃ (b18 : Nat),
 v_1 = .func (.func F_graph_All_1) ⟨[]⟩ ⟨[.pointer (some ⟨b18, 0, none⟩)]⟩ ∧
 ∀ (L : ALoop),
 RdL 36 Ee.g [(6, .pointer (some ⟨H1.next, 0, none⟩))] (rfOf Ee F_kern_Check 0) L →
 L.st = .ready →
 L.pend = none →
 FW Ee F_graph_All_1 [.func (.yield H5.next) ⟨[]⟩ ⟨[]⟩, .pointer (some ⟨b18, 0, none⟩)] (H5.new (.loop L)) fun _ H6 =>
 ∃ (L_1 : ALoop),
 H6.get H5.next = some (.loop L_1) ∧
 L_1.st ≠ .busy ∧
 match L_1.pend with
 | none =>
 ∃ (t24_Verticesa_1 : Option Addr) (t24_Verticesl_1 : Nat) (t24_Verticesc_1 : Nat),
 (H6.set H5.next (.loop { L_1 with st := .exhausted })).cell H.next (0 + 0) = some (.slice t24_Verticesa_1 t24_Verticesl_1 t24_Verticesc_1) ∧
 FW Ee F_kern_Source [.agg ⟨[.slice t24_Verticesa_1 t24_Verticesl_1 t24_Verticesc_1]⟩, .slice params2a params2l params2c] ((H6.set H5.next (.loop { L_1 with st := .exhausted }))) fun v_3 H10 =>
 ∃ (r26_1 : Int),
 v_3 = .int .i64 r26_1 ∧
 ∃ (H11 : AH),
 storeCellsv H10 H1.next 0 [.int .i64 r26_1] = some H11 ∧
 ∃ (r6_3 : Int),
 H11.cell H1.next 0 = some (.int .i64 r6_3) ∧
 Q (.int .i64 r6_3) H11
 | some (.exit i) =>
 cond (Nat.beq i 1) (
 ∃ (t24_Verticesa : Option Addr) (t24_Verticesl : Nat) (t24_Verticesc : Nat),
 (H6.set H5.next (.loop { L_1 with st := .exhausted })).cell H.next (0 + 0) = some (.slice t24_Verticesa t24_Verticesl t24_Verticesc) ∧
 FW Ee F_kern_Source [.agg ⟨[.slice t24_Verticesa t24_Verticesl t24_Verticesc]⟩, .slice params2a params2l params2c] ((H6.set H5.next (.loop { L_1 with st := .exhausted }))) fun v_2 H7 =>
 ∃ (r26 : Int),
 v_2 = .int .i64 r26 ∧
 ∃ (H8 : AH),
 storeCellsv H7 H1.next 0 [.int .i64 r26] = some H8 ∧
 ∃ (r6_1 : Int),
 H8.cell H1.next 0 = some (.int .i64 r6_1) ∧
 Q (.int .i64 r6_1) H8) (
 cond (Nat.beq i 0) (
 ∃ (H9 : AH),
 storeCellsv ((H6.set H5.next (.loop { L_1 with st := .exhausted }))) H1.next 0 [.int .i64 70] = some H9 ∧
 ∃ (r6_2 : Int),
 H9.cell H1.next 0 = some (.int .i64 r6_2) ∧
 Q (.int .i64 r6_2) H9) (
 False))
 | some .ret =>
 ∃ (r6_4 : Int),
 (H6.set H5.next (.loop { L_1 with st := .exhausted })).cell H1.next 0 = some (.int .i64 r6_4) ∧
 Q (.int .i64 r6_4) ((H6.set H5.next (.loop { L_1 with st := .exhausted })))
 | _ =>
 False) (
 cond ((program0 : List UInt8) == [112, 97, 103, 101, 114, 97, 110, 107]) (
 FW Ee F_kern_Turns [.slice params2a params2l params2c] H2 fun v_4 H12 =>
 ∃ (r30 : Int),
 v_4 = .int .i64 r30 ∧
 ∃ (H13 : AH),
 storeCellsv H12 H1.next 0 [.int .i64 r30] = some H13 ∧
 ∃ (r6_5 : Int),
 H13.cell H1.next 0 = some (.int .i64 r6_5) ∧
 Q (.int .i64 r6_5) H13) (
 cond ((program0 : List UInt8) == [100, 101, 103, 114, 101, 101]) (
 FW Ee F_kern_None [.slice params2a params2l params2c] H2 fun v_5 H14 =>
 ∃ (r35 : Int),
 v_5 = .int .i64 r35 ∧
 ∃ (H15 : AH),
 storeCellsv H14 H1.next 0 [.int .i64 r35] = some H15 ∧
 ∃ (r6_6 : Int),
 H15.cell H1.next 0 = some (.int .i64 r6_6) ∧
 Q (.int .i64 r6_6) H15) (
 cond ((program0 : List UInt8) == [99, 99]) (
 FW Ee F_kern_None [.slice params2a params2l params2c] H2 fun v_6 H16 =>
 ∃ (r35_1 : Int),
 v_6 = .int .i64 r35_1 ∧
 ∃ (H17 : AH),
 storeCellsv H16 H1.next 0 [.int .i64 r35_1] = some H17 ∧
 ∃ (r6_7 : Int),
 H17.cell H1.next 0 = some (.int .i64 r6_7) ∧
 Q (.int .i64 r6_7) H17) (
 ∃ (H18 : AH),
 storeCellsv H2 H1.next 0 [.int .i64 70] = some H18 ∧
 ∃ (r6_8 : Int),
 H18.cell H1.next 0 = some (.int .i64 r6_8) ∧
 Q (.int .i64 r6_8) H18)))))
set_option maxRecDepth 100000 in
theorem fw_kern_Check {program0 : List UInt8} {g1_Verticesa : Option Addr} {g1_Verticesl : Nat} {g1_Verticesc : Nat} {params2a : Option Addr} {params2l : Nat} {params2c : Nat} {H : AH} {Q : Value → AH → Prop} (h : VC_kern_Check program0 g1_Verticesa g1_Verticesl g1_Verticesc params2a params2l params2c H Q) : FW Ee F_kern_Check [.string ⟨⟨program0⟩⟩, .agg ⟨[.slice g1_Verticesa g1_Verticesl g1_Verticesc]⟩, .slice params2a params2l params2c] H Q := by
  have e : VC_kern_Check program0 g1_Verticesa g1_Verticesl g1_Verticesc params2a params2l params2c H Q = wpF Ee ⟨[], []⟩ F_kern_Check [.string ⟨⟨program0⟩⟩, .agg ⟨[.slice g1_Verticesa g1_Verticesl g1_Verticesc]⟩, .slice params2a params2l params2c] H Q := by kernel_rfl
  letI : Sy := sy0
  exact wpF_sound (Eq.mp e h)
/-- cohort/kern.Check: a round -/
def VC_kern_Check_r0 (t6b : Nat) (t6o : Nat) (p19 : Int) (p20_To : Int) (p20_Weight : Int) (l : Nat) (H : AH) (Q : Value → AH → Prop) : Prop :=
 ∀ (H1 : AH),
 H1 = H.new (.cells [.int .i64 0, .int .i64 0] 0) →
 ∃ (H2 : AH),
 storeCellsv H1 H.next 0 [.int .i64 p20_To, .int .i64 p20_Weight] = some H2 ∧
 ∃ (L : ALoop),
 H2.get l = some (.loop L) ∧
 L.st = .ready ∧
 L.body = (rfOf Ee F_kern_Check 0).2.2 ∧
 ∃ (t22 : Int),
 (H2.set l (.loop { L with st := .busy })).cell H.next 1 = some (.int .i64 t22) ∧
 cond (decide (t22 < 0)) (
 ∃ (H3 : AH),
 storeCellsv ((H2.set l (.loop { L with st := .busy }))) t6b t6o [.int .i64 71] = some H3 ∧
 ∃ (L_1 : ALoop),
 H3.get l = some (.loop L_1) ∧
 Q (.bool false) (H3.set l (.loop { L_1 with st := .done, pend := some .ret }))) (
 ∃ (L_2 : ALoop),
 (H2.set l (.loop { L with st := .busy })).get l = some (.loop L_2) ∧
 Q (.bool true) ((H2.set l (.loop { L with st := .busy })).set l (.loop { L_2 with st := .ready, pend := none })))
set_option maxRecDepth 100000 in
theorem rw_kern_Check_r0 {t6b : Nat} {t6o : Nat} {p19 : Int} {p20_To : Int} {p20_Weight : Int} {l : Nat} {H : AH} {Q : Value → AH → Prop} {L : ALoop} (hl : H.get l = some (.loop L)) (hR : RdL 36 Ee.g [(6, .pointer (some ⟨t6b, t6o, none⟩))] (rfOf Ee F_kern_Check 0) L) (h : VC_kern_Check_r0 t6b t6o p19 p20_To p20_Weight l H Q) : RW Ee l [.int .i64 p19, .agg ⟨[.int .i64 p20_To, .int .i64 p20_Weight]⟩] H Q := by
  have e : VC_kern_Check_r0 t6b t6o p19 p20_To p20_Weight l H Q = wpRound Ee ⟨[], []⟩ (frm 36 Ee.g [(6, .pointer (some ⟨t6b, t6o, none⟩))]) (rfOf Ee F_kern_Check 0).1 (rfOf Ee F_kern_Check 0).2.1 (rfOf Ee F_kern_Check 0).2.2 l [.int .i64 p19, .agg ⟨[.int .i64 p20_To, .int .i64 p20_Weight]⟩] H Q := by kernel_rfl
  letI : Sy := sy0
  exact wpRoundR_sound hl hR (Eq.mp e h)
/-- cmp.isNaN[string] -/
def VC_cmp_isNaN_string (x0 : List UInt8) (H : AH) (Q : Value → AH → Prop) : Prop :=
 Q (.bool (!((x0 : List UInt8) == x0))) H
set_option maxRecDepth 100000 in
theorem fw_cmp_isNaN_string {x0 : List UInt8} {H : AH} {Q : Value → AH → Prop} (h : VC_cmp_isNaN_string x0 H Q) : FW Ee F_cmp_isNaN_string [.string ⟨⟨x0⟩⟩] H Q := by
  have e : VC_cmp_isNaN_string x0 H Q = wpF Ee ⟨[], []⟩ F_cmp_isNaN_string [.string ⟨⟨x0⟩⟩] H Q := by kernel_rfl
  letI : Sy := sy0
  exact wpF_sound (Eq.mp e h)
/-- cmp.Less[string] -/
def VC_cmp_Less_string (x0 : List UInt8) (y1 : List UInt8) (H : AH) (Q : Value → AH → Prop) : Prop :=
 FW Ee F_cmp_isNaN_string [.string ⟨⟨x0⟩⟩] H fun v H1 =>
 ∃ (r6 : Bool),
 v = .bool r6 ∧
 cond (r6) (
 FW Ee F_cmp_isNaN_string [.string ⟨⟨y1⟩⟩] H1 fun v_1 H2 =>
 ∃ (r9 : Bool),
 v_1 = .bool r9 ∧
 cond (!r9) (
 Q (.bool true) H2) (
 Q (.bool (Op.bytesLess x0 y1)) H2)) (
 Q (.bool (Op.bytesLess x0 y1)) H1)
set_option maxRecDepth 100000 in
theorem fw_cmp_Less_string {x0 : List UInt8} {y1 : List UInt8} {H : AH} {Q : Value → AH → Prop} (h : VC_cmp_Less_string x0 y1 H Q) : FW Ee F_cmp_Less_string [.string ⟨⟨x0⟩⟩, .string ⟨⟨y1⟩⟩] H Q := by
  have e : VC_cmp_Less_string x0 y1 H Q = wpF Ee ⟨[], []⟩ F_cmp_Less_string [.string ⟨⟨x0⟩⟩, .string ⟨⟨y1⟩⟩] H Q := by kernel_rfl
  letI : Sy := sy0
  exact wpF_sound (Eq.mp e h)
/-- slices.isNaN[string] -/
def VC_slices_isNaN_string (x0 : List UInt8) (H : AH) (Q : Value → AH → Prop) : Prop :=
 Q (.bool (!((x0 : List UInt8) == x0))) H
set_option maxRecDepth 100000 in
theorem fw_slices_isNaN_string {x0 : List UInt8} {H : AH} {Q : Value → AH → Prop} (h : VC_slices_isNaN_string x0 H Q) : FW Ee F_slices_isNaN_string [.string ⟨⟨x0⟩⟩] H Q := by
  have e : VC_slices_isNaN_string x0 H Q = wpF Ee ⟨[], []⟩ F_slices_isNaN_string [.string ⟨⟨x0⟩⟩] H Q := by kernel_rfl
  letI : Sy := sy0
  exact wpF_sound (Eq.mp e h)
/-- slices.BinarySearch[[]string,string] -/
def VC_slices_BinarySearch_L_string_string (x0a : Option Addr) (x0l : Nat) (x0c : Nat) (target1 : List UInt8) (H : AH) (Q : Value → AH → Prop) : Prop :=
 ∃ (Inv : Nat → Int → Int → AH → Prop),
 (
 ∃ (n_1 : Nat),
 Inv n_1 0 (((x0l : Nat) : Int)) H) ∧
 ∀ (n : Nat),
 ∀ (i7 : Int) (j8 : Int) (H1 : AH),
 Inv n i7 j8 H1 →
 cond (decide (i7 < j8)) (
 ∀ (t18 : Int),
 t18 = IntKind.i64.wrap (i7 + j8) →
 ∀ (t19 : Int),
 t19 = IntKind.u64.wrap (t18) →
 (0 : Int) ≤ 1 ∧
 ∀ (t20 : Int),
 t20 = (t19 : Int).fdiv (2 ^ (min (1 : Int).toNat IntKind.u64.bits)) →
 ∀ (t21 : Int),
 t21 = IntKind.i64.wrap (t20) →
 grd x0a.isSome (
 (0 : Int) ≤ t21 ∧
 (t21 : Int) < ((x0l : Nat) : Int) ∧
 ∃ (t25 : List UInt8),
 H1.cell ((adr x0a).block) ((adr x0a).off + (t21 : Int).toNat * 1) = some (.string ⟨⟨t25⟩⟩) ∧
 FW Ee F_cmp_Less_string [.string ⟨⟨t25⟩⟩, .string ⟨⟨target1⟩⟩] H1 fun v H2 =>
 ∃ (r27 : Bool),
 v = .bool r27 ∧
 cond (r27) (
 ∀ (t29 : Int),
 t29 = IntKind.i64.wrap (t21 + 1) →
 ∃ (m : Nat),
 m < n ∧
 Inv m t29 j8 H2) (
 ∃ (m : Nat),
 m < n ∧
 Inv m i7 t21 H2))) (
 cond (decide (i7 < (((x0l : Nat) : Int)))) (
 grd x0a.isSome (
 (0 : Int) ≤ i7 ∧
 (i7 : Int) < ((x0l : Nat) : Int) ∧
 ∃ (t39 : List UInt8),
 H1.cell ((adr x0a).block) ((adr x0a).off + (i7 : Int).toNat * 1) = some (.string ⟨⟨t39⟩⟩) ∧
 cond ((t39 : List UInt8) == target1) (
 Q (.tuple ⟨[.int .i64 i7, .bool true]⟩) H1) (
 grd x0a.isSome (
 (0 : Int) ≤ i7 ∧
 (i7 : Int) < ((x0l : Nat) : Int) ∧
 ∃ (t46 : List UInt8),
 H1.cell ((adr x0a).block) ((adr x0a).off + (i7 : Int).toNat * 1) = some (.string ⟨⟨t46⟩⟩) ∧
 FW Ee F_slices_isNaN_string [.string ⟨⟨t46⟩⟩] H1 fun v_1 H3 =>
 ∃ (r47 : Bool),
 v_1 = .bool r47 ∧
 cond (r47) (
 FW Ee F_slices_isNaN_string [.string ⟨⟨target1⟩⟩] H3 fun v_2 H4 =>
 ∃ (r50 : Bool),
 v_2 = .bool r50 ∧
 Q (.tuple ⟨[.int .i64 i7, .bool r50]⟩) H4) (
 Q (.tuple ⟨[.int .i64 i7, .bool false]⟩) H3))))) (
 Q (.tuple ⟨[.int .i64 i7, .bool false]⟩) H1))
set_option maxRecDepth 100000 in
theorem fw_slices_BinarySearch_L_string_string {x0a : Option Addr} {x0l : Nat} {x0c : Nat} {target1 : List UInt8} {H : AH} {Q : Value → AH → Prop} (h : VC_slices_BinarySearch_L_string_string x0a x0l x0c target1 H Q) : FW Ee F_slices_BinarySearch_L_string_string [.slice x0a x0l x0c, .string ⟨⟨target1⟩⟩] H Q := by
  have e : VC_slices_BinarySearch_L_string_string x0a x0l x0c target1 H Q = wpF Ee ⟨[], []⟩ F_slices_BinarySearch_L_string_string [.slice x0a x0l x0c, .string ⟨⟨target1⟩⟩] H Q := by kernel_rfl
  letI : Sy := sy0
  exact wpF_sound (Eq.mp e h)
/-- cohort/more.Known -/
def VC_more_Known (program0 : List UInt8) (H : AH) (Q : Value → AH → Prop) : Prop :=
 FW Ee F_kern_Programs [] H fun v H1 =>
 ∃ (r6a : Option Addr) (r6l : Nat) (r6c : Nat),
 v = .slice r6a r6l r6c ∧
 FW Ee F_slices_BinarySearch_L_string_string [.slice r6a r6l r6c, .string ⟨⟨program0⟩⟩] H1 fun v_1 H2 =>
 ∃ (r8_0 : Int) (r8_1 : Bool),
 v_1 = .tuple ⟨[.int .i64 r8_0, .bool r8_1]⟩ ∧
 Q (.bool r8_1) H2
set_option maxRecDepth 100000 in
theorem fw_more_Known {program0 : List UInt8} {H : AH} {Q : Value → AH → Prop} (h : VC_more_Known program0 H Q) : FW Ee F_more_Known [.string ⟨⟨program0⟩⟩] H Q := by
  have e : VC_more_Known program0 H Q = wpF Ee ⟨[], []⟩ F_more_Known [.string ⟨⟨program0⟩⟩] H Q := by kernel_rfl
  letI : Sy := sy0
  exact wpF_sound (Eq.mp e h)
/-- cohort/more.Check -/
def VC_more_Check (program0 : List UInt8) (g1_Verticesa : Option Addr) (g1_Verticesl : Nat) (g1_Verticesc : Nat) (params2a : Option Addr) (params2l : Nat) (params2c : Nat) (H : AH) (Q : Value → AH → Prop) : Prop :=
 ∀ (H1 : AH),
 H1 = H.new (.cells [.slice g1_Verticesa g1_Verticesl g1_Verticesc] 0) →
 cond ((program0 : List UInt8) == [108, 97, 98, 101, 108, 115]) (
 FW Ee F_kern_Turns [.slice params2a params2l params2c] H1 fun v H2 =>
 ∃ (r11 : Int),
 v = .int .i64 r11 ∧
 Q (.int .i64 r11) H2) (
 cond ((program0 : List UInt8) == [107, 99, 111, 114, 101]) (
 cond ((((params2l : Nat) : Int)) != 1) (
 Q (.int .i64 71) H1) (
 grd params2a.isSome (
 (0 : Int) ≤ 0 ∧
 (0 : Int) < ((params2l : Nat) : Int) ∧
 ∃ (t20 : Int),
 H1.cell ((adr params2a).block) ((adr params2a).off + (0 : Int).toNat * 1) = some (.int .i64 t20) ∧
 cond (decide (t20 < 0)) (
 Q (.int .i64 71) H1) (
 grd params2a.isSome (
 (0 : Int) ≤ 0 ∧
 (0 : Int) < ((params2l : Nat) : Int) ∧
 ∃ (t26 : Int),
 H1.cell ((adr params2a).block) ((adr params2a).off + (0 : Int).toNat * 1) = some (.int .i64 t26) ∧
 cond (decide (t26 > 256)) (
 Q (.int .i64 71) H1) (
 Q (.int .i64 0) H1)))))) (
 cond ((program0 : List UInt8) == [116, 114, 105, 97, 110, 103, 108, 101, 115]) (
 FW Ee F_kern_None [.slice params2a params2l params2c] H1 fun v_1 H3 =>
 ∃ (r34 : Int),
 v_1 = .int .i64 r34 ∧
 Q (.int .i64 r34) H3) (
 cond ((program0 : List UInt8) == [109, 97, 116, 99, 104, 105, 110, 103]) (
 FW Ee F_kern_None [.slice params2a params2l params2c] H1 fun v_2 H4 =>
 ∃ (r34_1 : Int),
 v_2 = .int .i64 r34_1 ∧
 Q (.int .i64 r34_1) H4) (
 cond ((program0 : List UInt8) == [99, 111, 108, 111, 114, 115]) (
 FW Ee F_kern_None [.slice params2a params2l params2c] H1 fun v_3 H5 =>
 ∃ (r34_2 : Int),
 v_3 = .int .i64 r34_2 ∧
 Q (.int .i64 r34_2) H5) (
 ∃ (t36_Verticesa : Option Addr) (t36_Verticesl : Nat) (t36_Verticesc : Nat),
 H1.cell H.next (0 + 0) = some (.slice t36_Verticesa t36_Verticesl t36_Verticesc) ∧
 FW Ee F_kern_Check [.string ⟨⟨program0⟩⟩, .agg ⟨[.slice t36_Verticesa t36_Verticesl t36_Verticesc]⟩, .slice params2a params2l params2c] H1 fun v_4 H6 =>
 ∃ (r38 : Int),
 v_4 = .int .i64 r38 ∧
 Q (.int .i64 r38) H6)))))
set_option maxRecDepth 100000 in
theorem fw_more_Check {program0 : List UInt8} {g1_Verticesa : Option Addr} {g1_Verticesl : Nat} {g1_Verticesc : Nat} {params2a : Option Addr} {params2l : Nat} {params2c : Nat} {H : AH} {Q : Value → AH → Prop} (h : VC_more_Check program0 g1_Verticesa g1_Verticesl g1_Verticesc params2a params2l params2c H Q) : FW Ee F_more_Check [.string ⟨⟨program0⟩⟩, .agg ⟨[.slice g1_Verticesa g1_Verticesl g1_Verticesc]⟩, .slice params2a params2l params2c] H Q := by
  have e : VC_more_Check program0 g1_Verticesa g1_Verticesl g1_Verticesc params2a params2l params2c H Q = wpF Ee ⟨[], []⟩ F_more_Check [.string ⟨⟨program0⟩⟩, .agg ⟨[.slice g1_Verticesa g1_Verticesl g1_Verticesc]⟩, .slice params2a params2l params2c] H Q := by kernel_rfl
  letI : Sy := sy0
  exact wpF_sound (Eq.mp e h)
/-- cohort/cohortref07.Names -/
def VC_cohortref07_Names  (H : AH) (Q : Value → AH → Prop) : Prop :=
 ∀ (H1 : AH),
 H1 = H.new (.cells [.string ⟨⟨[98, 102, 115]⟩⟩, .string ⟨⟨[99, 99]⟩⟩, .string ⟨⟨[99, 111, 108, 111, 114, 115]⟩⟩, .string ⟨⟨[100, 101, 103, 114, 101, 101]⟩⟩, .string ⟨⟨[107, 99, 111, 114, 101]⟩⟩, .string ⟨⟨[108, 97, 98, 101, 108, 115]⟩⟩, .string ⟨⟨[109, 97, 116, 99, 104, 105, 110, 103]⟩⟩, .string ⟨⟨[112, 97, 103, 101, 114, 97, 110, 107]⟩⟩, .string ⟨⟨[115, 115, 115, 112]⟩⟩, .string ⟨⟨[116, 114, 105, 97, 110, 103, 108, 101, 115]⟩⟩] 0) →
 Q (.slice (some ⟨H.next, 0, none⟩) 10 20) H1
set_option maxRecDepth 100000 in
theorem fw_cohortref07_Names  {H : AH} {Q : Value → AH → Prop} (h : VC_cohortref07_Names  H Q) : FW Ee F_cohortref07_Names [] H Q := by
  have e : VC_cohortref07_Names  H Q = wpF Ee ⟨[], []⟩ F_cohortref07_Names [] H Q := by kernel_rfl
  letI : Sy := sy0
  exact wpF_sound (Eq.mp e h)
/-- cohort/cohortref07.Known -/
def VC_cohortref07_Known (s0 : List UInt8) (H : AH) (Q : Value → AH → Prop) : Prop :=
 FW Ee F_cohortref07_Names [] H fun v H1 =>
 ∃ (r5a : Option Addr) (r5l : Nat) (r5c : Nat),
 v = .slice r5a r5l r5c ∧
 ∃ (Inv : Nat → Bool → Int → AH → Prop),
 (
 ∃ (n_1 : Nat),
 Inv n_1 false 0 H1) ∧
 ∀ (n : Nat),
 ∀ (t2 : Bool) (i4 : Int) (H2 : AH),
 Inv n t2 i4 H2 →
 cond (decide (i4 < (((r5l : Nat) : Int)))) (
 grd r5a.isSome (
 (0 : Int) ≤ i4 ∧
 (i4 : Int) < ((r5l : Nat) : Int) ∧
 ∃ (t15 : List UInt8),
 H2.cell ((adr r5a).block) ((adr r5a).off + (i4 : Int).toNat * 1) = some (.string ⟨⟨t15⟩⟩) ∧
 cond ((t15 : List UInt8) == s0) (
 Q (.bool true) H2) (
 ∀ (t11 : Int),
 t11 = IntKind.i64.wrap (i4 + 1) →
 ∃ (m : Nat),
 m < n ∧
 Inv m t2 t11 H2))) (
 Q (.bool false) H2)
set_option maxRecDepth 100000 in
theorem fw_cohortref07_Known {s0 : List UInt8} {H : AH} {Q : Value → AH → Prop} (h : VC_cohortref07_Known s0 H Q) : FW Ee F_cohortref07_Known [.string ⟨⟨s0⟩⟩] H Q := by
  have e : VC_cohortref07_Known s0 H Q = wpF Ee ⟨[], []⟩ F_cohortref07_Known [.string ⟨⟨s0⟩⟩] H Q := by kernel_rfl
  letI : Sy := sy0
  exact wpF_sound (Eq.mp e h)
/-- cohort/cohortref07.Check -/
def VC_cohortref07_Check (program0 : List UInt8) (g1a : Option Addr) (g1l : Nat) (g1c : Nat) (p2a : Option Addr) (p2l : Nat) (p2c : Nat) (H : AH) (Q : Value → AH → Prop) : Prop :=
 cond ((program0 : List UInt8) == [98, 102, 115]) (
 cond ((((p2l : Nat) : Int)) != 1) (
 Q (.int .i64 71) H) (
 grd p2a.isSome (
 (0 : Int) ≤ 0 ∧
 (0 : Int) < ((p2l : Nat) : Int) ∧
 ∃ (t24 : Int),
 H.cell ((adr p2a).block) ((adr p2a).off + (0 : Int).toNat * 1) = some (.int .i64 t24) ∧
 FW Ee F_cohortref03_Find [.slice g1a g1l g1c, .int .i64 t24] H fun v H1 =>
 ∃ (r25_0 : Int) (r25_1 : Bool),
 v = .tuple ⟨[.int .i64 r25_0, .bool r25_1]⟩ ∧
 cond (!r25_1) (
 Q (.int .i64 71) H1) (
 ∃ (Inv : Nat → Int → Int → AH → Prop),
 (
 ∃ (n_1 : Nat),
 Inv n_1 0 0 H1) ∧
 ∀ (n : Nat),
 ∀ (t6 : Int) (i10 : Int) (H2 : AH),
 Inv n t6 i10 H2 →
 cond (decide (i10 < (((g1l : Nat) : Int)))) (
 cond ((program0 : List UInt8) == [115, 115, 115, 112]) (
 ∃ (Inv_1 : Nat → Int → Int → AH → Prop),
 (
 ∃ (n_3 : Nat),
 Inv_1 n_3 t6 0 H2) ∧
 ∀ (n_2 : Nat),
 ∀ (t6_1 : Int) (k11 : Int) (H3 : AH),
 Inv_1 n_2 t6_1 k11 H3 →
 grd g1a.isSome (
 (0 : Int) ≤ i10 ∧
 (i10 : Int) < ((g1l : Nat) : Int) ∧
 ∃ (t45a : Option Addr) (t45l : Nat) (t45c : Nat),
 H3.cell ((adr g1a).block) ((adr g1a).off + (i10 : Int).toNat * 3 + 2) = some (.slice t45a t45l t45c) ∧
 cond (decide (k11 < (((t45l : Nat) : Int)))) (
 grd g1a.isSome (
 (0 : Int) ≤ i10 ∧
 (i10 : Int) < ((g1l : Nat) : Int) ∧
 ∃ (t54a : Option Addr) (t54l : Nat) (t54c : Nat),
 H3.cell ((adr g1a).block) ((adr g1a).off + (i10 : Int).toNat * 3 + 2) = some (.slice t54a t54l t54c) ∧
 grd t54a.isSome (
 (0 : Int) ≤ k11 ∧
 (k11 : Int) < ((t54l : Nat) : Int) ∧
 ∃ (t58 : Int),
 H3.cell ((adr t54a).block) ((adr t54a).off + (k11 : Int).toNat * 2 + 1) = some (.int .i64 t58) ∧
 cond (decide (t58 < 0)) (
 Q (.int .i64 71) H3) (
 ∀ (t49 : Int),
 t49 = IntKind.i64.wrap (k11 + 1) →
 ∃ (m_1 : Nat),
 m_1 < n_2 ∧
 Inv_1 m_1 t6_1 t49 H3)))) (
 ∀ (t39 : Int),
 t39 = IntKind.i64.wrap (i10 + 1) →
 ∃ (m : Nat),
 m < n ∧
 Inv m t6_1 t39 H3))) (
 Q (.int .i64 0) H2)) (
 Q (.int .i64 0) H2))))) (
 cond ((program0 : List UInt8) == [115, 115, 115, 112]) (
 cond ((((p2l : Nat) : Int)) != 1) (
 Q (.int .i64 71) H) (
 grd p2a.isSome (
 (0 : Int) ≤ 0 ∧
 (0 : Int) < ((p2l : Nat) : Int) ∧
 ∃ (t24_1 : Int),
 H.cell ((adr p2a).block) ((adr p2a).off + (0 : Int).toNat * 1) = some (.int .i64 t24_1) ∧
 FW Ee F_cohortref03_Find [.slice g1a g1l g1c, .int .i64 t24_1] H fun v_1 H4 =>
 ∃ (r25_0_1 : Int) (r25_1_1 : Bool),
 v_1 = .tuple ⟨[.int .i64 r25_0_1, .bool r25_1_1]⟩ ∧
 cond (!r25_1_1) (
 Q (.int .i64 71) H4) (
 ∃ (Inv_2 : Nat → Int → Int → AH → Prop),
 (
 ∃ (n_5 : Nat),
 Inv_2 n_5 0 0 H4) ∧
 ∀ (n_4 : Nat),
 ∀ (t6_2 : Int) (i10_1 : Int) (H5 : AH),
 Inv_2 n_4 t6_2 i10_1 H5 →
 cond (decide (i10_1 < (((g1l : Nat) : Int)))) (
 cond ((program0 : List UInt8) == [115, 115, 115, 112]) (
 ∃ (Inv_3 : Nat → Int → Int → AH → Prop),
 (
 ∃ (n_7 : Nat),
 Inv_3 n_7 t6_2 0 H5) ∧
 ∀ (n_6 : Nat),
 ∀ (t6_3 : Int) (k11_1 : Int) (H6 : AH),
 Inv_3 n_6 t6_3 k11_1 H6 →
 grd g1a.isSome (
 (0 : Int) ≤ i10_1 ∧
 (i10_1 : Int) < ((g1l : Nat) : Int) ∧
 ∃ (t45a_1 : Option Addr) (t45l_1 : Nat) (t45c_1 : Nat),
 H6.cell ((adr g1a).block) ((adr g1a).off + (i10_1 : Int).toNat * 3 + 2) = some (.slice t45a_1 t45l_1 t45c_1) ∧
 cond (decide (k11_1 < (((t45l_1 : Nat) : Int)))) (
 grd g1a.isSome (
 (0 : Int) ≤ i10_1 ∧
 (i10_1 : Int) < ((g1l : Nat) : Int) ∧
 ∃ (t54a_1 : Option Addr) (t54l_1 : Nat) (t54c_1 : Nat),
 H6.cell ((adr g1a).block) ((adr g1a).off + (i10_1 : Int).toNat * 3 + 2) = some (.slice t54a_1 t54l_1 t54c_1) ∧
 grd t54a_1.isSome (
 (0 : Int) ≤ k11_1 ∧
 (k11_1 : Int) < ((t54l_1 : Nat) : Int) ∧
 ∃ (t58_1 : Int),
 H6.cell ((adr t54a_1).block) ((adr t54a_1).off + (k11_1 : Int).toNat * 2 + 1) = some (.int .i64 t58_1) ∧
 cond (decide (t58_1 < 0)) (
 Q (.int .i64 71) H6) (
 ∀ (t49_1 : Int),
 t49_1 = IntKind.i64.wrap (k11_1 + 1) →
 ∃ (m_3 : Nat),
 m_3 < n_6 ∧
 Inv_3 m_3 t6_3 t49_1 H6)))) (
 ∀ (t39_1 : Int),
 t39_1 = IntKind.i64.wrap (i10_1 + 1) →
 ∃ (m_2 : Nat),
 m_2 < n_4 ∧
 Inv_2 m_2 t6_3 t39_1 H6))) (
 Q (.int .i64 0) H5)) (
 Q (.int .i64 0) H5))))) (
 cond ((program0 : List UInt8) == [112, 97, 103, 101, 114, 97, 110, 107]) (
 cond ((((p2l : Nat) : Int)) != 1) (
 Q (.int .i64 71) H) (
 grd p2a.isSome (
 (0 : Int) ≤ 0 ∧
 (0 : Int) < ((p2l : Nat) : Int) ∧
 ∃ (t68 : Int),
 H.cell ((adr p2a).block) ((adr p2a).off + (0 : Int).toNat * 1) = some (.int .i64 t68) ∧
 cond (decide (t68 < 0)) (
 Q (.int .i64 71) H) (
 grd p2a.isSome (
 (0 : Int) ≤ 0 ∧
 (0 : Int) < ((p2l : Nat) : Int) ∧
 ∃ (t74 : Int),
 H.cell ((adr p2a).block) ((adr p2a).off + (0 : Int).toNat * 1) = some (.int .i64 t74) ∧
 cond (decide (t74 > 100)) (
 Q (.int .i64 71) H) (
 Q (.int .i64 0) H)))))) (
 cond ((program0 : List UInt8) == [108, 97, 98, 101, 108, 115]) (
 cond ((((p2l : Nat) : Int)) != 1) (
 Q (.int .i64 71) H) (
 grd p2a.isSome (
 (0 : Int) ≤ 0 ∧
 (0 : Int) < ((p2l : Nat) : Int) ∧
 ∃ (t68_1 : Int),
 H.cell ((adr p2a).block) ((adr p2a).off + (0 : Int).toNat * 1) = some (.int .i64 t68_1) ∧
 cond (decide (t68_1 < 0)) (
 Q (.int .i64 71) H) (
 grd p2a.isSome (
 (0 : Int) ≤ 0 ∧
 (0 : Int) < ((p2l : Nat) : Int) ∧
 ∃ (t74_1 : Int),
 H.cell ((adr p2a).block) ((adr p2a).off + (0 : Int).toNat * 1) = some (.int .i64 t74_1) ∧
 cond (decide (t74_1 > 100)) (
 Q (.int .i64 71) H) (
 Q (.int .i64 0) H)))))) (
 cond ((program0 : List UInt8) == [107, 99, 111, 114, 101]) (
 cond ((((p2l : Nat) : Int)) != 1) (
 Q (.int .i64 71) H) (
 grd p2a.isSome (
 (0 : Int) ≤ 0 ∧
 (0 : Int) < ((p2l : Nat) : Int) ∧
 ∃ (t84 : Int),
 H.cell ((adr p2a).block) ((adr p2a).off + (0 : Int).toNat * 1) = some (.int .i64 t84) ∧
 cond (decide (t84 < 0)) (
 Q (.int .i64 71) H) (
 grd p2a.isSome (
 (0 : Int) ≤ 0 ∧
 (0 : Int) < ((p2l : Nat) : Int) ∧
 ∃ (t90 : Int),
 H.cell ((adr p2a).block) ((adr p2a).off + (0 : Int).toNat * 1) = some (.int .i64 t90) ∧
 cond (decide (t90 > 256)) (
 Q (.int .i64 71) H) (
 Q (.int .i64 0) H)))))) (
 FW Ee F_cohortref07_Known [.string ⟨⟨program0⟩⟩] H fun v_2 H7 =>
 ∃ (r94 : Bool),
 v_2 = .bool r94 ∧
 cond (!r94) (
 Q (.int .i64 70) H7) (
 cond ((((p2l : Nat) : Int)) != 0) (
 Q (.int .i64 71) H7) (
 Q (.int .i64 0) H7)))))))
set_option maxRecDepth 100000 in
theorem fw_cohortref07_Check {program0 : List UInt8} {g1a : Option Addr} {g1l : Nat} {g1c : Nat} {p2a : Option Addr} {p2l : Nat} {p2c : Nat} {H : AH} {Q : Value → AH → Prop} (h : VC_cohortref07_Check program0 g1a g1l g1c p2a p2l p2c H Q) : FW Ee F_cohortref07_Check [.string ⟨⟨program0⟩⟩, .slice g1a g1l g1c, .slice p2a p2l p2c] H Q := by
  have e : VC_cohortref07_Check program0 g1a g1l g1c p2a p2l p2c H Q = wpF Ee ⟨[], []⟩ F_cohortref07_Check [.string ⟨⟨program0⟩⟩, .slice g1a g1l g1c, .slice p2a p2l p2c] H Q := by kernel_rfl
  letI : Sy := sy0
  exact wpF_sound (Eq.mp e h)
/-- cohort/run.Check -/
def VC_run_Check (j0_Program : List UInt8) (j0_Graph_Verticesa : Option Addr) (j0_Graph_Verticesl : Nat) (j0_Graph_Verticesc : Nat) (j0_Paramsa : Option Addr) (j0_Paramsl : Nat) (j0_Paramsc : Nat) (j0_Steps : Int) (j0_Sent : Int) (j0_Parts : Int) (H : AH) (Q : Value → AH → Prop) : Prop :=
 ∀ (H1 : AH),
 H1 = H.new (.cells [.string ⟨⟨j0_Program⟩⟩, .slice j0_Graph_Verticesa j0_Graph_Verticesl j0_Graph_Verticesc, .slice j0_Paramsa j0_Paramsl j0_Paramsc, .int .i64 j0_Steps, .int .i64 j0_Sent, .int .i64 j0_Parts] 0) →
 ∃ (t6 : List UInt8),
 H1.cell H.next 0 = some (.string ⟨⟨t6⟩⟩) ∧
 FW Ee F_more_Known [.string ⟨⟨t6⟩⟩] H1 fun v H2 =>
 ∃ (r7 : Bool),
 v = .bool r7 ∧
 cond (!r7) (
 Q (.int .i64 70) H2) (
 ∃ (t10_Verticesa : Option Addr) (t10_Verticesl : Nat) (t10_Verticesc : Nat),
 H2.cell H.next (1 + 0) = some (.slice t10_Verticesa t10_Verticesl t10_Verticesc) ∧
 FW Ee F_graph_Check [.agg ⟨[.slice t10_Verticesa t10_Verticesl t10_Verticesc]⟩] H2 fun v_1 H3 =>
 ∃ (r11 : Int),
 v_1 = .int .i64 r11 ∧
 cond (r11 != 0) (
 Q (.int .i64 r11) H3) (
 ∃ (t16a : Option Addr) (t16l : Nat) (t16c : Nat),
 H3.cell H.next 2 = some (.slice t16a t16l t16c) ∧
 cond (decide ((((t16l : Nat) : Int)) > 4)) (
 Q (.int .i64 71) H3) (
 ∃ (t20 : List UInt8),
 H3.cell H.next 0 = some (.string ⟨⟨t20⟩⟩) ∧
 ∃ (t22_Verticesa : Option Addr) (t22_Verticesl : Nat) (t22_Verticesc : Nat),
 H3.cell H.next (1 + 0) = some (.slice t22_Verticesa t22_Verticesl t22_Verticesc) ∧
 ∃ (t24a : Option Addr) (t24l : Nat) (t24c : Nat),
 H3.cell H.next 2 = some (.slice t24a t24l t24c) ∧
 FW Ee F_more_Check [.string ⟨⟨t20⟩⟩, .agg ⟨[.slice t22_Verticesa t22_Verticesl t22_Verticesc]⟩, .slice t24a t24l t24c] H3 fun v_2 H4 =>
 ∃ (r25 : Int),
 v_2 = .int .i64 r25 ∧
 cond (r25 != 0) (
 Q (.int .i64 r25) H4) (
 ∃ (t30 : Int),
 H4.cell H.next 3 = some (.int .i64 t30) ∧
 cond (decide (t30 < 1)) (
 Q (.int .i64 90) H4) (
 ∃ (t34 : Int),
 H4.cell H.next 3 = some (.int .i64 t34) ∧
 cond (decide (t34 > 1000)) (
 Q (.int .i64 90) H4) (
 ∃ (t39 : Int),
 H4.cell H.next 4 = some (.int .i64 t39) ∧
 cond (decide (t39 < 0)) (
 Q (.int .i64 90) H4) (
 ∃ (t44 : Int),
 H4.cell H.next 4 = some (.int .i64 t44) ∧
 cond (decide (t44 > 65536)) (
 Q (.int .i64 90) H4) (
 ∃ (t49 : Int),
 H4.cell H.next 5 = some (.int .i64 t49) ∧
 cond (decide (t49 < 1)) (
 Q (.int .i64 90) H4) (
 ∃ (t54 : Int),
 H4.cell H.next 5 = some (.int .i64 t54) ∧
 cond (decide (t54 > 16)) (
 Q (.int .i64 90) H4) (
 Q (.int .i64 0) H4))))))))))
set_option maxRecDepth 100000 in
theorem fw_run_Check {j0_Program : List UInt8} {j0_Graph_Verticesa : Option Addr} {j0_Graph_Verticesl : Nat} {j0_Graph_Verticesc : Nat} {j0_Paramsa : Option Addr} {j0_Paramsl : Nat} {j0_Paramsc : Nat} {j0_Steps : Int} {j0_Sent : Int} {j0_Parts : Int} {H : AH} {Q : Value → AH → Prop} (h : VC_run_Check j0_Program j0_Graph_Verticesa j0_Graph_Verticesl j0_Graph_Verticesc j0_Paramsa j0_Paramsl j0_Paramsc j0_Steps j0_Sent j0_Parts H Q) : FW Ee F_run_Check [.agg ⟨[.string ⟨⟨j0_Program⟩⟩, .slice j0_Graph_Verticesa j0_Graph_Verticesl j0_Graph_Verticesc, .slice j0_Paramsa j0_Paramsl j0_Paramsc, .int .i64 j0_Steps, .int .i64 j0_Sent, .int .i64 j0_Parts]⟩] H Q := by
  have e : VC_run_Check j0_Program j0_Graph_Verticesa j0_Graph_Verticesl j0_Graph_Verticesc j0_Paramsa j0_Paramsl j0_Paramsc j0_Steps j0_Sent j0_Parts H Q = wpF Ee ⟨[], []⟩ F_run_Check [.agg ⟨[.string ⟨⟨j0_Program⟩⟩, .slice j0_Graph_Verticesa j0_Graph_Verticesl j0_Graph_Verticesc, .slice j0_Paramsa j0_Paramsl j0_Paramsc, .int .i64 j0_Steps, .int .i64 j0_Sent, .int .i64 j0_Parts]⟩] H Q := by kernel_rfl
  letI : Sy := sy0
  exact wpF_sound (Eq.mp e h)
/-- cohort/cohortref09.Check -/
def VC_cohortref09_Check (j0_Program : List UInt8) (j0_Grapha : Option Addr) (j0_Graphl : Nat) (j0_Graphc : Nat) (j0_Paramsa : Option Addr) (j0_Paramsl : Nat) (j0_Paramsc : Nat) (j0_Steps : Int) (j0_Sent : Int) (j0_Parts : Int) (H : AH) (Q : Value → AH → Prop) : Prop :=
 ∀ (H1 : AH),
 H1 = H.new (.cells [.string ⟨⟨j0_Program⟩⟩, .slice j0_Grapha j0_Graphl j0_Graphc, .slice j0_Paramsa j0_Paramsl j0_Paramsc, .int .i64 j0_Steps, .int .i64 j0_Sent, .int .i64 j0_Parts] 0) →
 ∃ (t6 : List UInt8),
 H1.cell H.next 0 = some (.string ⟨⟨t6⟩⟩) ∧
 FW Ee F_cohortref07_Known [.string ⟨⟨t6⟩⟩] H1 fun v H2 =>
 ∃ (r7 : Bool),
 v = .bool r7 ∧
 cond (!r7) (
 Q (.int .i64 70) H2) (
 ∃ (t10a : Option Addr) (t10l : Nat) (t10c : Nat),
 H2.cell H.next 1 = some (.slice t10a t10l t10c) ∧
 FW Ee F_cohortref03_Check [.slice t10a t10l t10c] H2 fun v_1 H3 =>
 ∃ (r11 : Int),
 v_1 = .int .i64 r11 ∧
 cond (r11 != 0) (
 Q (.int .i64 r11) H3) (
 ∃ (t16a : Option Addr) (t16l : Nat) (t16c : Nat),
 H3.cell H.next 2 = some (.slice t16a t16l t16c) ∧
 cond (decide ((((t16l : Nat) : Int)) > 4)) (
 Q (.int .i64 71) H3) (
 ∃ (t20 : List UInt8),
 H3.cell H.next 0 = some (.string ⟨⟨t20⟩⟩) ∧
 ∃ (t22a : Option Addr) (t22l : Nat) (t22c : Nat),
 H3.cell H.next 1 = some (.slice t22a t22l t22c) ∧
 ∃ (t24a : Option Addr) (t24l : Nat) (t24c : Nat),
 H3.cell H.next 2 = some (.slice t24a t24l t24c) ∧
 FW Ee F_cohortref07_Check [.string ⟨⟨t20⟩⟩, .slice t22a t22l t22c, .slice t24a t24l t24c] H3 fun v_2 H4 =>
 ∃ (r25 : Int),
 v_2 = .int .i64 r25 ∧
 cond (r25 != 0) (
 Q (.int .i64 r25) H4) (
 ∃ (t30 : Int),
 H4.cell H.next 3 = some (.int .i64 t30) ∧
 cond (decide (t30 < 1)) (
 Q (.int .i64 90) H4) (
 ∃ (t34 : Int),
 H4.cell H.next 3 = some (.int .i64 t34) ∧
 cond (decide (t34 > 1000)) (
 Q (.int .i64 90) H4) (
 ∃ (t39 : Int),
 H4.cell H.next 4 = some (.int .i64 t39) ∧
 cond (decide (t39 < 0)) (
 Q (.int .i64 90) H4) (
 ∃ (t44 : Int),
 H4.cell H.next 4 = some (.int .i64 t44) ∧
 cond (decide (t44 > 65536)) (
 Q (.int .i64 90) H4) (
 ∃ (t49 : Int),
 H4.cell H.next 5 = some (.int .i64 t49) ∧
 cond (decide (t49 < 1)) (
 Q (.int .i64 90) H4) (
 ∃ (t54 : Int),
 H4.cell H.next 5 = some (.int .i64 t54) ∧
 cond (decide (t54 > 16)) (
 Q (.int .i64 90) H4) (
 Q (.int .i64 0) H4))))))))))
set_option maxRecDepth 100000 in
theorem fw_cohortref09_Check {j0_Program : List UInt8} {j0_Grapha : Option Addr} {j0_Graphl : Nat} {j0_Graphc : Nat} {j0_Paramsa : Option Addr} {j0_Paramsl : Nat} {j0_Paramsc : Nat} {j0_Steps : Int} {j0_Sent : Int} {j0_Parts : Int} {H : AH} {Q : Value → AH → Prop} (h : VC_cohortref09_Check j0_Program j0_Grapha j0_Graphl j0_Graphc j0_Paramsa j0_Paramsl j0_Paramsc j0_Steps j0_Sent j0_Parts H Q) : FW Ee F_cohortref09_Check [.agg ⟨[.string ⟨⟨j0_Program⟩⟩, .slice j0_Grapha j0_Graphl j0_Graphc, .slice j0_Paramsa j0_Paramsl j0_Paramsc, .int .i64 j0_Steps, .int .i64 j0_Sent, .int .i64 j0_Parts]⟩] H Q := by
  have e : VC_cohortref09_Check j0_Program j0_Grapha j0_Graphl j0_Graphc j0_Paramsa j0_Paramsl j0_Paramsc j0_Steps j0_Sent j0_Parts H Q = wpF Ee ⟨[], []⟩ F_cohortref09_Check [.agg ⟨[.string ⟨⟨j0_Program⟩⟩, .slice j0_Grapha j0_Graphl j0_Graphc, .slice j0_Paramsa j0_Paramsl j0_Paramsc, .int .i64 j0_Steps, .int .i64 j0_Sent, .int .i64 j0_Parts]⟩] H Q := by kernel_rfl
  letI : Sy := sy0
  exact wpF_sound (Eq.mp e h)
/-- cohort/cohortlaw09.Ref -/
def VC_cohortlaw09_Ref (j0_Program : List UInt8) (j0_Graph_Verticesa : Option Addr) (j0_Graph_Verticesl : Nat) (j0_Graph_Verticesc : Nat) (j0_Paramsa : Option Addr) (j0_Paramsl : Nat) (j0_Paramsc : Nat) (j0_Steps : Int) (j0_Sent : Int) (j0_Parts : Int) (H : AH) (Q : Value → AH → Prop) : Prop :=
 ∀ (H1 : AH),
 H1 = H.new (.cells [.string ⟨⟨j0_Program⟩⟩, .slice j0_Graph_Verticesa j0_Graph_Verticesl j0_Graph_Verticesc, .slice j0_Paramsa j0_Paramsl j0_Paramsc, .int .i64 j0_Steps, .int .i64 j0_Sent, .int .i64 j0_Parts] 0) →
 ∀ (H2 : AH),
 H2 = H1.new (.cells [.string ⟨⟨[]⟩⟩, .slice none 0 0, .slice none 0 0, .int .i64 0, .int .i64 0, .int .i64 0] 0) →
 ∃ (t4 : List UInt8),
 H2.cell H.next 0 = some (.string ⟨⟨t4⟩⟩) ∧
 ∃ (t6_Verticesa : Option Addr) (t6_Verticesl : Nat) (t6_Verticesc : Nat),
 H2.cell H.next (1 + 0) = some (.slice t6_Verticesa t6_Verticesl t6_Verticesc) ∧
 FW Ee F_cohortlaw03_Ref [.agg ⟨[.slice t6_Verticesa t6_Verticesl t6_Verticesc]⟩] H2 fun v H3 =>
 ∃ (r7a : Option Addr) (r7l : Nat) (r7c : Nat),
 v = .slice r7a r7l r7c ∧
 ∃ (t9a : Option Addr) (t9l : Nat) (t9c : Nat),
 H3.cell H.next 2 = some (.slice t9a t9l t9c) ∧
 ∃ (t11 : Int),
 H3.cell H.next 3 = some (.int .i64 t11) ∧
 ∃ (t13 : Int),
 H3.cell H.next 4 = some (.int .i64 t13) ∧
 ∃ (t15 : Int),
 H3.cell H.next 5 = some (.int .i64 t15) ∧
 ∃ (H4 : AH),
 storeCellsv H3 H1.next 0 [.string ⟨⟨t4⟩⟩, .slice r7a r7l r7c, .slice t9a t9l t9c, .int .i64 t11, .int .i64 t13, .int .i64 t15] = some H4 ∧
 H2.cell H.next 5 = some (.int .i64 t15) ∧
 H2.cell H.next 4 = some (.int .i64 t13) ∧
 H2.cell H.next 3 = some (.int .i64 t11) ∧
 H2.cell H.next 2 = some (.slice t9a t9l t9c) ∧
 H3.cell H.next 0 = some (.string ⟨⟨t4⟩⟩) ∧
 ∃ (r2_Program : List UInt8) (r2_Grapha : Option Addr) (r2_Graphl : Nat) (r2_Graphc : Nat) (r2_Paramsa : Option Addr) (r2_Paramsl : Nat) (r2_Paramsc : Nat) (r2_Steps : Int) (r2_Sent : Int) (r2_Parts : Int),
 H4.cell H1.next (0 + 0) = some (.string ⟨⟨r2_Program⟩⟩) ∧
 H4.cell H1.next (0 + 1) = some (.slice r2_Grapha r2_Graphl r2_Graphc) ∧
 H4.cell H1.next (0 + 2) = some (.slice r2_Paramsa r2_Paramsl r2_Paramsc) ∧
 H4.cell H1.next (0 + 3) = some (.int .i64 r2_Steps) ∧
 H4.cell H1.next (0 + 4) = some (.int .i64 r2_Sent) ∧
 H4.cell H1.next (0 + 5) = some (.int .i64 r2_Parts) ∧
 Q (.agg ⟨[.string ⟨⟨r2_Program⟩⟩, .slice r2_Grapha r2_Graphl r2_Graphc, .slice r2_Paramsa r2_Paramsl r2_Paramsc, .int .i64 r2_Steps, .int .i64 r2_Sent, .int .i64 r2_Parts]⟩) H4
set_option maxRecDepth 100000 in
theorem fw_cohortlaw09_Ref {j0_Program : List UInt8} {j0_Graph_Verticesa : Option Addr} {j0_Graph_Verticesl : Nat} {j0_Graph_Verticesc : Nat} {j0_Paramsa : Option Addr} {j0_Paramsl : Nat} {j0_Paramsc : Nat} {j0_Steps : Int} {j0_Sent : Int} {j0_Parts : Int} {H : AH} {Q : Value → AH → Prop} (h : VC_cohortlaw09_Ref j0_Program j0_Graph_Verticesa j0_Graph_Verticesl j0_Graph_Verticesc j0_Paramsa j0_Paramsl j0_Paramsc j0_Steps j0_Sent j0_Parts H Q) : FW Ee F_cohortlaw09_Ref [.agg ⟨[.string ⟨⟨j0_Program⟩⟩, .slice j0_Graph_Verticesa j0_Graph_Verticesl j0_Graph_Verticesc, .slice j0_Paramsa j0_Paramsl j0_Paramsc, .int .i64 j0_Steps, .int .i64 j0_Sent, .int .i64 j0_Parts]⟩] H Q := by
  have e : VC_cohortlaw09_Ref j0_Program j0_Graph_Verticesa j0_Graph_Verticesl j0_Graph_Verticesc j0_Paramsa j0_Paramsl j0_Paramsc j0_Steps j0_Sent j0_Parts H Q = wpF Ee ⟨[], []⟩ F_cohortlaw09_Ref [.agg ⟨[.string ⟨⟨j0_Program⟩⟩, .slice j0_Graph_Verticesa j0_Graph_Verticesl j0_Graph_Verticesc, .slice j0_Paramsa j0_Paramsl j0_Paramsc, .int .i64 j0_Steps, .int .i64 j0_Sent, .int .i64 j0_Parts]⟩] H Q := by kernel_rfl
  letI : Sy := sy0
  exact wpF_sound (Eq.mp e h)
/-- cohort/run.PutJob -/
def VC_run_PutJob (w0b : Nat) (j1_Program : List UInt8) (j1_Graph_Verticesa : Option Addr) (j1_Graph_Verticesl : Nat) (j1_Graph_Verticesc : Nat) (j1_Paramsa : Option Addr) (j1_Paramsl : Nat) (j1_Paramsc : Nat) (j1_Steps : Int) (j1_Sent : Int) (j1_Parts : Int) (H : AH) (Q : Value → AH → Prop) : Prop :=
 ∀ (H1 : AH),
 H1 = H.new (.cells [.string ⟨⟨j1_Program⟩⟩, .slice j1_Graph_Verticesa j1_Graph_Verticesl j1_Graph_Verticesc, .slice j1_Paramsa j1_Paramsl j1_Paramsc, .int .i64 j1_Steps, .int .i64 j1_Sent, .int .i64 j1_Parts] 0) →
 ∃ (t8 : List UInt8),
 H1.cell H.next 0 = some (.string ⟨⟨t8⟩⟩) ∧
 FW Ee F_wire_Writer_Text [.pointer (some ⟨w0b, 0, none⟩), .string ⟨⟨t8⟩⟩] H1 fun v H2 =>
 v = .tuple ⟨[]⟩ ∧
 ∃ (t12_Verticesa : Option Addr) (t12_Verticesl : Nat) (t12_Verticesc : Nat),
 H2.cell H.next (1 + 0) = some (.slice t12_Verticesa t12_Verticesl t12_Verticesc) ∧
 FW Ee F_graph_Put [.pointer (some ⟨w0b, 0, none⟩), .agg ⟨[.slice t12_Verticesa t12_Verticesl t12_Verticesc]⟩] H2 fun v_1 H3 =>
 v_1 = .tuple ⟨[]⟩ ∧
 ∃ (t16a : Option Addr) (t16l : Nat) (t16c : Nat),
 H3.cell H.next 2 = some (.slice t16a t16l t16c) ∧
 FW Ee F_wire_Writer_Count [.pointer (some ⟨w0b, 0, none⟩), .int .i64 (((t16l : Nat) : Int))] H3 fun v_2 H4 =>
 v_2 = .tuple ⟨[]⟩ ∧
 ∃ (t20a : Option Addr) (t20l : Nat) (t20c : Nat),
 H4.cell H.next 2 = some (.slice t20a t20l t20c) ∧
 ∃ (Inv : Nat → Int → AH → Prop),
 (
 ∃ (n_1 : Nat),
 Inv n_1 0 H4) ∧
 ∀ (n : Nat),
 ∀ (t22 : Int) (H5 : AH),
 Inv n t22 H5 →
 cond (decide (t22 < (((t20l : Nat) : Int)))) (
 grd t20a.isSome (
 (0 : Int) ≤ t22 ∧
 (t22 : Int) < ((t20l : Nat) : Int) ∧
 ∃ (t25 : Int),
 H5.cell ((adr t20a).block) ((adr t20a).off + (t22 : Int).toNat * 1) = some (.int .i64 t25) ∧
 FW Ee F_wire_Writer_Signed [.pointer (some ⟨w0b, 0, none⟩), .int .i64 t25] H5 fun v_3 H6 =>
 v_3 = .tuple ⟨[]⟩ ∧
 ∀ (t29 : Int),
 t29 = IntKind.i64.wrap (t22 + 1) →
 ∃ (m : Nat),
 m < n ∧
 Inv m t29 H6)) (
 ∃ (t32 : Int),
 H5.cell H.next 3 = some (.int .i64 t32) ∧
 FW Ee F_wire_Writer_Count [.pointer (some ⟨w0b, 0, none⟩), .int .i64 t32] H5 fun v_4 H7 =>
 v_4 = .tuple ⟨[]⟩ ∧
 ∃ (t36 : Int),
 H7.cell H.next 4 = some (.int .i64 t36) ∧
 FW Ee F_wire_Writer_Count [.pointer (some ⟨w0b, 0, none⟩), .int .i64 t36] H7 fun v_5 H8 =>
 v_5 = .tuple ⟨[]⟩ ∧
 ∃ (t40 : Int),
 H8.cell H.next 5 = some (.int .i64 t40) ∧
 FW Ee F_wire_Writer_Count [.pointer (some ⟨w0b, 0, none⟩), .int .i64 t40] H8 fun v_6 H9 =>
 v_6 = .tuple ⟨[]⟩ ∧
 Q (.tuple ⟨[]⟩) H9)
set_option maxRecDepth 100000 in
theorem fw_run_PutJob {w0b : Nat} {j1_Program : List UInt8} {j1_Graph_Verticesa : Option Addr} {j1_Graph_Verticesl : Nat} {j1_Graph_Verticesc : Nat} {j1_Paramsa : Option Addr} {j1_Paramsl : Nat} {j1_Paramsc : Nat} {j1_Steps : Int} {j1_Sent : Int} {j1_Parts : Int} {H : AH} {Q : Value → AH → Prop} (h : VC_run_PutJob w0b j1_Program j1_Graph_Verticesa j1_Graph_Verticesl j1_Graph_Verticesc j1_Paramsa j1_Paramsl j1_Paramsc j1_Steps j1_Sent j1_Parts H Q) : FW Ee F_run_PutJob [.pointer (some ⟨w0b, 0, none⟩), .agg ⟨[.string ⟨⟨j1_Program⟩⟩, .slice j1_Graph_Verticesa j1_Graph_Verticesl j1_Graph_Verticesc, .slice j1_Paramsa j1_Paramsl j1_Paramsc, .int .i64 j1_Steps, .int .i64 j1_Sent, .int .i64 j1_Parts]⟩] H Q := by
  have e : VC_run_PutJob w0b j1_Program j1_Graph_Verticesa j1_Graph_Verticesl j1_Graph_Verticesc j1_Paramsa j1_Paramsl j1_Paramsc j1_Steps j1_Sent j1_Parts H Q = wpF Ee ⟨[], []⟩ F_run_PutJob [.pointer (some ⟨w0b, 0, none⟩), .agg ⟨[.string ⟨⟨j1_Program⟩⟩, .slice j1_Graph_Verticesa j1_Graph_Verticesl j1_Graph_Verticesc, .slice j1_Paramsa j1_Paramsl j1_Paramsc, .int .i64 j1_Steps, .int .i64 j1_Sent, .int .i64 j1_Parts]⟩] H Q := by kernel_rfl
  letI : Sy := sy0
  exact wpF_sound (Eq.mp e h)
/-- cohort/run.TakeJob -/
def VC_run_TakeJob (r0b : Nat) (H : AH) (Q : Value → AH → Prop) : Prop :=
 ∀ (H1 : AH),
 H1 = H.new (.cells [.string ⟨⟨[]⟩⟩, .slice none 0 0, .slice none 0 0, .int .i64 0, .int .i64 0, .int .i64 0] 0) →
 FW Ee F_wire_Reader_Text [.pointer (some ⟨r0b, 0, none⟩)] H1 fun v H2 =>
 ∃ (r6 : List UInt8),
 v = .string ⟨⟨r6⟩⟩ ∧
 FW Ee F_graph_Take [.pointer (some ⟨r0b, 0, none⟩)] H2 fun v_1 H3 =>
 ∃ (r8_Verticesa : Option Addr) (r8_Verticesl : Nat) (r8_Verticesc : Nat),
 v_1 = .agg ⟨[.slice r8_Verticesa r8_Verticesl r8_Verticesc]⟩ ∧
 ∀ (H4 : AH),
 H4 = H3.new (.cells [.string ⟨⟨[]⟩⟩, .slice none 0 0, .slice none 0 0, .int .i64 0, .int .i64 0, .int .i64 0] 0) →
 ∃ (H5 : AH),
 storeCellsv H4 H3.next 0 [.string ⟨⟨r6⟩⟩, .slice r8_Verticesa r8_Verticesl r8_Verticesc, .slice none 0 0, .int .i64 0, .int .i64 0, .int .i64 0] = some H5 ∧
 FW Ee F_wire_Reader_Count [.pointer (some ⟨r0b, 0, none⟩), .int .i64 4] H5 fun v_2 H6 =>
 ∃ (r11 : Int),
 v_2 = .int .i64 r11 ∧
 ∃ (J_1 : Int → AH → Prop),
 (
 ∃ (Inv : Nat → Int → AH → Prop),
 (
 ∃ (n_1 : Nat),
 Inv n_1 r11 H6) ∧
 ∀ (n : Nat),
 ∀ (n4 : Int) (H7 : AH),
 Inv n n4 H7 →
 cond (decide (n4 > 0)) (
 FW Ee F_wire_Reader_Err [.pointer (some ⟨r0b, 0, none⟩)] H7 fun v_3 H8 =>
 ∃ (r16 : Int),
 v_3 = .int .i64 r16 ∧
 cond (r16 == 0) (
 ∃ (t22a : Option Addr) (t22l : Nat) (t22c : Nat),
 H8.cell H3.next 2 = some (.slice t22a t22l t22c) ∧
 FW Ee F_wire_Reader_Signed [.pointer (some ⟨r0b, 0, none⟩)] H8 fun v_4 H9 =>
 ∃ (r24 : Int),
 v_4 = .int .i64 r24 ∧
 ∀ (H10 : AH),
 H10 = H9.new (.cells [.int .i64 r24] 0) →
 ∃ (t26a : Option Addr) (t26l : Nat) (t26c : Nat) (H11 : AH),
 apnd H10 1 8 t22a t22l t22c (.slice (some ⟨H9.next, 0, none⟩) 1 2) = some (.slice t26a t26l t26c, H11) ∧
 ∃ (H12 : AH),
 storeCellsv H11 H3.next 2 [.slice t26a t26l t26c] = some H12 ∧
 H10.cell H3.next 2 = some (.slice t22a t22l t22c) ∧
 ∀ (t20 : Int),
 t20 = IntKind.i64.wrap (n4 - 1) →
 ∃ (m : Nat),
 m < n ∧
 Inv m t20 H12) (
 J_1 n4 H8)) (
 J_1 n4 H7)) ∧
 ∀ (n4_1 : Int) (H13 : AH),
 J_1 n4_1 H13 →
 FW Ee F_wire_Reader_Count [.pointer (some ⟨r0b, 0, none⟩), .int .i64 1000] H13 fun v_5 H14 =>
 ∃ (r29 : Int),
 v_5 = .int .i64 r29 ∧
 FW Ee F_wire_Reader_Count [.pointer (some ⟨r0b, 0, none⟩), .int .i64 65536] H14 fun v_6 H15 =>
 ∃ (r31 : Int),
 v_6 = .int .i64 r31 ∧
 FW Ee F_wire_Reader_Count [.pointer (some ⟨r0b, 0, none⟩), .int .i64 16] H15 fun v_7 H16 =>
 ∃ (r33 : Int),
 v_7 = .int .i64 r33 ∧
 ∃ (H17 : AH),
 storeCellsv H16 H3.next 3 [.int .i64 r29] = some H17 ∧
 ∃ (H18 : AH),
 storeCellsv H17 H3.next 4 [.int .i64 r31] = some H18 ∧
 ∃ (H19 : AH),
 storeCellsv H18 H3.next 5 [.int .i64 r33] = some H19 ∧
 FW Ee F_wire_Reader_Err [.pointer (some ⟨r0b, 0, none⟩)] H19 fun v_8 H20 =>
 ∃ (r38 : Int),
 v_8 = .int .i64 r38 ∧
 cond (r38 == 0) (
 ∃ (t41_Program : List UInt8) (t41_Graph_Verticesa : Option Addr) (t41_Graph_Verticesl : Nat) (t41_Graph_Verticesc : Nat) (t41_Paramsa : Option Addr) (t41_Paramsl : Nat) (t41_Paramsc : Nat) (t41_Steps : Int) (t41_Sent : Int) (t41_Parts : Int),
 H20.cell H3.next (0 + 0) = some (.string ⟨⟨t41_Program⟩⟩) ∧
 H20.cell H3.next (0 + 1) = some (.slice t41_Graph_Verticesa t41_Graph_Verticesl t41_Graph_Verticesc) ∧
 H20.cell H3.next (0 + 2) = some (.slice t41_Paramsa t41_Paramsl t41_Paramsc) ∧
 H20.cell H3.next (0 + 3) = some (.int .i64 t41_Steps) ∧
 H20.cell H3.next (0 + 4) = some (.int .i64 t41_Sent) ∧
 H20.cell H3.next (0 + 5) = some (.int .i64 t41_Parts) ∧
 FW Ee F_run_Check [.agg ⟨[.string ⟨⟨t41_Program⟩⟩, .slice t41_Graph_Verticesa t41_Graph_Verticesl t41_Graph_Verticesc, .slice t41_Paramsa t41_Paramsl t41_Paramsc, .int .i64 t41_Steps, .int .i64 t41_Sent, .int .i64 t41_Parts]⟩] H20 fun v_9 H21 =>
 ∃ (r42 : Int),
 v_9 = .int .i64 r42 ∧
 FW Ee F_wire_Reader_Fail [.pointer (some ⟨r0b, 0, none⟩), .int .i64 r42] H21 fun v_10 H22 =>
 v_10 = .tuple ⟨[]⟩ ∧
 ∃ (t44_Program : List UInt8) (t44_Graph_Verticesa : Option Addr) (t44_Graph_Verticesl : Nat) (t44_Graph_Verticesc : Nat) (t44_Paramsa : Option Addr) (t44_Paramsl : Nat) (t44_Paramsc : Nat) (t44_Steps : Int) (t44_Sent : Int) (t44_Parts : Int),
 H22.cell H3.next (0 + 0) = some (.string ⟨⟨t44_Program⟩⟩) ∧
 H22.cell H3.next (0 + 1) = some (.slice t44_Graph_Verticesa t44_Graph_Verticesl t44_Graph_Verticesc) ∧
 H22.cell H3.next (0 + 2) = some (.slice t44_Paramsa t44_Paramsl t44_Paramsc) ∧
 H22.cell H3.next (0 + 3) = some (.int .i64 t44_Steps) ∧
 H22.cell H3.next (0 + 4) = some (.int .i64 t44_Sent) ∧
 H22.cell H3.next (0 + 5) = some (.int .i64 t44_Parts) ∧
 ∃ (H23 : AH),
 storeCellsv H22 H.next 0 [.string ⟨⟨t44_Program⟩⟩, .slice t44_Graph_Verticesa t44_Graph_Verticesl t44_Graph_Verticesc, .slice t44_Paramsa t44_Paramsl t44_Paramsc, .int .i64 t44_Steps, .int .i64 t44_Sent, .int .i64 t44_Parts] = some H23 ∧
 ∃ (r2_Program : List UInt8) (r2_Graph_Verticesa : Option Addr) (r2_Graph_Verticesl : Nat) (r2_Graph_Verticesc : Nat) (r2_Paramsa : Option Addr) (r2_Paramsl : Nat) (r2_Paramsc : Nat) (r2_Steps : Int) (r2_Sent : Int) (r2_Parts : Int),
 H23.cell H.next (0 + 0) = some (.string ⟨⟨r2_Program⟩⟩) ∧
 H23.cell H.next (0 + 1) = some (.slice r2_Graph_Verticesa r2_Graph_Verticesl r2_Graph_Verticesc) ∧
 H23.cell H.next (0 + 2) = some (.slice r2_Paramsa r2_Paramsl r2_Paramsc) ∧
 H23.cell H.next (0 + 3) = some (.int .i64 r2_Steps) ∧
 H23.cell H.next (0 + 4) = some (.int .i64 r2_Sent) ∧
 H23.cell H.next (0 + 5) = some (.int .i64 r2_Parts) ∧
 Q (.agg ⟨[.string ⟨⟨r2_Program⟩⟩, .slice r2_Graph_Verticesa r2_Graph_Verticesl r2_Graph_Verticesc, .slice r2_Paramsa r2_Paramsl r2_Paramsc, .int .i64 r2_Steps, .int .i64 r2_Sent, .int .i64 r2_Parts]⟩) H23) (
 ∃ (t44_Program_1 : List UInt8) (t44_Graph_Verticesa_1 : Option Addr) (t44_Graph_Verticesl_1 : Nat) (t44_Graph_Verticesc_1 : Nat) (t44_Paramsa_1 : Option Addr) (t44_Paramsl_1 : Nat) (t44_Paramsc_1 : Nat) (t44_Steps_1 : Int) (t44_Sent_1 : Int) (t44_Parts_1 : Int),
 H20.cell H3.next (0 + 0) = some (.string ⟨⟨t44_Program_1⟩⟩) ∧
 H20.cell H3.next (0 + 1) = some (.slice t44_Graph_Verticesa_1 t44_Graph_Verticesl_1 t44_Graph_Verticesc_1) ∧
 H20.cell H3.next (0 + 2) = some (.slice t44_Paramsa_1 t44_Paramsl_1 t44_Paramsc_1) ∧
 H20.cell H3.next (0 + 3) = some (.int .i64 t44_Steps_1) ∧
 H20.cell H3.next (0 + 4) = some (.int .i64 t44_Sent_1) ∧
 H20.cell H3.next (0 + 5) = some (.int .i64 t44_Parts_1) ∧
 ∃ (H24 : AH),
 storeCellsv H20 H.next 0 [.string ⟨⟨t44_Program_1⟩⟩, .slice t44_Graph_Verticesa_1 t44_Graph_Verticesl_1 t44_Graph_Verticesc_1, .slice t44_Paramsa_1 t44_Paramsl_1 t44_Paramsc_1, .int .i64 t44_Steps_1, .int .i64 t44_Sent_1, .int .i64 t44_Parts_1] = some H24 ∧
 ∃ (r2_Program_1 : List UInt8) (r2_Graph_Verticesa_1 : Option Addr) (r2_Graph_Verticesl_1 : Nat) (r2_Graph_Verticesc_1 : Nat) (r2_Paramsa_1 : Option Addr) (r2_Paramsl_1 : Nat) (r2_Paramsc_1 : Nat) (r2_Steps_1 : Int) (r2_Sent_1 : Int) (r2_Parts_1 : Int),
 H24.cell H.next (0 + 0) = some (.string ⟨⟨r2_Program_1⟩⟩) ∧
 H24.cell H.next (0 + 1) = some (.slice r2_Graph_Verticesa_1 r2_Graph_Verticesl_1 r2_Graph_Verticesc_1) ∧
 H24.cell H.next (0 + 2) = some (.slice r2_Paramsa_1 r2_Paramsl_1 r2_Paramsc_1) ∧
 H24.cell H.next (0 + 3) = some (.int .i64 r2_Steps_1) ∧
 H24.cell H.next (0 + 4) = some (.int .i64 r2_Sent_1) ∧
 H24.cell H.next (0 + 5) = some (.int .i64 r2_Parts_1) ∧
 Q (.agg ⟨[.string ⟨⟨r2_Program_1⟩⟩, .slice r2_Graph_Verticesa_1 r2_Graph_Verticesl_1 r2_Graph_Verticesc_1, .slice r2_Paramsa_1 r2_Paramsl_1 r2_Paramsc_1, .int .i64 r2_Steps_1, .int .i64 r2_Sent_1, .int .i64 r2_Parts_1]⟩) H24)
set_option maxRecDepth 100000 in
theorem fw_run_TakeJob {r0b : Nat} {H : AH} {Q : Value → AH → Prop} (h : VC_run_TakeJob r0b H Q) : FW Ee F_run_TakeJob [.pointer (some ⟨r0b, 0, none⟩)] H Q := by
  have e : VC_run_TakeJob r0b H Q = wpF Ee ⟨[0], []⟩ F_run_TakeJob [.pointer (some ⟨r0b, 0, none⟩)] H Q := by kernel_rfl
  letI : Sy := sy0
  exact wpF_sound (Eq.mp e h)
end Go.Proofs.Cx
