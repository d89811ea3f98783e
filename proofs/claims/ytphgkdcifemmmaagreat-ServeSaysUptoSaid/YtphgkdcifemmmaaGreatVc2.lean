/- What calls come to, as formulas: printed by a program. -/
import Derived.Test.YtphgkdcifemmmaaGreatVc0
namespace Go.Proofs.Cx
open Go Go.Ev
set_option linter.unusedVariables false
set_option maxRecDepth 100000
set_option maxHeartbeats 8000000
end Go.Proofs.Cx
namespace Go.Proofs.Cx
open Go Go.Ev
set_option linter.unusedVariables false
set_option maxRecDepth 100000
set_option maxHeartbeats 8000000
end Go.Proofs.Cx
namespace Go.Proofs.Cx
open Go Go.Ev
set_option linter.unusedVariables false
set_option maxRecDepth 100000
set_option maxHeartbeats 8000000
end Go.Proofs.Cx
namespace Go.Proofs.Cx
open Go Go.Ev
set_option linter.unusedVariables false
set_option maxRecDepth 100000
set_option maxHeartbeats 8000000
end Go.Proofs.Cx
namespace Go.Proofs.Cx
open Go Go.Ev
set_option linter.unusedVariables false
set_option maxRecDepth 100000
set_option maxHeartbeats 8000000
def VC_view_PutEntry (w0 : Option Addr) (z0 : Int) (z1 : List UInt8) (H : AH) (Q : Value → AH → Prop) : Prop :=
 ∀ (H1 : AH),
 H1 = H.new (.cells [.int .i64 z0, .string ⟨⟨z1⟩⟩] 0) →
 ∃ (t6 : Int),
 H1.cell H.next 0 = some (.int .i64 t6) ∧
 FW Ee F_wire_Writer_Count [.pointer w0, .int .i64 t6] H1 fun v H2 =>
 v = .tuple ⟨[]⟩ ∧
 ∃ (t10 : List UInt8),
 H2.cell H.next 1 = some (.string ⟨⟨t10⟩⟩) ∧
 FW Ee F_wire_Writer_Text [.pointer w0, .string ⟨⟨t10⟩⟩] H2 fun v_1 H3 =>
 v_1 = .tuple ⟨[]⟩ ∧
 Q (.tuple ⟨[]⟩) H3
set_option maxRecDepth 100000 in
theorem fw_view_PutEntry {w0 : Option Addr} {z0 : Int} {z1 : List UInt8} {H : AH} {Q : Value → AH → Prop} (h : VC_view_PutEntry w0 z0 z1 H Q) : FW Ee F_view_PutEntry [.pointer w0, .agg ⟨[.int .i64 z0, .string ⟨⟨z1⟩⟩]⟩] H Q :=
  letI : Sy := sy0
  wpF_sound (A := ⟨[], []⟩) (Eq.mp (by kernel_rfl) h)
def VC_view_TakeEntry (r0 : Option Addr) (H : AH) (Q : Value → AH → Prop) : Prop :=
 ∀ (H1 : AH),
 H1 = H.new (.cells [.int .i64 0, .string ⟨⟨[]⟩⟩] 0) →
 FW Ee F_wire_Reader_Count [.pointer r0, .int .i64 2147483647] H1 fun v H2 =>
 ∃ (r4 : Int),
 v = .int .i64 r4 ∧
 FW Ee F_wire_Reader_Text [.pointer r0] H2 fun v_1 H3 =>
 ∃ (r6 : List UInt8),
 v_1 = .string ⟨⟨r6⟩⟩ ∧
 ∃ (H4 : AH),
 storeCellsv H3 H.next 0 [.int .i64 r4, .string ⟨⟨r6⟩⟩] = some H4 ∧
 ∃ (z0 : Int) (z1 : List UInt8),
 H4.cell H.next (0 + 0) = some (.int .i64 z0) ∧
 H4.cell H.next (0 + 1) = some (.string ⟨⟨z1⟩⟩) ∧
 Q (.agg ⟨[.int .i64 z0, .string ⟨⟨z1⟩⟩]⟩) H4
set_option maxRecDepth 100000 in
theorem fw_view_TakeEntry {r0 : Option Addr} {H : AH} {Q : Value → AH → Prop} (h : VC_view_TakeEntry r0 H Q) : FW Ee F_view_TakeEntry [.pointer r0] H Q :=
  letI : Sy := sy0
  wpF_sound (A := ⟨[], []⟩) (Eq.mp (by kernel_rfl) h)
def VC_view_Put (w0b : Nat) (z0 z1 z2 z3 z4 z5 z6 z7 z8 : Int) (z9 : List UInt8) (z10 : Option Addr) (z11 z12 : Nat) (H : AH) (Q : Value → AH → Prop) : Prop :=
 ∀ (H1 : AH),
 H1 = H.new (.cells [.int .i64 z0, .int .i64 z1, .int .i64 z2, .int .i64 z3, .int .i64 z4, .int .i64 z5, .int .i64 z6, .int .i64 z7, .int .i64 z8, .string ⟨⟨z9⟩⟩, .slice z10 z11 z12] 0) →
 ∃ (t9 : Int),
 H1.cell H.next 0 = some (.int .i64 t9) ∧
 ∃ (t11 : Int),
 H1.cell H.next 1 = some (.int .i64 t11) ∧
 ∃ (t13 : Int),
 H1.cell H.next 2 = some (.int .i64 t13) ∧
 ∃ (t15 : Int),
 H1.cell H.next 3 = some (.int .i64 t15) ∧
 ∃ (t17 : Int),
 H1.cell H.next 4 = some (.int .i64 t17) ∧
 ∃ (t19 : Int),
 H1.cell H.next 5 = some (.int .i64 t19) ∧
 ∃ (t21 : Int),
 H1.cell H.next 6 = some (.int .i64 t21) ∧
 ∃ (t23 : Int),
 H1.cell H.next 7 = some (.int .i64 t23) ∧
 ∃ (t25 : Int),
 H1.cell H.next 8 = some (.int .i64 t25) ∧
 ∀ (H2 : AH),
 H2 = H1.new (.cells [.int .i64 t9, .int .i64 t11, .int .i64 t13, .int .i64 t15, .int .i64 t17, .int .i64 t19, .int .i64 t21, .int .i64 t23, .int .i64 t25] 0) →
 ∃ (Inv : Nat → Int → AH → Prop),
 (
 ∃ (n_1 : Nat),
 Inv n_1 0 H2) ∧
 ∀ (n : Nat),
 ∀ (t28 : Int) (H3 : AH),
 Inv n t28 H3 →
 cond (decide (t28 < (((9 : Nat) : Int)))) (
 (0 : Int) ≤ t28 ∧
 (t28 : Int) < ((9 : Nat) : Int) ∧
 ∃ (t31 : Int),
 H3.cell H1.next (0 + (t28 : Int).toNat * 1) = some (.int .i64 t31) ∧
 FW Ee F_wire_Writer_Count [.pointer (some ⟨w0b, 0, none⟩), .int .i64 t31] H3 fun v H4 =>
 v = .tuple ⟨[]⟩ ∧
 ∀ (t35 : Int),
 t35 = IntKind.i64.wrap (t28 + 1) →
 ∃ (m : Nat),
 m < n ∧
 Inv m t35 H4) (
 ∃ (t38 : List UInt8),
 H3.cell H.next 9 = some (.string ⟨⟨t38⟩⟩) ∧
 FW Ee F_wire_Writer_Text [.pointer (some ⟨w0b, 0, none⟩), .string ⟨⟨t38⟩⟩] H3 fun v_1 H5 =>
 v_1 = .tuple ⟨[]⟩ ∧
 ∃ (t42a : Option Addr) (t42l t42c : Nat),
 H5.cell H.next 10 = some (.slice t42a t42l t42c) ∧
 FW Ee F_wire_Writer_Count [.pointer (some ⟨w0b, 0, none⟩), .int .i64 (((t42l : Nat) : Int))] H5 fun v_2 H6 =>
 v_2 = .tuple ⟨[]⟩ ∧
 ∃ (t46a : Option Addr) (t46l t46c : Nat),
 H6.cell H.next 10 = some (.slice t46a t46l t46c) ∧
 ∃ (Inv_1 : Nat → Int → AH → Prop),
 (
 ∃ (n_3 : Nat),
 Inv_1 n_3 0 H6) ∧
 ∀ (n_2 : Nat),
 ∀ (t48 : Int) (H7 : AH),
 Inv_1 n_2 t48 H7 →
 cond (decide (t48 < (((t46l : Nat) : Int)))) (
 grd t46a.isSome (
 (0 : Int) ≤ t48 ∧
 (t48 : Int) < ((t46l : Nat) : Int) ∧
 ∃ (z13 : Int) (z14 : List UInt8),
 H7.cell ((adr t46a).block) ((adr t46a).off + (t48 : Int).toNat * 2 + 0) = some (.int .i64 z13) ∧
 H7.cell ((adr t46a).block) ((adr t46a).off + (t48 : Int).toNat * 2 + 1) = some (.string ⟨⟨z14⟩⟩) ∧
 ∀ (H8 : AH),
 H8 = H7.new (.cells [.int .i64 0, .string ⟨⟨[]⟩⟩] 0) →
 ∃ (H9 : AH),
 storeCellsv H8 H7.next 0 [.int .i64 z13, .string ⟨⟨z14⟩⟩] = some H9 ∧
 ∃ (z15 : Int) (z16 : List UInt8),
 H9.cell H7.next (0 + 0) = some (.int .i64 z15) ∧
 H9.cell H7.next (0 + 1) = some (.string ⟨⟨z16⟩⟩) ∧
 FW Ee F_view_PutEntry [.pointer (some ⟨w0b, 0, none⟩), .agg ⟨[.int .i64 z15, .string ⟨⟨z16⟩⟩]⟩] H9 fun v_3 H10 =>
 v_3 = .tuple ⟨[]⟩ ∧
 ∀ (t55 : Int),
 t55 = IntKind.i64.wrap (t48 + 1) →
 ∃ (m_1 : Nat),
 m_1 < n_2 ∧
 Inv_1 m_1 t55 H10)) (
 Q (.tuple ⟨[]⟩) H7))
set_option maxRecDepth 100000 in
theorem fw_view_Put {w0b : Nat} {z0 z1 z2 z3 z4 z5 z6 z7 z8 : Int} {z9 : List UInt8} {z10 : Option Addr} {z11 z12 : Nat} {H : AH} {Q : Value → AH → Prop} (h : VC_view_Put w0b z0 z1 z2 z3 z4 z5 z6 z7 z8 z9 z10 z11 z12 H Q) : FW Ee F_view_Put [.pointer (some ⟨w0b, 0, none⟩), .agg ⟨[.int .i64 z0, .int .i64 z1, .int .i64 z2, .int .i64 z3, .int .i64 z4, .int .i64 z5, .int .i64 z6, .int .i64 z7, .int .i64 z8, .string ⟨⟨z9⟩⟩, .slice z10 z11 z12]⟩] H Q :=
  letI : Sy := sy0
  wpF_sound (A := ⟨[], []⟩) (Eq.mp (by kernel_rfl) h)
def VC_view_Take (r0b : Nat) (H : AH) (Q : Value → AH → Prop) : Prop :=
 ∀ (H1 : AH),
 H1 = H.new (.cells [.int .i64 0, .int .i64 0, .int .i64 0, .int .i64 0, .int .i64 0, .int .i64 0, .int .i64 0, .int .i64 0, .int .i64 0, .string ⟨⟨[]⟩⟩, .slice none 0 0] 0) →
 ∀ (H2 : AH),
 H2 = H1.new (.cells [.int .i64 0, .int .i64 0, .int .i64 0, .int .i64 0, .int .i64 0, .int .i64 0, .int .i64 0, .int .i64 0, .int .i64 0, .string ⟨⟨[]⟩⟩, .slice none 0 0] 0) →
 ∀ (H3 : AH),
 H3 = H2.new (.cells [.pointer (some ⟨H1.next, 0, none⟩), .pointer (some ⟨H1.next, 1, none⟩), .pointer (some ⟨H1.next, 2, none⟩), .pointer (some ⟨H1.next, 3, none⟩), .pointer (some ⟨H1.next, 4, none⟩), .pointer (some ⟨H1.next, 5, none⟩), .pointer (some ⟨H1.next, 6, none⟩), .pointer (some ⟨H1.next, 7, none⟩), .pointer (some ⟨H1.next, 8, none⟩)] 0) →
 ∃ (Inv : Nat → Int → AH → Prop),
 (
 ∃ (n_1 : Nat),
 Inv n_1 0 H3) ∧
 ∀ (n : Nat),
 ∀ (t18 : Int) (H4 : AH),
 Inv n t18 H4 →
 cond (decide (t18 < (((9 : Nat) : Int)))) (
 (0 : Int) ≤ t18 ∧
 (t18 : Int) < ((9 : Nat) : Int) ∧
 ∃ (t21 : Option Addr),
 H4.cell H2.next (0 + (t18 : Int).toNat * 1) = some (.pointer t21) ∧
 FW Ee F_wire_Reader_Count [.pointer (some ⟨r0b, 0, none⟩), .int .i64 2147483647] H4 fun v H5 =>
 ∃ (r24 : Int),
 v = .int .i64 r24 ∧
 grd t21.isSome (
 grd t21.isSome (
 ∃ (H6 : AH),
 storeCellsv H5 ((adr t21).block) ((adr t21).off) [.int .i64 r24] = some H6 ∧
 ∀ (t26 : Int),
 t26 = IntKind.i64.wrap (t18 + 1) →
 ∃ (m : Nat),
 m < n ∧
 Inv m t26 H6))) (
 FW Ee F_wire_Reader_Text [.pointer (some ⟨r0b, 0, none⟩)] H4 fun v_1 H7 =>
 ∃ (r28 : List UInt8),
 v_1 = .string ⟨⟨r28⟩⟩ ∧
 ∃ (H8 : AH),
 storeCellsv H7 H1.next 9 [.string ⟨⟨r28⟩⟩] = some H8 ∧
 FW Ee F_wire_Reader_Count [.pointer (some ⟨r0b, 0, none⟩), .int .i64 1000] H8 fun v_2 H9 =>
 ∃ (r31 : Int),
 v_2 = .int .i64 r31 ∧
 ∃ (Inv_1 : Nat → Int → AH → Prop),
 (
 ∃ (n_3 : Nat),
 Inv_1 n_3 r31 H9) ∧
 ∀ (n_2 : Nat),
 ∀ (k6 : Int) (H10 : AH),
 Inv_1 n_2 k6 H10 →
 cond (decide (k6 > 0)) (
 FW Ee F_wire_Reader_Err [.pointer (some ⟨r0b, 0, none⟩)] H10 fun v_3 H11 =>
 ∃ (r36 : Int),
 v_3 = .int .i64 r36 ∧
 cond (r36 == 0) (
 ∃ (t42a : Option Addr) (t42l t42c : Nat),
 H11.cell H1.next 10 = some (.slice t42a t42l t42c) ∧
 FW Ee F_view_TakeEntry [.pointer (some ⟨r0b, 0, none⟩)] H11 fun v_4 H12 =>
 ∃ (z0 : Int) (z1 : List UInt8),
 v_4 = .agg ⟨[.int .i64 z0, .string ⟨⟨z1⟩⟩]⟩ ∧
 ∀ (H13 : AH),
 H13 = H12.new (.cells [.int .i64 z0, .string ⟨⟨z1⟩⟩] 0) →
 ∃ (t46a : Option Addr) (t46l t46c : Nat) (H14 : AH),
 apnd H13 2 24 t42a t42l t42c (.slice (some ⟨H12.next, 0, none⟩) 1 2) = some (.slice t46a t46l t46c, H14) ∧
 ∃ (H15 : AH),
 storeCellsv H14 H1.next 10 [.slice t46a t46l t46c] = some H15 ∧
 H13.cell H1.next 10 = some (.slice t42a t42l t42c) ∧
 ∀ (t40 : Int),
 t40 = IntKind.i64.wrap (k6 - 1) →
 ∃ (m_1 : Nat),
 m_1 < n_2 ∧
 Inv_1 m_1 t40 H15) (
 FW Ee F_wire_Reader_Err [.pointer (some ⟨r0b, 0, none⟩)] H11 fun v_5 H16 =>
 ∃ (r49 : Int),
 v_5 = .int .i64 r49 ∧
 cond (r49 != 0) (
 ∃ (H17 : AH),
 storeCellsv H16 H.next 0 [.int .i64 0, .int .i64 0, .int .i64 0, .int .i64 0, .int .i64 0, .int .i64 0, .int .i64 0, .int .i64 0, .int .i64 0, .string ⟨⟨[]⟩⟩, .slice none 0 0] = some H17 ∧
 ∃ (z2 z3 z4 z5 z6 z7 z8 z9 z10 : Int) (z11 : List UInt8) (z12 : Option Addr) (z13 z14 : Nat),
 H17.cell H.next (0 + 0) = some (.int .i64 z2) ∧
 H17.cell H.next (0 + 1) = some (.int .i64 z3) ∧
 H17.cell H.next (0 + 2) = some (.int .i64 z4) ∧
 H17.cell H.next (0 + 3) = some (.int .i64 z5) ∧
 H17.cell H.next (0 + 4) = some (.int .i64 z6) ∧
 H17.cell H.next (0 + 5) = some (.int .i64 z7) ∧
 H17.cell H.next (0 + 6) = some (.int .i64 z8) ∧
 H17.cell H.next (0 + 7) = some (.int .i64 z9) ∧
 H17.cell H.next (0 + 8) = some (.int .i64 z10) ∧
 H17.cell H.next (0 + 9) = some (.string ⟨⟨z11⟩⟩) ∧
 H17.cell H.next (0 + 10) = some (.slice z12 z13 z14) ∧
 Q (.agg ⟨[.int .i64 z2, .int .i64 z3, .int .i64 z4, .int .i64 z5, .int .i64 z6, .int .i64 z7, .int .i64 z8, .int .i64 z9, .int .i64 z10, .string ⟨⟨z11⟩⟩, .slice z12 z13 z14]⟩) H17) (
 ∃ (z15 z16 z17 z18 z19 z20 z21 z22 z23 : Int) (z24 : List UInt8) (z25 : Option Addr) (z26 z27 : Nat),
 H16.cell H1.next (0 + 0) = some (.int .i64 z15) ∧
 H16.cell H1.next (0 + 1) = some (.int .i64 z16) ∧
 H16.cell H1.next (0 + 2) = some (.int .i64 z17) ∧
 H16.cell H1.next (0 + 3) = some (.int .i64 z18) ∧
 H16.cell H1.next (0 + 4) = some (.int .i64 z19) ∧
 H16.cell H1.next (0 + 5) = some (.int .i64 z20) ∧
 H16.cell H1.next (0 + 6) = some (.int .i64 z21) ∧
 H16.cell H1.next (0 + 7) = some (.int .i64 z22) ∧
 H16.cell H1.next (0 + 8) = some (.int .i64 z23) ∧
 H16.cell H1.next (0 + 9) = some (.string ⟨⟨z24⟩⟩) ∧
 H16.cell H1.next (0 + 10) = some (.slice z25 z26 z27) ∧
 ∃ (H18 : AH),
 storeCellsv H16 H.next 0 [.int .i64 z15, .int .i64 z16, .int .i64 z17, .int .i64 z18, .int .i64 z19, .int .i64 z20, .int .i64 z21, .int .i64 z22, .int .i64 z23, .string ⟨⟨z24⟩⟩, .slice z25 z26 z27] = some H18 ∧
 ∃ (z28 z29 z30 z31 z32 z33 z34 z35 z36 : Int) (z37 : List UInt8) (z38 : Option Addr) (z39 z40 : Nat),
 H18.cell H.next (0 + 0) = some (.int .i64 z28) ∧
 H18.cell H.next (0 + 1) = some (.int .i64 z29) ∧
 H18.cell H.next (0 + 2) = some (.int .i64 z30) ∧
 H18.cell H.next (0 + 3) = some (.int .i64 z31) ∧
 H18.cell H.next (0 + 4) = some (.int .i64 z32) ∧
 H18.cell H.next (0 + 5) = some (.int .i64 z33) ∧
 H18.cell H.next (0 + 6) = some (.int .i64 z34) ∧
 H18.cell H.next (0 + 7) = some (.int .i64 z35) ∧
 H18.cell H.next (0 + 8) = some (.int .i64 z36) ∧
 H18.cell H.next (0 + 9) = some (.string ⟨⟨z37⟩⟩) ∧
 H18.cell H.next (0 + 10) = some (.slice z38 z39 z40) ∧
 Q (.agg ⟨[.int .i64 z28, .int .i64 z29, .int .i64 z30, .int .i64 z31, .int .i64 z32, .int .i64 z33, .int .i64 z34, .int .i64 z35, .int .i64 z36, .string ⟨⟨z37⟩⟩, .slice z38 z39 z40]⟩) H18))) (
 FW Ee F_wire_Reader_Err [.pointer (some ⟨r0b, 0, none⟩)] H10 fun v_6 H19 =>
 ∃ (z41 : Int),
 v_6 = .int .i64 z41 ∧
 cond (z41 != 0) (
 ∃ (H20 : AH),
 storeCellsv H19 H.next 0 [.int .i64 0, .int .i64 0, .int .i64 0, .int .i64 0, .int .i64 0, .int .i64 0, .int .i64 0, .int .i64 0, .int .i64 0, .string ⟨⟨[]⟩⟩, .slice none 0 0] = some H20 ∧
 ∃ (z42 z43 z44 z45 z46 z47 z48 z49 z50 : Int) (z51 : List UInt8) (z52 : Option Addr) (z53 z54 : Nat),
 H20.cell H.next (0 + 0) = some (.int .i64 z42) ∧
 H20.cell H.next (0 + 1) = some (.int .i64 z43) ∧
 H20.cell H.next (0 + 2) = some (.int .i64 z44) ∧
 H20.cell H.next (0 + 3) = some (.int .i64 z45) ∧
 H20.cell H.next (0 + 4) = some (.int .i64 z46) ∧
 H20.cell H.next (0 + 5) = some (.int .i64 z47) ∧
 H20.cell H.next (0 + 6) = some (.int .i64 z48) ∧
 H20.cell H.next (0 + 7) = some (.int .i64 z49) ∧
 H20.cell H.next (0 + 8) = some (.int .i64 z50) ∧
 H20.cell H.next (0 + 9) = some (.string ⟨⟨z51⟩⟩) ∧
 H20.cell H.next (0 + 10) = some (.slice z52 z53 z54) ∧
 Q (.agg ⟨[.int .i64 z42, .int .i64 z43, .int .i64 z44, .int .i64 z45, .int .i64 z46, .int .i64 z47, .int .i64 z48, .int .i64 z49, .int .i64 z50, .string ⟨⟨z51⟩⟩, .slice z52 z53 z54]⟩) H20) (
 ∃ (z55 z56 z57 z58 z59 z60 z61 z62 z63 : Int) (z64 : List UInt8) (z65 : Option Addr) (z66 z67 : Nat),
 H19.cell H1.next (0 + 0) = some (.int .i64 z55) ∧
 H19.cell H1.next (0 + 1) = some (.int .i64 z56) ∧
 H19.cell H1.next (0 + 2) = some (.int .i64 z57) ∧
 H19.cell H1.next (0 + 3) = some (.int .i64 z58) ∧
 H19.cell H1.next (0 + 4) = some (.int .i64 z59) ∧
 H19.cell H1.next (0 + 5) = some (.int .i64 z60) ∧
 H19.cell H1.next (0 + 6) = some (.int .i64 z61) ∧
 H19.cell H1.next (0 + 7) = some (.int .i64 z62) ∧
 H19.cell H1.next (0 + 8) = some (.int .i64 z63) ∧
 H19.cell H1.next (0 + 9) = some (.string ⟨⟨z64⟩⟩) ∧
 H19.cell H1.next (0 + 10) = some (.slice z65 z66 z67) ∧
 ∃ (H21 : AH),
 storeCellsv H19 H.next 0 [.int .i64 z55, .int .i64 z56, .int .i64 z57, .int .i64 z58, .int .i64 z59, .int .i64 z60, .int .i64 z61, .int .i64 z62, .int .i64 z63, .string ⟨⟨z64⟩⟩, .slice z65 z66 z67] = some H21 ∧
 ∃ (z68 z69 z70 z71 z72 z73 z74 z75 z76 : Int) (z77 : List UInt8) (z78 : Option Addr) (z79 z80 : Nat),
 H21.cell H.next (0 + 0) = some (.int .i64 z68) ∧
 H21.cell H.next (0 + 1) = some (.int .i64 z69) ∧
 H21.cell H.next (0 + 2) = some (.int .i64 z70) ∧
 H21.cell H.next (0 + 3) = some (.int .i64 z71) ∧
 H21.cell H.next (0 + 4) = some (.int .i64 z72) ∧
 H21.cell H.next (0 + 5) = some (.int .i64 z73) ∧
 H21.cell H.next (0 + 6) = some (.int .i64 z74) ∧
 H21.cell H.next (0 + 7) = some (.int .i64 z75) ∧
 H21.cell H.next (0 + 8) = some (.int .i64 z76) ∧
 H21.cell H.next (0 + 9) = some (.string ⟨⟨z77⟩⟩) ∧
 H21.cell H.next (0 + 10) = some (.slice z78 z79 z80) ∧
 Q (.agg ⟨[.int .i64 z68, .int .i64 z69, .int .i64 z70, .int .i64 z71, .int .i64 z72, .int .i64 z73, .int .i64 z74, .int .i64 z75, .int .i64 z76, .string ⟨⟨z77⟩⟩, .slice z78 z79 z80]⟩) H21)))
set_option maxRecDepth 100000 in
theorem fw_view_Take {r0b : Nat} {H : AH} {Q : Value → AH → Prop} (h : VC_view_Take r0b H Q) : FW Ee F_view_Take [.pointer (some ⟨r0b, 0, none⟩)] H Q :=
  letI : Sy := sy0
  wpF_sound (A := ⟨[], []⟩) (Eq.mp (by kernel_rfl) h)
def VC_comb_PutMessages (w0b : Nat) (l1a : Option Addr) (l1l l1c : Nat) (H : AH) (Q : Value → AH → Prop) : Prop :=
 FW Ee F_wire_Writer_Count [.pointer (some ⟨w0b, 0, none⟩), .int .i64 (((l1l : Nat) : Int))] H fun v H1 =>
 v = .tuple ⟨[]⟩ ∧
 ∃ (Inv : Nat → Int → AH → Prop),
 (
 ∃ (n_1 : Nat),
 Inv n_1 0 H1) ∧
 ∀ (n : Nat),
 ∀ (t12 : Int) (H2 : AH),
 Inv n t12 H2 →
 cond (decide (t12 < (((l1l : Nat) : Int)))) (
 grd l1a.isSome (
 (0 : Int) ≤ t12 ∧
 (t12 : Int) < ((l1l : Nat) : Int) ∧
 ∃ (z0 z1 z2 z3 : Int),
 H2.cell ((adr l1a).block) ((adr l1a).off + (t12 : Int).toNat * 4 + 0) = some (.int .i64 z0) ∧
 H2.cell ((adr l1a).block) ((adr l1a).off + (t12 : Int).toNat * 4 + 1) = some (.int .i64 z1) ∧
 H2.cell ((adr l1a).block) ((adr l1a).off + (t12 : Int).toNat * 4 + 2) = some (.int .i64 z2) ∧
 H2.cell ((adr l1a).block) ((adr l1a).off + (t12 : Int).toNat * 4 + 3) = some (.int .i64 z3) ∧
 ∀ (H3 : AH),
 H3 = H2.new (.cells [.int .i64 0, .int .i64 0, .int .i64 0, .int .i64 0] 0) →
 ∃ (H4 : AH),
 storeCellsv H3 H2.next 0 [.int .i64 z0, .int .i64 z1, .int .i64 z2, .int .i64 z3] = some H4 ∧
 ∃ (t18 : Int),
 H4.cell H2.next 0 = some (.int .i64 t18) ∧
 FW Ee F_wire_Writer_Signed [.pointer (some ⟨w0b, 0, none⟩), .int .i64 t18] H4 fun v_1 H5 =>
 v_1 = .tuple ⟨[]⟩ ∧
 ∃ (t22 : Int),
 H5.cell H2.next 1 = some (.int .i64 t22) ∧
 FW Ee F_wire_Writer_Signed [.pointer (some ⟨w0b, 0, none⟩), .int .i64 t22] H5 fun v_2 H6 =>
 v_2 = .tuple ⟨[]⟩ ∧
 ∃ (t26 : Int),
 H6.cell H2.next 2 = some (.int .i64 t26) ∧
 FW Ee F_wire_Writer_Count [.pointer (some ⟨w0b, 0, none⟩), .int .i64 t26] H6 fun v_3 H7 =>
 v_3 = .tuple ⟨[]⟩ ∧
 ∃ (t30 : Int),
 H7.cell H2.next 3 = some (.int .i64 t30) ∧
 FW Ee F_wire_Writer_Signed [.pointer (some ⟨w0b, 0, none⟩), .int .i64 t30] H7 fun v_4 H8 =>
 v_4 = .tuple ⟨[]⟩ ∧
 ∀ (t32 : Int),
 t32 = IntKind.i64.wrap (t12 + 1) →
 ∃ (m : Nat),
 m < n ∧
 Inv m t32 H8)) (
 Q (.tuple ⟨[]⟩) H2)
set_option maxRecDepth 100000 in
theorem fw_comb_PutMessages {w0b : Nat} {l1a : Option Addr} {l1l l1c : Nat} {H : AH} {Q : Value → AH → Prop} (h : VC_comb_PutMessages w0b l1a l1l l1c H Q) : FW Ee F_comb_PutMessages [.pointer (some ⟨w0b, 0, none⟩), .slice l1a l1l l1c] H Q :=
  letI : Sy := sy0
  wpF_sound (A := ⟨[], []⟩) (Eq.mp (by kernel_rfl) h)
def VC_comb_TakeMessages (r0b : Nat) (H : AH) (Q : Value → AH → Prop) : Prop :=
 FW Ee F_wire_Reader_Count [.pointer (some ⟨r0b, 0, none⟩), .int .i64 65536] H fun v H1 =>
 ∃ (r6 : Int),
 v = .int .i64 r6 ∧
 ∃ (Inv : Nat → Option Addr → Nat → Nat → Int → AH → Prop),
 (
 ∃ (n_1 : Nat),
 Inv n_1 none 0 0 r6 H1) ∧
 ∀ (n : Nat),
 ∀ (out3a : Option Addr) (out3l out3c : Nat) (n4 : Int) (H2 : AH),
 Inv n out3a out3l out3c n4 H2 →
 cond (decide (n4 > 0)) (
 FW Ee F_wire_Reader_Err [.pointer (some ⟨r0b, 0, none⟩)] H2 fun v_1 H3 =>
 ∃ (r11 : Int),
 v_1 = .int .i64 r11 ∧
 cond (r11 == 0) (
 FW Ee F_wire_Reader_Signed [.pointer (some ⟨r0b, 0, none⟩)] H3 fun v_2 H4 =>
 ∃ (r18 : Int),
 v_2 = .int .i64 r18 ∧
 FW Ee F_wire_Reader_Signed [.pointer (some ⟨r0b, 0, none⟩)] H4 fun v_3 H5 =>
 ∃ (r20 : Int),
 v_3 = .int .i64 r20 ∧
 FW Ee F_wire_Reader_Count [.pointer (some ⟨r0b, 0, none⟩), .int .i64 65536] H5 fun v_4 H6 =>
 ∃ (r22 : Int),
 v_4 = .int .i64 r22 ∧
 FW Ee F_wire_Reader_Signed [.pointer (some ⟨r0b, 0, none⟩)] H6 fun v_5 H7 =>
 ∃ (r24 : Int),
 v_5 = .int .i64 r24 ∧
 ∀ (H8 : AH),
 H8 = H7.new (.cells [.int .i64 r18, .int .i64 r20, .int .i64 r22, .int .i64 r24] 0) →
 ∃ (t27a : Option Addr) (t27l t27c : Nat) (H9 : AH),
 apnd H8 4 32 out3a out3l out3c (.slice (some ⟨H7.next, 0, none⟩) 1 2) = some (.slice t27a t27l t27c, H9) ∧
 ∀ (t15 : Int),
 t15 = IntKind.i64.wrap (n4 - 1) →
 ∃ (m : Nat),
 m < n ∧
 Inv m t27a t27l t27c t15 H9) (
 Q (.slice out3a out3l out3c) H3)) (
 Q (.slice out3a out3l out3c) H2)
set_option maxRecDepth 100000 in
theorem fw_comb_TakeMessages {r0b : Nat} {H : AH} {Q : Value → AH → Prop} (h : VC_comb_TakeMessages r0b H Q) : FW Ee F_comb_TakeMessages [.pointer (some ⟨r0b, 0, none⟩)] H Q :=
  letI : Sy := sy0
  wpF_sound (A := ⟨[], []⟩) (Eq.mp (by kernel_rfl) h)
def VC_mut_Check (z0 z1 z2 z3 : Int) (H : AH) (Q : Value → AH → Prop) : Prop :=
 ∀ (H1 : AH),
 H1 = H.new (.cells [.int .i64 z0, .int .i64 z1, .int .i64 z2, .int .i64 z3] 0) →
 ∃ (t4 : Int),
 H1.cell H.next 0 = some (.int .i64 t4) ∧
 cond (t4 == 1) (
 ∃ (t8 : Int),
 H1.cell H.next 3 = some (.int .i64 t8) ∧
 Q (.bool (t8 == 0)) H1) (
 cond (t4 == 2) (
 ∃ (t13 : Int),
 H1.cell H.next 2 = some (.int .i64 t13) ∧
 cond (t13 == 0) (
 ∃ (t17 : Int),
 H1.cell H.next 3 = some (.int .i64 t17) ∧
 Q (.bool (t17 == 0)) H1) (
 Q (.bool false) H1)) (
 cond (t4 == 3) (
 ∃ (t23 : Int),
 H1.cell H.next 2 = some (.int .i64 t23) ∧
 Q (.bool (t23 == 0)) H1) (
 ∃ (t26 : Int),
 H1.cell H.next 0 = some (.int .i64 t26) ∧
 Q (.bool (t26 == 4)) H1)))
set_option maxRecDepth 100000 in
theorem fw_mut_Check {z0 z1 z2 z3 : Int} {H : AH} {Q : Value → AH → Prop} (h : VC_mut_Check z0 z1 z2 z3 H Q) : FW Ee F_mut_Check [.agg ⟨[.int .i64 z0, .int .i64 z1, .int .i64 z2, .int .i64 z3]⟩] H Q :=
  letI : Sy := sy0
  wpF_sound (A := ⟨[], []⟩) (Eq.mp (by kernel_rfl) h)
def VC_mut_Put (w0b : Nat) (l1a : Option Addr) (l1l l1c : Nat) (H : AH) (Q : Value → AH → Prop) : Prop :=
 FW Ee F_wire_Writer_Count [.pointer (some ⟨w0b, 0, none⟩), .int .i64 (((l1l : Nat) : Int))] H fun v H1 =>
 v = .tuple ⟨[]⟩ ∧
 ∃ (Inv : Nat → Int → AH → Prop),
 (
 ∃ (n_1 : Nat),
 Inv n_1 0 H1) ∧
 ∀ (n : Nat),
 ∀ (t12 : Int) (H2 : AH),
 Inv n t12 H2 →
 cond (decide (t12 < (((l1l : Nat) : Int)))) (
 grd l1a.isSome (
 (0 : Int) ≤ t12 ∧
 (t12 : Int) < ((l1l : Nat) : Int) ∧
 ∃ (z0 z1 z2 z3 : Int),
 H2.cell ((adr l1a).block) ((adr l1a).off + (t12 : Int).toNat * 4 + 0) = some (.int .i64 z0) ∧
 H2.cell ((adr l1a).block) ((adr l1a).off + (t12 : Int).toNat * 4 + 1) = some (.int .i64 z1) ∧
 H2.cell ((adr l1a).block) ((adr l1a).off + (t12 : Int).toNat * 4 + 2) = some (.int .i64 z2) ∧
 H2.cell ((adr l1a).block) ((adr l1a).off + (t12 : Int).toNat * 4 + 3) = some (.int .i64 z3) ∧
 ∀ (H3 : AH),
 H3 = H2.new (.cells [.int .i64 0, .int .i64 0, .int .i64 0, .int .i64 0] 0) →
 ∃ (H4 : AH),
 storeCellsv H3 H2.next 0 [.int .i64 z0, .int .i64 z1, .int .i64 z2, .int .i64 z3] = some H4 ∧
 ∃ (t18 : Int),
 H4.cell H2.next 0 = some (.int .i64 t18) ∧
 FW Ee F_wire_Writer_Count [.pointer (some ⟨w0b, 0, none⟩), .int .i64 t18] H4 fun v_1 H5 =>
 v_1 = .tuple ⟨[]⟩ ∧
 ∃ (t22 : Int),
 H5.cell H2.next 1 = some (.int .i64 t22) ∧
 FW Ee F_wire_Writer_Signed [.pointer (some ⟨w0b, 0, none⟩), .int .i64 t22] H5 fun v_2 H6 =>
 v_2 = .tuple ⟨[]⟩ ∧
 ∃ (t26 : Int),
 H6.cell H2.next 2 = some (.int .i64 t26) ∧
 FW Ee F_wire_Writer_Signed [.pointer (some ⟨w0b, 0, none⟩), .int .i64 t26] H6 fun v_3 H7 =>
 v_3 = .tuple ⟨[]⟩ ∧
 ∃ (t30 : Int),
 H7.cell H2.next 3 = some (.int .i64 t30) ∧
 FW Ee F_wire_Writer_Signed [.pointer (some ⟨w0b, 0, none⟩), .int .i64 t30] H7 fun v_4 H8 =>
 v_4 = .tuple ⟨[]⟩ ∧
 ∀ (t32 : Int),
 t32 = IntKind.i64.wrap (t12 + 1) →
 ∃ (m : Nat),
 m < n ∧
 Inv m t32 H8)) (
 Q (.tuple ⟨[]⟩) H2)
set_option maxRecDepth 100000 in
theorem fw_mut_Put {w0b : Nat} {l1a : Option Addr} {l1l l1c : Nat} {H : AH} {Q : Value → AH → Prop} (h : VC_mut_Put w0b l1a l1l l1c H Q) : FW Ee F_mut_Put [.pointer (some ⟨w0b, 0, none⟩), .slice l1a l1l l1c] H Q :=
  letI : Sy := sy0
  wpF_sound (A := ⟨[], []⟩) (Eq.mp (by kernel_rfl) h)
def VC_mut_Take (r0b : Nat) (H : AH) (Q : Value → AH → Prop) : Prop :=
 FW Ee F_wire_Reader_Count [.pointer (some ⟨r0b, 0, none⟩), .int .i64 65536] H fun v H1 =>
 ∃ (r7 : Int),
 v = .int .i64 r7 ∧
 ∃ (Inv : Nat → Option Addr → Nat → Nat → Int → AH → Prop),
 (
 ∃ (n_1 : Nat),
 Inv n_1 none 0 0 r7 H1) ∧
 ∀ (n : Nat),
 ∀ (out3a : Option Addr) (out3l out3c : Nat) (n4 : Int) (H2 : AH),
 Inv n out3a out3l out3c n4 H2 →
 cond (decide (n4 > 0)) (
 FW Ee F_wire_Reader_Err [.pointer (some ⟨r0b, 0, none⟩)] H2 fun v_1 H3 =>
 ∃ (r12 : Int),
 v_1 = .int .i64 r12 ∧
 cond (r12 == 0) (
 FW Ee F_wire_Reader_Count [.pointer (some ⟨r0b, 0, none⟩), .int .i64 4] H3 fun v_2 H4 =>
 ∃ (r18 : Int),
 v_2 = .int .i64 r18 ∧
 FW Ee F_wire_Reader_Signed [.pointer (some ⟨r0b, 0, none⟩)] H4 fun v_3 H5 =>
 ∃ (r20 : Int),
 v_3 = .int .i64 r20 ∧
 FW Ee F_wire_Reader_Signed [.pointer (some ⟨r0b, 0, none⟩)] H5 fun v_4 H6 =>
 ∃ (r22 : Int),
 v_4 = .int .i64 r22 ∧
 FW Ee F_wire_Reader_Signed [.pointer (some ⟨r0b, 0, none⟩)] H6 fun v_5 H7 =>
 ∃ (r24 : Int),
 v_5 = .int .i64 r24 ∧
 ∀ (H8 : AH),
 H8 = H7.new (.cells [.int .i64 0, .int .i64 0, .int .i64 0, .int .i64 0] 0) →
 ∃ (H9 : AH),
 storeCellsv H8 H7.next 0 [.int .i64 r18, .int .i64 r20, .int .i64 r22, .int .i64 r24] = some H9 ∧
 FW Ee F_wire_Reader_Err [.pointer (some ⟨r0b, 0, none⟩)] H9 fun v_6 H10 =>
 ∃ (r27 : Int),
 v_6 = .int .i64 r27 ∧
 cond (r27 == 0) (
 ∃ (z0 z1 z2 z3 : Int),
 H10.cell H7.next (0 + 0) = some (.int .i64 z0) ∧
 H10.cell H7.next (0 + 1) = some (.int .i64 z1) ∧
 H10.cell H7.next (0 + 2) = some (.int .i64 z2) ∧
 H10.cell H7.next (0 + 3) = some (.int .i64 z3) ∧
 FW Ee F_mut_Check [.agg ⟨[.int .i64 z0, .int .i64 z1, .int .i64 z2, .int .i64 z3]⟩] H10 fun v_7 H11 =>
 ∃ (r31 : Bool),
 v_7 = .bool r31 ∧
 cond (!r31) (
 FW Ee F_wire_Reader_Fail [.pointer (some ⟨r0b, 0, none⟩), .int .i64 6] H11 fun v_8 H12 =>
 v_8 = .tuple ⟨[]⟩ ∧
 ∃ (z4 z5 z6 z7 : Int),
 H12.cell H7.next (0 + 0) = some (.int .i64 z4) ∧
 H12.cell H7.next (0 + 1) = some (.int .i64 z5) ∧
 H12.cell H7.next (0 + 2) = some (.int .i64 z6) ∧
 H12.cell H7.next (0 + 3) = some (.int .i64 z7) ∧
 ∀ (H13 : AH),
 H13 = H12.new (.cells [.int .i64 z4, .int .i64 z5, .int .i64 z6, .int .i64 z7] 0) →
 ∃ (t39a : Option Addr) (t39l t39c : Nat) (H14 : AH),
 apnd H13 4 32 out3a out3l out3c (.slice (some ⟨H12.next, 0, none⟩) 1 2) = some (.slice t39a t39l t39c, H14) ∧
 ∀ (t16 : Int),
 t16 = IntKind.i64.wrap (n4 - 1) →
 ∃ (m : Nat),
 m < n ∧
 Inv m t39a t39l t39c t16 H14) (
 ∃ (z8 z9 z10 z11 : Int),
 H11.cell H7.next (0 + 0) = some (.int .i64 z8) ∧
 H11.cell H7.next (0 + 1) = some (.int .i64 z9) ∧
 H11.cell H7.next (0 + 2) = some (.int .i64 z10) ∧
 H11.cell H7.next (0 + 3) = some (.int .i64 z11) ∧
 ∀ (H15 : AH),
 H15 = H11.new (.cells [.int .i64 z8, .int .i64 z9, .int .i64 z10, .int .i64 z11] 0) →
 ∃ (t39a_1 : Option Addr) (t39l_1 t39c_1 : Nat) (H16 : AH),
 apnd H15 4 32 out3a out3l out3c (.slice (some ⟨H11.next, 0, none⟩) 1 2) = some (.slice t39a_1 t39l_1 t39c_1, H16) ∧
 ∀ (z12 : Int),
 z12 = IntKind.i64.wrap (n4 - 1) →
 ∃ (m : Nat),
 m < n ∧
 Inv m t39a_1 t39l_1 t39c_1 z12 H16)) (
 ∃ (z13 z14 z15 z16 : Int),
 H10.cell H7.next (0 + 0) = some (.int .i64 z13) ∧
 H10.cell H7.next (0 + 1) = some (.int .i64 z14) ∧
 H10.cell H7.next (0 + 2) = some (.int .i64 z15) ∧
 H10.cell H7.next (0 + 3) = some (.int .i64 z16) ∧
 ∀ (H17 : AH),
 H17 = H10.new (.cells [.int .i64 z13, .int .i64 z14, .int .i64 z15, .int .i64 z16] 0) →
 ∃ (t39a_2 : Option Addr) (t39l_2 t39c_2 : Nat) (H18 : AH),
 apnd H17 4 32 out3a out3l out3c (.slice (some ⟨H10.next, 0, none⟩) 1 2) = some (.slice t39a_2 t39l_2 t39c_2, H18) ∧
 ∀ (z17 : Int),
 z17 = IntKind.i64.wrap (n4 - 1) →
 ∃ (m : Nat),
 m < n ∧
 Inv m t39a_2 t39l_2 t39c_2 z17 H18)) (
 FW Ee F_wire_Reader_Err [.pointer (some ⟨r0b, 0, none⟩)] H3 fun v_9 H19 =>
 ∃ (r41 : Int),
 v_9 = .int .i64 r41 ∧
 cond (r41 != 0) (
 Q (.slice none 0 0) H19) (
 Q (.slice out3a out3l out3c) H19))) (
 FW Ee F_wire_Reader_Err [.pointer (some ⟨r0b, 0, none⟩)] H2 fun v_10 H20 =>
 ∃ (z18 : Int),
 v_10 = .int .i64 z18 ∧
 cond (z18 != 0) (
 Q (.slice none 0 0) H20) (
 Q (.slice out3a out3l out3c) H20))
set_option maxRecDepth 100000 in
theorem fw_mut_Take {r0b : Nat} {H : AH} {Q : Value → AH → Prop} (h : VC_mut_Take r0b H Q) : FW Ee F_mut_Take [.pointer (some ⟨r0b, 0, none⟩)] H Q :=
  letI : Sy := sy0
  wpF_sound (A := ⟨[], []⟩) (Eq.mp (by kernel_rfl) h)
def VC_serve_putCounts (w0b : Nat) (l1a : Option Addr) (l1l l1c : Nat) (H : AH) (Q : Value → AH → Prop) : Prop :=
 ∃ (Inv : Nat → Int → AH → Prop),
 (
 ∃ (n_1 : Nat),
 Inv n_1 0 H) ∧
 ∀ (n : Nat),
 ∀ (t8 : Int) (H1 : AH),
 Inv n t8 H1 →
 cond (decide (t8 < (((l1l : Nat) : Int)))) (
 grd l1a.isSome (
 (0 : Int) ≤ t8 ∧
 (t8 : Int) < ((l1l : Nat) : Int) ∧
 ∃ (t11 : Int),
 H1.cell ((adr l1a).block) ((adr l1a).off + (t8 : Int).toNat * 1) = some (.int .i64 t11) ∧
 FW Ee F_wire_Writer_Count [.pointer (some ⟨w0b, 0, none⟩), .int .i64 t11] H1 fun v H2 =>
 v = .tuple ⟨[]⟩ ∧
 ∀ (t15 : Int),
 t15 = IntKind.i64.wrap (t8 + 1) →
 ∃ (m : Nat),
 m < n ∧
 Inv m t15 H2)) (
 Q (.tuple ⟨[]⟩) H1)
set_option maxRecDepth 100000 in
theorem fw_serve_putCounts {w0b : Nat} {l1a : Option Addr} {l1l l1c : Nat} {H : AH} {Q : Value → AH → Prop} (h : VC_serve_putCounts w0b l1a l1l l1c H Q) : FW Ee F_serve_putCounts [.pointer (some ⟨w0b, 0, none⟩), .slice l1a l1l l1c] H Q :=
  letI : Sy := sy0
  wpF_sound (A := ⟨[], []⟩) (Eq.mp (by kernel_rfl) h)
def VC_serve_takeCounts (r0b : Nat) (l1a : Option Addr) (l1l l1c : Nat) (H : AH) (Q : Value → AH → Prop) : Prop :=
 ∃ (Inv : Nat → Int → AH → Prop),
 (
 ∃ (n_1 : Nat),
 Inv n_1 0 H) ∧
 ∀ (n : Nat),
 ∀ (t8 : Int) (H1 : AH),
 Inv n t8 H1 →
 cond (decide (t8 < (((l1l : Nat) : Int)))) (
 grd l1a.isSome (
 (0 : Int) ≤ t8 ∧
 (t8 : Int) < ((l1l : Nat) : Int) ∧
 ∃ (t11 : Option Addr),
 H1.cell ((adr l1a).block) ((adr l1a).off + (t8 : Int).toNat * 1) = some (.pointer t11) ∧
 FW Ee F_wire_Reader_Count [.pointer (some ⟨r0b, 0, none⟩), .int .i64 2147483647] H1 fun v H2 =>
 ∃ (r14 : Int),
 v = .int .i64 r14 ∧
 grd t11.isSome (
 grd t11.isSome (
 ∃ (H3 : AH),
 storeCellsv H2 ((adr t11).block) ((adr t11).off) [.int .i64 r14] = some H3 ∧
 ∀ (t16 : Int),
 t16 = IntKind.i64.wrap (t8 + 1) →
 ∃ (m : Nat),
 m < n ∧
 Inv m t16 H3)))) (
 Q (.tuple ⟨[]⟩) H1)
set_option maxRecDepth 100000 in
theorem fw_serve_takeCounts {r0b : Nat} {l1a : Option Addr} {l1l l1c : Nat} {H : AH} {Q : Value → AH → Prop} (h : VC_serve_takeCounts r0b l1a l1l l1c H Q) : FW Ee F_serve_takeCounts [.pointer (some ⟨r0b, 0, none⟩), .slice l1a l1l l1c] H Q :=
  letI : Sy := sy0
  wpF_sound (A := ⟨[], []⟩) (Eq.mp (by kernel_rfl) h)
def VC_serve_putAsk (w0b : Nat) (z0 z1 z2 : Int) (z3 : List UInt8) (z4 : Int) (H : AH) (Q : Value → AH → Prop) : Prop :=
 ∀ (H1 : AH),
 H1 = H.new (.cells [.int .i64 z0, .int .i64 z1, .int .i64 z2, .string ⟨⟨z3⟩⟩, .int .i64 z4] 0) →
 ∃ (t6 : Int),
 H1.cell H.next 0 = some (.int .i64 t6) ∧
 FW Ee F_wire_Writer_Count [.pointer (some ⟨w0b, 0, none⟩), .int .i64 t6] H1 fun v H2 =>
 v = .tuple ⟨[]⟩ ∧
 ∃ (t10 : Int),
 H2.cell H.next 1 = some (.int .i64 t10) ∧
 FW Ee F_wire_Writer_Signed [.pointer (some ⟨w0b, 0, none⟩), .int .i64 t10] H2 fun v_1 H3 =>
 v_1 = .tuple ⟨[]⟩ ∧
 ∃ (t14 : Int),
 H3.cell H.next 2 = some (.int .i64 t14) ∧
 ∃ (t16 : Int),
 H3.cell H.next 4 = some (.int .i64 t16) ∧
 ∀ (H4 : AH),
 H4 = H3.new (.cells [.int .i64 t14, .int .i64 t16] 0) →
 FW Ee F_serve_putCounts [.pointer (some ⟨w0b, 0, none⟩), .slice (some ⟨H3.next, 0, none⟩) 2 4] H4 fun v_2 H5 =>
 v_2 = .tuple ⟨[]⟩ ∧
 ∃ (t21 : List UInt8),
 H5.cell H.next 3 = some (.string ⟨⟨t21⟩⟩) ∧
 FW Ee F_wire_Writer_Text [.pointer (some ⟨w0b, 0, none⟩), .string ⟨⟨t21⟩⟩] H5 fun v_3 H6 =>
 v_3 = .tuple ⟨[]⟩ ∧
 Q (.tuple ⟨[]⟩) H6
set_option maxRecDepth 100000 in
theorem fw_serve_putAsk {w0b : Nat} {z0 z1 z2 : Int} {z3 : List UInt8} {z4 : Int} {H : AH} {Q : Value → AH → Prop} (h : VC_serve_putAsk w0b z0 z1 z2 z3 z4 H Q) : FW Ee F_serve_putAsk [.pointer (some ⟨w0b, 0, none⟩), .agg ⟨[.int .i64 z0, .int .i64 z1, .int .i64 z2, .string ⟨⟨z3⟩⟩, .int .i64 z4]⟩] H Q :=
  letI : Sy := sy0
  wpF_sound (A := ⟨[], []⟩) (Eq.mp (by kernel_rfl) h)
def VC_serve_takeAsk (r0b : Nat) (H : AH) (Q : Value → AH → Prop) : Prop :=
 ∀ (H1 : AH),
 H1 = H.new (.cells [.int .i64 0, .int .i64 0, .int .i64 0, .string ⟨⟨[]⟩⟩, .int .i64 0] 0) →
 FW Ee F_wire_Reader_Count [.pointer (some ⟨r0b, 0, none⟩), .int .i64 3] H1 fun v H2 =>
 ∃ (r5 : Int),
 v = .int .i64 r5 ∧
 FW Ee F_wire_Reader_Signed [.pointer (some ⟨r0b, 0, none⟩)] H2 fun v_1 H3 =>
 ∃ (r7 : Int),
 v_1 = .int .i64 r7 ∧
 ∀ (H4 : AH),
 H4 = H3.new (.cells [.int .i64 0, .int .i64 0, .int .i64 0, .string ⟨⟨[]⟩⟩, .int .i64 0] 0) →
 ∃ (H5 : AH),
 storeCellsv H4 H3.next 0 [.int .i64 r5, .int .i64 r7, .int .i64 0, .string ⟨⟨[]⟩⟩, .int .i64 0] = some H5 ∧
 ∀ (H6 : AH),
 H6 = H5.new (.cells [.pointer (some ⟨H3.next, 2, none⟩), .pointer (some ⟨H3.next, 4, none⟩)] 0) →
 FW Ee F_serve_takeCounts [.pointer (some ⟨r0b, 0, none⟩), .slice (some ⟨H5.next, 0, none⟩) 2 4] H6 fun v_2 H7 =>
 v_2 = .tuple ⟨[]⟩ ∧
 FW Ee F_wire_Reader_Text [.pointer (some ⟨r0b, 0, none⟩)] H7 fun v_3 H8 =>
 ∃ (r15 : List UInt8),
 v_3 = .string ⟨⟨r15⟩⟩ ∧
 ∃ (H9 : AH),
 storeCellsv H8 H3.next 3 [.string ⟨⟨r15⟩⟩] = some H9 ∧
 ∃ (z0 z1 z2 : Int) (z3 : List UInt8) (z4 : Int),
 H9.cell H3.next (0 + 0) = some (.int .i64 z0) ∧
 H9.cell H3.next (0 + 1) = some (.int .i64 z1) ∧
 H9.cell H3.next (0 + 2) = some (.int .i64 z2) ∧
 H9.cell H3.next (0 + 3) = some (.string ⟨⟨z3⟩⟩) ∧
 H9.cell H3.next (0 + 4) = some (.int .i64 z4) ∧
 ∃ (H10 : AH),
 storeCellsv H9 H.next 0 [.int .i64 z0, .int .i64 z1, .int .i64 z2, .string ⟨⟨z3⟩⟩, .int .i64 z4] = some H10 ∧
 ∃ (z5 z6 z7 : Int) (z8 : List UInt8) (z9 : Int),
 H10.cell H.next (0 + 0) = some (.int .i64 z5) ∧
 H10.cell H.next (0 + 1) = some (.int .i64 z6) ∧
 H10.cell H.next (0 + 2) = some (.int .i64 z7) ∧
 H10.cell H.next (0 + 3) = some (.string ⟨⟨z8⟩⟩) ∧
 H10.cell H.next (0 + 4) = some (.int .i64 z9) ∧
 Q (.agg ⟨[.int .i64 z5, .int .i64 z6, .int .i64 z7, .string ⟨⟨z8⟩⟩, .int .i64 z9]⟩) H10
set_option maxRecDepth 100000 in
theorem fw_serve_takeAsk {r0b : Nat} {H : AH} {Q : Value → AH → Prop} (h : VC_serve_takeAsk r0b H Q) : FW Ee F_serve_takeAsk [.pointer (some ⟨r0b, 0, none⟩)] H Q :=
  letI : Sy := sy0
  wpF_sound (A := ⟨[], []⟩) (Eq.mp (by kernel_rfl) h)
def VC_serve_putTold (w0b : Nat) (z0 z1 z2 z3 z4 z5 z6 z7 z8 z9 z10 z11 : Int) (z12 : Option Addr) (z13 z14 : Nat) (H : AH) (Q : Value → AH → Prop) : Prop :=
 ∀ (H1 : AH),
 H1 = H.new (.cells [.int .i64 z0, .int .i64 z1, .int .i64 z2, .int .i64 z3, .int .i64 z4, .int .i64 z5, .int .i64 z6, .int .i64 z7, .int .i64 z8, .int .i64 z9, .int .i64 z10, .int .i64 z11, .slice z12 z13 z14] 0) →
 ∃ (t6 : Int),
 H1.cell H.next 0 = some (.int .i64 t6) ∧
 FW Ee F_wire_Writer_Count [.pointer (some ⟨w0b, 0, none⟩), .int .i64 t6] H1 fun v H2 =>
 v = .tuple ⟨[]⟩ ∧
 ∃ (t10 : Int),
 H2.cell H.next 1 = some (.int .i64 t10) ∧
 FW Ee F_wire_Writer_Signed [.pointer (some ⟨w0b, 0, none⟩), .int .i64 t10] H2 fun v_1 H3 =>
 v_1 = .tuple ⟨[]⟩ ∧
 ∃ (t14 : Int),
 H3.cell H.next 2 = some (.int .i64 t14) ∧
 ∃ (t17 : Int),
 H3.cell H.next 3 = some (.int .i64 t17) ∧
 ∃ (t20 : Int),
 H3.cell H.next 4 = some (.int .i64 t20) ∧
 ∃ (t23 : Int),
 H3.cell H.next 5 = some (.int .i64 t23) ∧
 ∃ (t26 : Int),
 H3.cell H.next 6 = some (.int .i64 t26) ∧
 ∃ (t29 : Int),
 H3.cell H.next 7 = some (.int .i64 t29) ∧
 ∃ (t32 : Int),
 H3.cell H.next 8 = some (.int .i64 t32) ∧
 ∀ (H4 : AH),
 H4 = H3.new (.cells [.int .i64 t14, .int .i64 t17, .int .i64 t20, .int .i64 t23, .int .i64 t26, .int .i64 t29, .int .i64 t32] 0) →
 FW Ee F_serve_putCounts [.pointer (some ⟨w0b, 0, none⟩), .slice (some ⟨H3.next, 0, none⟩) 7 14] H4 fun v_2 H5 =>
 v_2 = .tuple ⟨[]⟩ ∧
 ∃ (z15 z16 z17 : Int) (z18 : Option Addr) (z19 z20 : Nat),
 H5.cell H.next (9 + 0) = some (.int .i64 z15) ∧
 H5.cell H.next (9 + 1) = some (.int .i64 z16) ∧
 H5.cell H.next (9 + 2) = some (.int .i64 z17) ∧
 H5.cell H.next (9 + 3) = some (.slice z18 z19 z20) ∧
 FW Ee F_run_Encode [.agg ⟨[.int .i64 z15, .int .i64 z16, .int .i64 z17, .slice z18 z19 z20]⟩] H5 fun v_3 H6 =>
 ∃ (r39 : List UInt8),
 v_3 = .string ⟨⟨r39⟩⟩ ∧
 FW Ee F_wire_Writer_Text [.pointer (some ⟨w0b, 0, none⟩), .string ⟨⟨r39⟩⟩] H6 fun v_4 H7 =>
 v_4 = .tuple ⟨[]⟩ ∧
 Q (.tuple ⟨[]⟩) H7
set_option maxRecDepth 100000 in
theorem fw_serve_putTold {w0b : Nat} {z0 z1 z2 z3 z4 z5 z6 z7 z8 z9 z10 z11 : Int} {z12 : Option Addr} {z13 z14 : Nat} {H : AH} {Q : Value → AH → Prop} (h : VC_serve_putTold w0b z0 z1 z2 z3 z4 z5 z6 z7 z8 z9 z10 z11 z12 z13 z14 H Q) : FW Ee F_serve_putTold [.pointer (some ⟨w0b, 0, none⟩), .agg ⟨[.int .i64 z0, .int .i64 z1, .int .i64 z2, .int .i64 z3, .int .i64 z4, .int .i64 z5, .int .i64 z6, .int .i64 z7, .int .i64 z8, .int .i64 z9, .int .i64 z10, .int .i64 z11, .slice z12 z13 z14]⟩] H Q :=
  letI : Sy := sy0
  wpF_sound (A := ⟨[], []⟩) (Eq.mp (by kernel_rfl) h)
def VC_serve_takeTold (r0b : Nat) (H : AH) (Q : Value → AH → Prop) : Prop :=
 ∀ (H1 : AH),
 H1 = H.new (.cells [.int .i64 0, .int .i64 0, .int .i64 0, .int .i64 0, .int .i64 0, .int .i64 0, .int .i64 0, .int .i64 0, .int .i64 0, .int .i64 0, .int .i64 0, .int .i64 0, .slice none 0 0] 0) →
 FW Ee F_wire_Reader_Count [.pointer (some ⟨r0b, 0, none⟩), .int .i64 3] H1 fun v H2 =>
 ∃ (r8 : Int),
 v = .int .i64 r8 ∧
 FW Ee F_wire_Reader_Signed [.pointer (some ⟨r0b, 0, none⟩)] H2 fun v_1 H3 =>
 ∃ (r10 : Int),
 v_1 = .int .i64 r10 ∧
 ∀ (H4 : AH),
 H4 = H3.new (.cells [.int .i64 0, .int .i64 0, .int .i64 0, .int .i64 0, .int .i64 0, .int .i64 0, .int .i64 0, .int .i64 0, .int .i64 0, .int .i64 0, .int .i64 0, .int .i64 0, .slice none 0 0] 0) →
 ∃ (H5 : AH),
 storeCellsv H4 H3.next 0 [.int .i64 r8, .int .i64 r10, .int .i64 0, .int .i64 0, .int .i64 0, .int .i64 0, .int .i64 0, .int .i64 0, .int .i64 0, .int .i64 0, .int .i64 0, .int .i64 0, .slice none 0 0] = some H5 ∧
 ∀ (H6 : AH),
 H6 = H5.new (.cells [.int .i64 0] 0) →
 ∀ (H7 : AH),
 H7 = H6.new (.cells [.pointer (some ⟨H3.next, 2, none⟩), .pointer (some ⟨H5.next, 0, none⟩), .pointer (some ⟨H3.next, 4, none⟩), .pointer (some ⟨H3.next, 5, none⟩), .pointer (some ⟨H3.next, 6, none⟩), .pointer (some ⟨H3.next, 7, none⟩), .pointer (some ⟨H3.next, 8, none⟩)] 0) →
 FW Ee F_serve_takeCounts [.pointer (some ⟨r0b, 0, none⟩), .slice (some ⟨H6.next, 0, none⟩) 7 14] H7 fun v_2 H8 =>
 v_2 = .tuple ⟨[]⟩ ∧
 ∃ (t26 : Int),
 H8.cell H5.next 0 = some (.int .i64 t26) ∧
 ∃ (H9 : AH),
 storeCellsv H8 H3.next 3 [.int .i64 t26] = some H9 ∧
 FW Ee F_wire_Reader_Text [.pointer (some ⟨r0b, 0, none⟩)] H9 fun v_3 H10 =>
 ∃ (r31 : List UInt8),
 v_3 = .string ⟨⟨r31⟩⟩ ∧
 FW Ee F_run_Decode [.string ⟨⟨r31⟩⟩] H10 fun v_4 H11 =>
 ∃ (z0 z1 z2 : Int) (z3 : Option Addr) (z4 z5 : Nat) (z6 : Int),
 v_4 = .tuple ⟨[.agg ⟨[.int .i64 z0, .int .i64 z1, .int .i64 z2, .slice z3 z4 z5]⟩, .int .i64 z6]⟩ ∧
 ∀ (H12 : AH),
 H12 = H11.new (.cells [.int .i64 0, .int .i64 0, .int .i64 0, .slice none 0 0] 0) →
 ∃ (H13 : AH),
 storeCellsv H12 H11.next 0 [.int .i64 z0, .int .i64 z1, .int .i64 z2, .slice z3 z4 z5] = some H13 ∧
 FW Ee F_wire_Reader_Err [.pointer (some ⟨r0b, 0, none⟩)] H13 fun v_5 H14 =>
 ∃ (r36 : Int),
 v_5 = .int .i64 r36 ∧
 cond (r36 == 0) (
 FW Ee F_wire_Reader_Fail [.pointer (some ⟨r0b, 0, none⟩), .int .i64 z6] H14 fun v_6 H15 =>
 v_6 = .tuple ⟨[]⟩ ∧
 ∃ (z7 z8 z9 : Int) (z10 : Option Addr) (z11 z12 : Nat),
 H15.cell H11.next (0 + 0) = some (.int .i64 z7) ∧
 H15.cell H11.next (0 + 1) = some (.int .i64 z8) ∧
 H15.cell H11.next (0 + 2) = some (.int .i64 z9) ∧
 H15.cell H11.next (0 + 3) = some (.slice z10 z11 z12) ∧
 ∃ (H16 : AH),
 storeCellsv H15 H3.next 9 [.int .i64 z7, .int .i64 z8, .int .i64 z9, .slice z10 z11 z12] = some H16 ∧
 ∃ (z13 z14 z15 z16 z17 z18 z19 z20 z21 z22 z23 z24 : Int) (z25 : Option Addr) (z26 z27 : Nat),
 H16.cell H3.next (0 + 0) = some (.int .i64 z13) ∧
 H16.cell H3.next (0 + 1) = some (.int .i64 z14) ∧
 H16.cell H3.next (0 + 2) = some (.int .i64 z15) ∧
 H16.cell H3.next (0 + 3) = some (.int .i64 z16) ∧
 H16.cell H3.next (0 + 4) = some (.int .i64 z17) ∧
 H16.cell H3.next (0 + 5) = some (.int .i64 z18) ∧
 H16.cell H3.next (0 + 6) = some (.int .i64 z19) ∧
 H16.cell H3.next (0 + 7) = some (.int .i64 z20) ∧
 H16.cell H3.next (0 + 8) = some (.int .i64 z21) ∧
 H16.cell H3.next (0 + 9) = some (.int .i64 z22) ∧
 H16.cell H3.next (0 + 10) = some (.int .i64 z23) ∧
 H16.cell H3.next (0 + 11) = some (.int .i64 z24) ∧
 H16.cell H3.next (0 + 12) = some (.slice z25 z26 z27) ∧
 ∃ (H17 : AH),
 storeCellsv H16 H.next 0 [.int .i64 z13, .int .i64 z14, .int .i64 z15, .int .i64 z16, .int .i64 z17, .int .i64 z18, .int .i64 z19, .int .i64 z20, .int .i64 z21, .int .i64 z22, .int .i64 z23, .int .i64 z24, .slice z25 z26 z27] = some H17 ∧
 ∃ (z28 z29 z30 z31 z32 z33 z34 z35 z36 z37 z38 z39 : Int) (z40 : Option Addr) (z41 z42 : Nat),
 H17.cell H.next (0 + 0) = some (.int .i64 z28) ∧
 H17.cell H.next (0 + 1) = some (.int .i64 z29) ∧
 H17.cell H.next (0 + 2) = some (.int .i64 z30) ∧
 H17.cell H.next (0 + 3) = some (.int .i64 z31) ∧
 H17.cell H.next (0 + 4) = some (.int .i64 z32) ∧
 H17.cell H.next (0 + 5) = some (.int .i64 z33) ∧
 H17.cell H.next (0 + 6) = some (.int .i64 z34) ∧
 H17.cell H.next (0 + 7) = some (.int .i64 z35) ∧
 H17.cell H.next (0 + 8) = some (.int .i64 z36) ∧
 H17.cell H.next (0 + 9) = some (.int .i64 z37) ∧
 H17.cell H.next (0 + 10) = some (.int .i64 z38) ∧
 H17.cell H.next (0 + 11) = some (.int .i64 z39) ∧
 H17.cell H.next (0 + 12) = some (.slice z40 z41 z42) ∧
 Q (.agg ⟨[.int .i64 z28, .int .i64 z29, .int .i64 z30, .int .i64 z31, .int .i64 z32, .int .i64 z33, .int .i64 z34, .int .i64 z35, .int .i64 z36, .int .i64 z37, .int .i64 z38, .int .i64 z39, .slice z40 z41 z42]⟩) H17) (
 ∃ (z43 z44 z45 : Int) (z46 : Option Addr) (z47 z48 : Nat),
 H14.cell H11.next (0 + 0) = some (.int .i64 z43) ∧
 H14.cell H11.next (0 + 1) = some (.int .i64 z44) ∧
 H14.cell H11.next (0 + 2) = some (.int .i64 z45) ∧
 H14.cell H11.next (0 + 3) = some (.slice z46 z47 z48) ∧
 ∃ (H18 : AH),
 storeCellsv H14 H3.next 9 [.int .i64 z43, .int .i64 z44, .int .i64 z45, .slice z46 z47 z48] = some H18 ∧
 ∃ (z49 z50 z51 z52 z53 z54 z55 z56 z57 z58 z59 z60 : Int) (z61 : Option Addr) (z62 z63 : Nat),
 H18.cell H3.next (0 + 0) = some (.int .i64 z49) ∧
 H18.cell H3.next (0 + 1) = some (.int .i64 z50) ∧
 H18.cell H3.next (0 + 2) = some (.int .i64 z51) ∧
 H18.cell H3.next (0 + 3) = some (.int .i64 z52) ∧
 H18.cell H3.next (0 + 4) = some (.int .i64 z53) ∧
 H18.cell H3.next (0 + 5) = some (.int .i64 z54) ∧
 H18.cell H3.next (0 + 6) = some (.int .i64 z55) ∧
 H18.cell H3.next (0 + 7) = some (.int .i64 z56) ∧
 H18.cell H3.next (0 + 8) = some (.int .i64 z57) ∧
 H18.cell H3.next (0 + 9) = some (.int .i64 z58) ∧
 H18.cell H3.next (0 + 10) = some (.int .i64 z59) ∧
 H18.cell H3.next (0 + 11) = some (.int .i64 z60) ∧
 H18.cell H3.next (0 + 12) = some (.slice z61 z62 z63) ∧
 ∃ (H19 : AH),
 storeCellsv H18 H.next 0 [.int .i64 z49, .int .i64 z50, .int .i64 z51, .int .i64 z52, .int .i64 z53, .int .i64 z54, .int .i64 z55, .int .i64 z56, .int .i64 z57, .int .i64 z58, .int .i64 z59, .int .i64 z60, .slice z61 z62 z63] = some H19 ∧
 ∃ (z64 z65 z66 z67 z68 z69 z70 z71 z72 z73 z74 z75 : Int) (z76 : Option Addr) (z77 z78 : Nat),
 H19.cell H.next (0 + 0) = some (.int .i64 z64) ∧
 H19.cell H.next (0 + 1) = some (.int .i64 z65) ∧
 H19.cell H.next (0 + 2) = some (.int .i64 z66) ∧
 H19.cell H.next (0 + 3) = some (.int .i64 z67) ∧
 H19.cell H.next (0 + 4) = some (.int .i64 z68) ∧
 H19.cell H.next (0 + 5) = some (.int .i64 z69) ∧
 H19.cell H.next (0 + 6) = some (.int .i64 z70) ∧
 H19.cell H.next (0 + 7) = some (.int .i64 z71) ∧
 H19.cell H.next (0 + 8) = some (.int .i64 z72) ∧
 H19.cell H.next (0 + 9) = some (.int .i64 z73) ∧
 H19.cell H.next (0 + 10) = some (.int .i64 z74) ∧
 H19.cell H.next (0 + 11) = some (.int .i64 z75) ∧
 H19.cell H.next (0 + 12) = some (.slice z76 z77 z78) ∧
 Q (.agg ⟨[.int .i64 z64, .int .i64 z65, .int .i64 z66, .int .i64 z67, .int .i64 z68, .int .i64 z69, .int .i64 z70, .int .i64 z71, .int .i64 z72, .int .i64 z73, .int .i64 z74, .int .i64 z75, .slice z76 z77 z78]⟩) H19)
set_option maxRecDepth 100000 in
theorem fw_serve_takeTold {r0b : Nat} {H : AH} {Q : Value → AH → Prop} (h : VC_serve_takeTold r0b H Q) : FW Ee F_serve_takeTold [.pointer (some ⟨r0b, 0, none⟩)] H Q :=
  letI : Sy := sy0
  wpF_sound (A := ⟨[], []⟩) (Eq.mp (by kernel_rfl) h)
def VC_serve_Encode (z0 z1 z2 z3 z4 z5 z6 z7 z8 z9 : Int) (z10 : List UInt8) (z11 : Option Addr) (z12 z13 : Nat) (z14 z15 : Int) (z16 : Bool) (z17 z18 z19 z20 z21 z22 z23 z24 z25 : Int) (z26 z27 z28 z29 z30 : Bool) (z31 z32 z33 z34 z35 : Int) (z36 : Option Addr) (z37 z38 : Nat) (z39 z40 z41 z42 : Int) (z43 : Option Addr) (z44 z45 : Nat) (z46 : Option Addr) (z47 z48 : Nat) (z49 : List UInt8) (z50 : Option Addr) (z51 z52 : Nat) (z53 : Option Addr) (z54 z55 : Nat) (z56 z57 z58 : Int) (z59 z60 z61 z62 z63 : Bool) (z64 z65 z66 z67 z68 z69 z70 z71 : Int) (z72 : Bool) (z73 z74 z75 z76 : Int) (z77 : List UInt8) (z78 z79 z80 z81 z82 z83 z84 z85 z86 z87 z88 z89 z90 : Int) (z91 : Option Addr) (z92 z93 : Nat) (z94 z95 z96 z97 : Int) (z98 : Option Addr) (z99 z100 : Nat) (z101 : Option Addr) (z102 z103 : Nat) (H : AH) (Q : Value → AH → Prop) : Prop :=
 ∀ (H1 : AH),
 H1 = H.new (.cells [.int .i64 z0, .int .i64 z1, .int .i64 z2, .int .i64 z3, .int .i64 z4, .int .i64 z5, .int .i64 z6, .int .i64 z7, .int .i64 z8, .int .i64 z9, .string ⟨⟨z10⟩⟩, .slice z11 z12 z13, .int .i64 z14, .int .i64 z15, .bool z16, .int .i64 z17, .int .i64 z18, .int .i64 z19, .int .i64 z20, .int .i64 z21, .int .i64 z22, .int .i64 z23, .int .i64 z24, .int .i64 z25, .bool z26, .bool z27, .bool z28, .bool z29, .bool z30, .int .i64 z31, .int .i64 z32, .int .i64 z33, .int .i64 z34, .int .i64 z35, .slice z36 z37 z38, .int .i64 z39, .int .i64 z40, .int .i64 z41, .int .i64 z42, .slice z43 z44 z45, .slice z46 z47 z48, .string ⟨⟨z49⟩⟩, .slice z50 z51 z52, .slice z53 z54 z55, .int .i64 z56, .int .i64 z57, .int .i64 z58, .bool z59, .bool z60, .bool z61, .bool z62, .bool z63, .int .i64 z64, .int .i64 z65, .int .i64 z66, .int .i64 z67, .int .i64 z68, .int .i64 z69, .int .i64 z70, .int .i64 z71, .bool z72, .int .i64 z73, .int .i64 z74, .int .i64 z75, .int .i64 z76, .string ⟨⟨z77⟩⟩, .int .i64 z78, .int .i64 z79, .int .i64 z80, .int .i64 z81, .int .i64 z82, .int .i64 z83, .int .i64 z84, .int .i64 z85, .int .i64 z86, .int .i64 z87, .int .i64 z88, .int .i64 z89, .int .i64 z90, .slice z91 z92 z93, .int .i64 z94, .int .i64 z95, .int .i64 z96, .int .i64 z97, .slice z98 z99 z100, .slice z101 z102 z103] 0) →
 FW Ee F_wire_NewWriter [] H1 fun v H2 =>
 ∃ (r4 : Option Addr),
 v = .pointer r4 ∧
 ∃ (t7 : Int),
 H2.cell H.next 0 = some (.int .i64 t7) ∧
 FW Ee F_wire_Writer_Count [.pointer r4, .int .i64 t7] H2 fun v_1 H3 =>
 v_1 = .tuple ⟨[]⟩ ∧
 ∃ (t10 : Int),
 H3.cell H.next 0 = some (.int .i64 t10) ∧
 ∃ (J_1 : AH → Prop),
 (
 cond (t10 == 1) (
 ∃ (z104 z105 z106 z107 z108 z109 z110 z111 z112 : Int) (z113 : List UInt8) (z114 : Option Addr) (z115 z116 : Nat),
 H3.cell H.next (1 + 0) = some (.int .i64 z104) ∧
 H3.cell H.next (1 + 1) = some (.int .i64 z105) ∧
 H3.cell H.next (1 + 2) = some (.int .i64 z106) ∧
 H3.cell H.next (1 + 3) = some (.int .i64 z107) ∧
 H3.cell H.next (1 + 4) = some (.int .i64 z108) ∧
 H3.cell H.next (1 + 5) = some (.int .i64 z109) ∧
 H3.cell H.next (1 + 6) = some (.int .i64 z110) ∧
 H3.cell H.next (1 + 7) = some (.int .i64 z111) ∧
 H3.cell H.next (1 + 8) = some (.int .i64 z112) ∧
 H3.cell H.next (1 + 9) = some (.string ⟨⟨z113⟩⟩) ∧
 H3.cell H.next (1 + 10) = some (.slice z114 z115 z116) ∧
 FW Ee F_view_Put [.pointer r4, .agg ⟨[.int .i64 z104, .int .i64 z105, .int .i64 z106, .int .i64 z107, .int .i64 z108, .int .i64 z109, .int .i64 z110, .int .i64 z111, .int .i64 z112, .string ⟨⟨z113⟩⟩, .slice z114 z115 z116]⟩] H3 fun v_2 H4 =>
 v_2 = .tuple ⟨[]⟩ ∧
 J_1 H4) (
 cond (t10 == 2) (
 ∃ (t21 : Int),
 H3.cell H.next 12 = some (.int .i64 t21) ∧
 ∃ (t23 : Int),
 H3.cell H.next 13 = some (.int .i64 t23) ∧
 ∀ (H5 : AH),
 H5 = H3.new (.cells [.int .i64 t21, .int .i64 t23] 0) →
 FW Ee F_serve_putCounts [.pointer r4, .slice (some ⟨H3.next, 0, none⟩) 2 4] H5 fun v_3 H6 =>
 v_3 = .tuple ⟨[]⟩ ∧
 ∃ (t28 : Bool),
 H6.cell H.next 14 = some (.bool t28) ∧
 FW Ee F_wire_Writer_Bool [.pointer r4, .bool t28] H6 fun v_4 H7 =>
 v_4 = .tuple ⟨[]⟩ ∧
 ∃ (t31 : Bool),
 H7.cell H.next 14 = some (.bool t31) ∧
 cond (t31) (
 ∃ (z117 z118 z119 z120 z121 z122 z123 z124 z125 : Int) (z126 z127 z128 z129 z130 : Bool) (z131 z132 z133 z134 z135 : Int) (z136 : Option Addr) (z137 z138 : Nat),
 H7.cell H.next (15 + 0) = some (.int .i64 z117) ∧
 H7.cell H.next (15 + 1) = some (.int .i64 z118) ∧
 H7.cell H.next (15 + 2) = some (.int .i64 z119) ∧
 H7.cell H.next (15 + 3) = some (.int .i64 z120) ∧
 H7.cell H.next (15 + 4) = some (.int .i64 z121) ∧
 H7.cell H.next (15 + 5) = some (.int .i64 z122) ∧
 H7.cell H.next (15 + 6) = some (.int .i64 z123) ∧
 H7.cell H.next (15 + 7) = some (.int .i64 z124) ∧
 H7.cell H.next (15 + 8) = some (.int .i64 z125) ∧
 H7.cell H.next (15 + 9) = some (.bool z126) ∧
 H7.cell H.next (15 + 10) = some (.bool z127) ∧
 H7.cell H.next (15 + 11) = some (.bool z128) ∧
 H7.cell H.next (15 + 12) = some (.bool z129) ∧
 H7.cell H.next (15 + 13) = some (.bool z130) ∧
 H7.cell H.next (15 + 14) = some (.int .i64 z131) ∧
 H7.cell H.next (15 + 15) = some (.int .i64 z132) ∧
 H7.cell H.next (15 + 16) = some (.int .i64 z133) ∧
 H7.cell H.next (15 + 17) = some (.int .i64 z134) ∧
 H7.cell H.next (15 + 18) = some (.int .i64 z135) ∧
 H7.cell H.next (15 + 19) = some (.slice z136 z137 z138) ∧
 FW Ee F_master_PutReport [.pointer r4, .agg ⟨[.int .i64 z117, .int .i64 z118, .int .i64 z119, .int .i64 z120, .int .i64 z121, .int .i64 z122, .int .i64 z123, .int .i64 z124, .int .i64 z125, .bool z126, .bool z127, .bool z128, .bool z129, .bool z130, .int .i64 z131, .int .i64 z132, .int .i64 z133, .int .i64 z134, .int .i64 z135, .slice z136 z137 z138]⟩] H7 fun v_5 H8 =>
 v_5 = .tuple ⟨[]⟩ ∧
 J_1 H8) (
 J_1 H7)) (
 cond (t10 == 3) (
 ∃ (t40 : Bool),
 H3.cell H.next 14 = some (.bool t40) ∧
 FW Ee F_wire_Writer_Bool [.pointer r4, .bool t40] H3 fun v_6 H9 =>
 v_6 = .tuple ⟨[]⟩ ∧
 ∃ (t43 : Bool),
 H9.cell H.next 14 = some (.bool t43) ∧
 cond (t43) (
 ∃ (z139 z140 z141 z142 : Int) (z143 : Option Addr) (z144 z145 : Nat) (z146 : Option Addr) (z147 z148 : Nat) (z149 : List UInt8) (z150 : Option Addr) (z151 z152 : Nat) (z153 : Option Addr) (z154 z155 : Nat) (z156 z157 z158 : Int) (z159 z160 z161 z162 z163 : Bool) (z164 z165 z166 z167 z168 z169 z170 z171 : Int) (z172 : Bool),
 H9.cell H.next (35 + 0) = some (.int .i64 z139) ∧
 H9.cell H.next (35 + 1) = some (.int .i64 z140) ∧
 H9.cell H.next (35 + 2) = some (.int .i64 z141) ∧
 H9.cell H.next (35 + 3) = some (.int .i64 z142) ∧
 H9.cell H.next (35 + 4) = some (.slice z143 z144 z145) ∧
 H9.cell H.next (35 + 5) = some (.slice z146 z147 z148) ∧
 H9.cell H.next (35 + 6) = some (.string ⟨⟨z149⟩⟩) ∧
 H9.cell H.next (35 + 7) = some (.slice z150 z151 z152) ∧
 H9.cell H.next (35 + 8) = some (.slice z153 z154 z155) ∧
 H9.cell H.next (35 + 9) = some (.int .i64 z156) ∧
 H9.cell H.next (35 + 10) = some (.int .i64 z157) ∧
 H9.cell H.next (35 + 11) = some (.int .i64 z158) ∧
 H9.cell H.next (35 + 12) = some (.bool z159) ∧
 H9.cell H.next (35 + 13) = some (.bool z160) ∧
 H9.cell H.next (35 + 14) = some (.bool z161) ∧
 H9.cell H.next (35 + 15) = some (.bool z162) ∧
 H9.cell H.next (35 + 16) = some (.bool z163) ∧
 H9.cell H.next (35 + 17) = some (.int .i64 z164) ∧
 H9.cell H.next (35 + 18) = some (.int .i64 z165) ∧
 H9.cell H.next (35 + 19) = some (.int .i64 z166) ∧
 H9.cell H.next (35 + 20) = some (.int .i64 z167) ∧
 H9.cell H.next (35 + 21) = some (.int .i64 z168) ∧
 H9.cell H.next (35 + 22) = some (.int .i64 z169) ∧
 H9.cell H.next (35 + 23) = some (.int .i64 z170) ∧
 H9.cell H.next (35 + 24) = some (.int .i64 z171) ∧
 H9.cell H.next (35 + 25) = some (.bool z172) ∧
 FW Ee F_master_PutTask [.pointer r4, .agg ⟨[.int .i64 z139, .int .i64 z140, .int .i64 z141, .int .i64 z142, .slice z143 z144 z145, .slice z146 z147 z148, .string ⟨⟨z149⟩⟩, .slice z150 z151 z152, .slice z153 z154 z155, .int .i64 z156, .int .i64 z157, .int .i64 z158, .bool z159, .bool z160, .bool z161, .bool z162, .bool z163, .int .i64 z164, .int .i64 z165, .int .i64 z166, .int .i64 z167, .int .i64 z168, .int .i64 z169, .int .i64 z170, .int .i64 z171, .bool z172]⟩] H9 fun v_7 H10 =>
 v_7 = .tuple ⟨[]⟩ ∧
 J_1 H10) (
 J_1 H9)) (
 cond (t10 == 4) (
 ∃ (t52 : Int),
 H3.cell H.next 61 = some (.int .i64 t52) ∧
 FW Ee F_wire_Writer_Signed [.pointer r4, .int .i64 t52] H3 fun v_8 H11 =>
 v_8 = .tuple ⟨[]⟩ ∧
 J_1 H11) (
 cond (t10 == 5) (
 ∃ (z173 z174 z175 : Int) (z176 : List UInt8) (z177 : Int),
 H3.cell H.next (62 + 0) = some (.int .i64 z173) ∧
 H3.cell H.next (62 + 1) = some (.int .i64 z174) ∧
 H3.cell H.next (62 + 2) = some (.int .i64 z175) ∧
 H3.cell H.next (62 + 3) = some (.string ⟨⟨z176⟩⟩) ∧
 H3.cell H.next (62 + 4) = some (.int .i64 z177) ∧
 FW Ee F_serve_putAsk [.pointer r4, .agg ⟨[.int .i64 z173, .int .i64 z174, .int .i64 z175, .string ⟨⟨z176⟩⟩, .int .i64 z177]⟩] H3 fun v_9 H12 =>
 v_9 = .tuple ⟨[]⟩ ∧
 J_1 H12) (
 cond (t10 == 6) (
 ∃ (z178 z179 z180 z181 z182 z183 z184 z185 z186 z187 z188 z189 : Int) (z190 : Option Addr) (z191 z192 : Nat),
 H3.cell H.next (67 + 0) = some (.int .i64 z178) ∧
 H3.cell H.next (67 + 1) = some (.int .i64 z179) ∧
 H3.cell H.next (67 + 2) = some (.int .i64 z180) ∧
 H3.cell H.next (67 + 3) = some (.int .i64 z181) ∧
 H3.cell H.next (67 + 4) = some (.int .i64 z182) ∧
 H3.cell H.next (67 + 5) = some (.int .i64 z183) ∧
 H3.cell H.next (67 + 6) = some (.int .i64 z184) ∧
 H3.cell H.next (67 + 7) = some (.int .i64 z185) ∧
 H3.cell H.next (67 + 8) = some (.int .i64 z186) ∧
 H3.cell H.next (67 + 9) = some (.int .i64 z187) ∧
 H3.cell H.next (67 + 10) = some (.int .i64 z188) ∧
 H3.cell H.next (67 + 11) = some (.int .i64 z189) ∧
 H3.cell H.next (67 + 12) = some (.slice z190 z191 z192) ∧
 FW Ee F_serve_putTold [.pointer r4, .agg ⟨[.int .i64 z178, .int .i64 z179, .int .i64 z180, .int .i64 z181, .int .i64 z182, .int .i64 z183, .int .i64 z184, .int .i64 z185, .int .i64 z186, .int .i64 z187, .int .i64 z188, .int .i64 z189, .slice z190 z191 z192]⟩] H3 fun v_10 H13 =>
 v_10 = .tuple ⟨[]⟩ ∧
 J_1 H13) (
 cond (t10 == 7) (
 ∃ (t72 : Int),
 H3.cell H.next 80 = some (.int .i64 t72) ∧
 ∃ (t75 : Int),
 H3.cell H.next 81 = some (.int .i64 t75) ∧
 ∃ (t78 : Int),
 H3.cell H.next 82 = some (.int .i64 t78) ∧
 ∃ (t81 : Int),
 H3.cell H.next 83 = some (.int .i64 t81) ∧
 ∀ (H14 : AH),
 H14 = H3.new (.cells [.int .i64 t72, .int .i64 t75, .int .i64 t78, .int .i64 t81] 0) →
 FW Ee F_serve_putCounts [.pointer r4, .slice (some ⟨H3.next, 0, none⟩) 4 8] H14 fun v_11 H15 =>
 v_11 = .tuple ⟨[]⟩ ∧
 ∃ (t87a : Option Addr) (t87l t87c : Nat),
 H15.cell H.next 84 = some (.slice t87a t87l t87c) ∧
 FW Ee F_comb_PutMessages [.pointer r4, .slice t87a t87l t87c] H15 fun v_12 H16 =>
 v_12 = .tuple ⟨[]⟩ ∧
 ∃ (t92a : Option Addr) (t92l t92c : Nat),
 H16.cell H.next 85 = some (.slice t92a t92l t92c) ∧
 FW Ee F_mut_Put [.pointer r4, .slice t92a t92l t92c] H16 fun v_13 H17 =>
 v_13 = .tuple ⟨[]⟩ ∧
 J_1 H17) (
 cond (t10 == 8) (
 ∃ (z193 : Int),
 H3.cell H.next 80 = some (.int .i64 z193) ∧
 ∃ (z194 : Int),
 H3.cell H.next 81 = some (.int .i64 z194) ∧
 ∃ (z195 : Int),
 H3.cell H.next 82 = some (.int .i64 z195) ∧
 ∃ (z196 : Int),
 H3.cell H.next 83 = some (.int .i64 z196) ∧
 ∀ (H18 : AH),
 H18 = H3.new (.cells [.int .i64 z193, .int .i64 z194, .int .i64 z195, .int .i64 z196] 0) →
 FW Ee F_serve_putCounts [.pointer r4, .slice (some ⟨H3.next, 0, none⟩) 4 8] H18 fun v_14 H19 =>
 v_14 = .tuple ⟨[]⟩ ∧
 ∃ (t87a_1 : Option Addr) (t87l_1 t87c_1 : Nat),
 H19.cell H.next 84 = some (.slice t87a_1 t87l_1 t87c_1) ∧
 FW Ee F_comb_PutMessages [.pointer r4, .slice t87a_1 t87l_1 t87c_1] H19 fun v_15 H20 =>
 v_15 = .tuple ⟨[]⟩ ∧
 ∃ (t92a_1 : Option Addr) (t92l_1 t92c_1 : Nat),
 H20.cell H.next 85 = some (.slice t92a_1 t92l_1 t92c_1) ∧
 FW Ee F_mut_Put [.pointer r4, .slice t92a_1 t92l_1 t92c_1] H20 fun v_16 H21 =>
 v_16 = .tuple ⟨[]⟩ ∧
 J_1 H21) (
 J_1 H3))))))))) ∧
 ∀ (H22 : AH),
 J_1 H22 →
 FW Ee F_wire_Writer_All [.pointer r4] H22 fun v_17 H23 =>
 ∃ (r95 : List UInt8),
 v_17 = .string ⟨⟨r95⟩⟩ ∧
 Q (.string ⟨⟨r95⟩⟩) H23
set_option maxRecDepth 100000 in
theorem fw_serve_Encode {z0 z1 z2 z3 z4 z5 z6 z7 z8 z9 : Int} {z10 : List UInt8} {z11 : Option Addr} {z12 z13 : Nat} {z14 z15 : Int} {z16 : Bool} {z17 z18 z19 z20 z21 z22 z23 z24 z25 : Int} {z26 z27 z28 z29 z30 : Bool} {z31 z32 z33 z34 z35 : Int} {z36 : Option Addr} {z37 z38 : Nat} {z39 z40 z41 z42 : Int} {z43 : Option Addr} {z44 z45 : Nat} {z46 : Option Addr} {z47 z48 : Nat} {z49 : List UInt8} {z50 : Option Addr} {z51 z52 : Nat} {z53 : Option Addr} {z54 z55 : Nat} {z56 z57 z58 : Int} {z59 z60 z61 z62 z63 : Bool} {z64 z65 z66 z67 z68 z69 z70 z71 : Int} {z72 : Bool} {z73 z74 z75 z76 : Int} {z77 : List UInt8} {z78 z79 z80 z81 z82 z83 z84 z85 z86 z87 z88 z89 z90 : Int} {z91 : Option Addr} {z92 z93 : Nat} {z94 z95 z96 z97 : Int} {z98 : Option Addr} {z99 z100 : Nat} {z101 : Option Addr} {z102 z103 : Nat} {H : AH} {Q : Value → AH → Prop} (h : VC_serve_Encode z0 z1 z2 z3 z4 z5 z6 z7 z8 z9 z10 z11 z12 z13 z14 z15 z16 z17 z18 z19 z20 z21 z22 z23 z24 z25 z26 z27 z28 z29 z30 z31 z32 z33 z34 z35 z36 z37 z38 z39 z40 z41 z42 z43 z44 z45 z46 z47 z48 z49 z50 z51 z52 z53 z54 z55 z56 z57 z58 z59 z60 z61 z62 z63 z64 z65 z66 z67 z68 z69 z70 z71 z72 z73 z74 z75 z76 z77 z78 z79 z80 z81 z82 z83 z84 z85 z86 z87 z88 z89 z90 z91 z92 z93 z94 z95 z96 z97 z98 z99 z100 z101 z102 z103 H Q) : FW Ee F_serve_Encode [.agg ⟨[.int .i64 z0, .int .i64 z1, .int .i64 z2, .int .i64 z3, .int .i64 z4, .int .i64 z5, .int .i64 z6, .int .i64 z7, .int .i64 z8, .int .i64 z9, .string ⟨⟨z10⟩⟩, .slice z11 z12 z13, .int .i64 z14, .int .i64 z15, .bool z16, .int .i64 z17, .int .i64 z18, .int .i64 z19, .int .i64 z20, .int .i64 z21, .int .i64 z22, .int .i64 z23, .int .i64 z24, .int .i64 z25, .bool z26, .bool z27, .bool z28, .bool z29, .bool z30, .int .i64 z31, .int .i64 z32, .int .i64 z33, .int .i64 z34, .int .i64 z35, .slice z36 z37 z38, .int .i64 z39, .int .i64 z40, .int .i64 z41, .int .i64 z42, .slice z43 z44 z45, .slice z46 z47 z48, .string ⟨⟨z49⟩⟩, .slice z50 z51 z52, .slice z53 z54 z55, .int .i64 z56, .int .i64 z57, .int .i64 z58, .bool z59, .bool z60, .bool z61, .bool z62, .bool z63, .int .i64 z64, .int .i64 z65, .int .i64 z66, .int .i64 z67, .int .i64 z68, .int .i64 z69, .int .i64 z70, .int .i64 z71, .bool z72, .int .i64 z73, .int .i64 z74, .int .i64 z75, .int .i64 z76, .string ⟨⟨z77⟩⟩, .int .i64 z78, .int .i64 z79, .int .i64 z80, .int .i64 z81, .int .i64 z82, .int .i64 z83, .int .i64 z84, .int .i64 z85, .int .i64 z86, .int .i64 z87, .int .i64 z88, .int .i64 z89, .int .i64 z90, .slice z91 z92 z93, .int .i64 z94, .int .i64 z95, .int .i64 z96, .int .i64 z97, .slice z98 z99 z100, .slice z101 z102 z103]⟩] H Q :=
  letI : Sy := sy0
  wpF_sound (A := ⟨[0], []⟩) (Eq.mp (by kernel_rfl) h)
def VC_serve_Decode (s0 : List UInt8) (H : AH) (Q : Value → AH → Prop) : Prop :=
 ∀ (H1 : AH),
 H1 = H.new (.cells [.int .i64 0, .int .i64 0, .int .i64 0, .int .i64 0, .int .i64 0, .int .i64 0, .int .i64 0, .int .i64 0, .int .i64 0, .int .i64 0, .string ⟨⟨[]⟩⟩, .slice none 0 0, .int .i64 0, .int .i64 0, .bool false, .int .i64 0, .int .i64 0, .int .i64 0, .int .i64 0, .int .i64 0, .int .i64 0, .int .i64 0, .int .i64 0, .int .i64 0, .bool false, .bool false, .bool false, .bool false, .bool false, .int .i64 0, .int .i64 0, .int .i64 0, .int .i64 0, .int .i64 0, .slice none 0 0, .int .i64 0, .int .i64 0, .int .i64 0, .int .i64 0, .slice none 0 0, .slice none 0 0, .string ⟨⟨[]⟩⟩, .slice none 0 0, .slice none 0 0, .int .i64 0, .int .i64 0, .int .i64 0, .bool false, .bool false, .bool false, .bool false, .bool false, .int .i64 0, .int .i64 0, .int .i64 0, .int .i64 0, .int .i64 0, .int .i64 0, .int .i64 0, .int .i64 0, .bool false, .int .i64 0, .int .i64 0, .int .i64 0, .int .i64 0, .string ⟨⟨[]⟩⟩, .int .i64 0, .int .i64 0, .int .i64 0, .int .i64 0, .int .i64 0, .int .i64 0, .int .i64 0, .int .i64 0, .int .i64 0, .int .i64 0, .int .i64 0, .int .i64 0, .int .i64 0, .slice none 0 0, .int .i64 0, .int .i64 0, .int .i64 0, .int .i64 0, .slice none 0 0, .slice none 0 0] 0) →
 FW Ee F_wire_NewReader [.string ⟨⟨s0⟩⟩] H1 fun v H2 =>
 ∃ (r9 : Option Addr),
 v = .pointer r9 ∧
 FW Ee F_wire_Reader_Count [.pointer r9, .int .i64 8] H2 fun v_1 H3 =>
 ∃ (r11 : Int),
 v_1 = .int .i64 r11 ∧
 ∀ (H4 : AH),
 H4 = H3.new (.cells [.int .i64 0, .int .i64 0, .int .i64 0, .int .i64 0, .int .i64 0, .int .i64 0, .int .i64 0, .int .i64 0, .int .i64 0, .int .i64 0, .string ⟨⟨[]⟩⟩, .slice none 0 0, .int .i64 0, .int .i64 0, .bool false, .int .i64 0, .int .i64 0, .int .i64 0, .int .i64 0, .int .i64 0, .int .i64 0, .int .i64 0, .int .i64 0, .int .i64 0, .bool false, .bool false, .bool false, .bool false, .bool false, .int .i64 0, .int .i64 0, .int .i64 0, .int .i64 0, .int .i64 0, .slice none 0 0, .int .i64 0, .int .i64 0, .int .i64 0, .int .i64 0, .slice none 0 0, .slice none 0 0, .string ⟨⟨[]⟩⟩, .slice none 0 0, .slice none 0 0, .int .i64 0, .int .i64 0, .int .i64 0, .bool false, .bool false, .bool false, .bool false, .bool false, .int .i64 0, .int .i64 0, .int .i64 0, .int .i64 0, .int .i64 0, .int .i64 0, .int .i64 0, .int .i64 0, .bool false, .int .i64 0, .int .i64 0, .int .i64 0, .int .i64 0, .string ⟨⟨[]⟩⟩, .int .i64 0, .int .i64 0, .int .i64 0, .int .i64 0, .int .i64 0, .int .i64 0, .int .i64 0, .int .i64 0, .int .i64 0, .int .i64 0, .int .i64 0, .int .i64 0, .int .i64 0, .slice none 0 0, .int .i64 0, .int .i64 0, .int .i64 0, .int .i64 0, .slice none 0 0, .slice none 0 0] 0) →
 ∃ (H5 : AH),
 storeCellsv H4 H3.next 0 [.int .i64 r11, .int .i64 0, .int .i64 0, .int .i64 0, .int .i64 0, .int .i64 0, .int .i64 0, .int .i64 0, .int .i64 0, .int .i64 0, .string ⟨⟨[]⟩⟩, .slice none 0 0, .int .i64 0, .int .i64 0, .bool false, .int .i64 0, .int .i64 0, .int .i64 0, .int .i64 0, .int .i64 0, .int .i64 0, .int .i64 0, .int .i64 0, .int .i64 0, .bool false, .bool false, .bool false, .bool false, .bool false, .int .i64 0, .int .i64 0, .int .i64 0, .int .i64 0, .int .i64 0, .slice none 0 0, .int .i64 0, .int .i64 0, .int .i64 0, .int .i64 0, .slice none 0 0, .slice none 0 0, .string ⟨⟨[]⟩⟩, .slice none 0 0, .slice none 0 0, .int .i64 0, .int .i64 0, .int .i64 0, .bool false, .bool false, .bool false, .bool false, .bool false, .int .i64 0, .int .i64 0, .int .i64 0, .int .i64 0, .int .i64 0, .int .i64 0, .int .i64 0, .int .i64 0, .bool false, .int .i64 0, .int .i64 0, .int .i64 0, .int .i64 0, .string ⟨⟨[]⟩⟩, .int .i64 0, .int .i64 0, .int .i64 0, .int .i64 0, .int .i64 0, .int .i64 0, .int .i64 0, .int .i64 0, .int .i64 0, .int .i64 0, .int .i64 0, .int .i64 0, .int .i64 0, .slice none 0 0, .int .i64 0, .int .i64 0, .int .i64 0, .int .i64 0, .slice none 0 0, .slice none 0 0] = some H5 ∧
 ∃ (t14 : Int),
 H5.cell H3.next 0 = some (.int .i64 t14) ∧
 ∃ (J_1 : AH → Prop),
 (
 cond (t14 == 1) (
 FW Ee F_view_Take [.pointer r9] H5 fun v_2 H6 =>
 ∃ (z0 z1 z2 z3 z4 z5 z6 z7 z8 : Int) (z9 : List UInt8) (z10 : Option Addr) (z11 z12 : Nat),
 v_2 = .agg ⟨[.int .i64 z0, .int .i64 z1, .int .i64 z2, .int .i64 z3, .int .i64 z4, .int .i64 z5, .int .i64 z6, .int .i64 z7, .int .i64 z8, .string ⟨⟨z9⟩⟩, .slice z10 z11 z12]⟩ ∧
 ∃ (H7 : AH),
 storeCellsv H6 H3.next 1 [.int .i64 z0, .int .i64 z1, .int .i64 z2, .int .i64 z3, .int .i64 z4, .int .i64 z5, .int .i64 z6, .int .i64 z7, .int .i64 z8, .string ⟨⟨z9⟩⟩, .slice z10 z11 z12] = some H7 ∧
 J_1 H7) (
 cond (t14 == 2) (
 ∀ (H8 : AH),
 H8 = H5.new (.cells [.pointer (some ⟨H3.next, 12, none⟩), .pointer (some ⟨H3.next, 13, none⟩)] 0) →
 FW Ee F_serve_takeCounts [.pointer r9, .slice (some ⟨H5.next, 0, none⟩) 2 4] H8 fun v_3 H9 =>
 v_3 = .tuple ⟨[]⟩ ∧
 FW Ee F_wire_Reader_Bool [.pointer r9] H9 fun v_4 H10 =>
 ∃ (r30 : Bool),
 v_4 = .bool r30 ∧
 ∃ (H11 : AH),
 storeCellsv H10 H3.next 14 [.bool r30] = some H11 ∧
 ∃ (t33 : Bool),
 H11.cell H3.next 14 = some (.bool t33) ∧
 cond (t33) (
 FW Ee F_master_TakeReport [.pointer r9] H11 fun v_5 H12 =>
 ∃ (z13 z14 z15 z16 z17 z18 z19 z20 z21 : Int) (z22 z23 z24 z25 z26 : Bool) (z27 z28 z29 z30 z31 : Int) (z32 : Option Addr) (z33 z34 : Nat),
 v_5 = .agg ⟨[.int .i64 z13, .int .i64 z14, .int .i64 z15, .int .i64 z16, .int .i64 z17, .int .i64 z18, .int .i64 z19, .int .i64 z20, .int .i64 z21, .bool z22, .bool z23, .bool z24, .bool z25, .bool z26, .int .i64 z27, .int .i64 z28, .int .i64 z29, .int .i64 z30, .int .i64 z31, .slice z32 z33 z34]⟩ ∧
 ∃ (H13 : AH),
 storeCellsv H12 H3.next 15 [.int .i64 z13, .int .i64 z14, .int .i64 z15, .int .i64 z16, .int .i64 z17, .int .i64 z18, .int .i64 z19, .int .i64 z20, .int .i64 z21, .bool z22, .bool z23, .bool z24, .bool z25, .bool z26, .int .i64 z27, .int .i64 z28, .int .i64 z29, .int .i64 z30, .int .i64 z31, .slice z32 z33 z34] = some H13 ∧
 J_1 H13) (
 J_1 H11)) (
 cond (t14 == 3) (
 FW Ee F_wire_Reader_Bool [.pointer r9] H5 fun v_6 H14 =>
 ∃ (r40 : Bool),
 v_6 = .bool r40 ∧
 ∃ (H15 : AH),
 storeCellsv H14 H3.next 14 [.bool r40] = some H15 ∧
 ∃ (t43 : Bool),
 H15.cell H3.next 14 = some (.bool t43) ∧
 cond (t43) (
 FW Ee F_master_TakeTask [.pointer r9] H15 fun v_7 H16 =>
 ∃ (z35 z36 z37 z38 : Int) (z39 : Option Addr) (z40 z41 : Nat) (z42 : Option Addr) (z43 z44 : Nat) (z45 : List UInt8) (z46 : Option Addr) (z47 z48 : Nat) (z49 : Option Addr) (z50 z51 : Nat) (z52 z53 z54 : Int) (z55 z56 z57 z58 z59 : Bool) (z60 z61 z62 z63 z64 z65 z66 z67 : Int) (z68 : Bool),
 v_7 = .agg ⟨[.int .i64 z35, .int .i64 z36, .int .i64 z37, .int .i64 z38, .slice z39 z40 z41, .slice z42 z43 z44, .string ⟨⟨z45⟩⟩, .slice z46 z47 z48, .slice z49 z50 z51, .int .i64 z52, .int .i64 z53, .int .i64 z54, .bool z55, .bool z56, .bool z57, .bool z58, .bool z59, .int .i64 z60, .int .i64 z61, .int .i64 z62, .int .i64 z63, .int .i64 z64, .int .i64 z65, .int .i64 z66, .int .i64 z67, .bool z68]⟩ ∧
 ∃ (H17 : AH),
 storeCellsv H16 H3.next 35 [.int .i64 z35, .int .i64 z36, .int .i64 z37, .int .i64 z38, .slice z39 z40 z41, .slice z42 z43 z44, .string ⟨⟨z45⟩⟩, .slice z46 z47 z48, .slice z49 z50 z51, .int .i64 z52, .int .i64 z53, .int .i64 z54, .bool z55, .bool z56, .bool z57, .bool z58, .bool z59, .int .i64 z60, .int .i64 z61, .int .i64 z62, .int .i64 z63, .int .i64 z64, .int .i64 z65, .int .i64 z66, .int .i64 z67, .bool z68] = some H17 ∧
 J_1 H17) (
 J_1 H15)) (
 cond (t14 == 4) (
 FW Ee F_wire_Reader_Signed [.pointer r9] H5 fun v_8 H18 =>
 ∃ (r50 : Int),
 v_8 = .int .i64 r50 ∧
 cond (decide (r50 < (-1))) (
 FW Ee F_wire_Reader_Fail [.pointer r9, .int .i64 6] H18 fun v_9 H19 =>
 v_9 = .tuple ⟨[]⟩ ∧
 ∃ (H20 : AH),
 storeCellsv H19 H3.next 61 [.int .i64 r50] = some H20 ∧
 J_1 H20) (
 cond (decide (r50 ≥ 7)) (
 FW Ee F_wire_Reader_Fail [.pointer r9, .int .i64 6] H18 fun v_10 H21 =>
 v_10 = .tuple ⟨[]⟩ ∧
 ∃ (H22 : AH),
 storeCellsv H21 H3.next 61 [.int .i64 r50] = some H22 ∧
 J_1 H22) (
 ∃ (H23 : AH),
 storeCellsv H18 H3.next 61 [.int .i64 r50] = some H23 ∧
 J_1 H23))) (
 cond (t14 == 5) (
 FW Ee F_serve_takeAsk [.pointer r9] H5 fun v_11 H24 =>
 ∃ (z69 z70 z71 : Int) (z72 : List UInt8) (z73 : Int),
 v_11 = .agg ⟨[.int .i64 z69, .int .i64 z70, .int .i64 z71, .string ⟨⟨z72⟩⟩, .int .i64 z73]⟩ ∧
 ∃ (H25 : AH),
 storeCellsv H24 H3.next 62 [.int .i64 z69, .int .i64 z70, .int .i64 z71, .string ⟨⟨z72⟩⟩, .int .i64 z73] = some H25 ∧
 J_1 H25) (
 cond (t14 == 6) (
 FW Ee F_serve_takeTold [.pointer r9] H5 fun v_12 H26 =>
 ∃ (z74 z75 z76 z77 z78 z79 z80 z81 z82 z83 z84 z85 : Int) (z86 : Option Addr) (z87 z88 : Nat),
 v_12 = .agg ⟨[.int .i64 z74, .int .i64 z75, .int .i64 z76, .int .i64 z77, .int .i64 z78, .int .i64 z79, .int .i64 z80, .int .i64 z81, .int .i64 z82, .int .i64 z83, .int .i64 z84, .int .i64 z85, .slice z86 z87 z88]⟩ ∧
 ∃ (H27 : AH),
 storeCellsv H26 H3.next 67 [.int .i64 z74, .int .i64 z75, .int .i64 z76, .int .i64 z77, .int .i64 z78, .int .i64 z79, .int .i64 z80, .int .i64 z81, .int .i64 z82, .int .i64 z83, .int .i64 z84, .int .i64 z85, .slice z86 z87 z88] = some H27 ∧
 J_1 H27) (
 cond (t14 == 7) (
 ∀ (H28 : AH),
 H28 = H5.new (.cells [.pointer (some ⟨H3.next, 80, none⟩), .pointer (some ⟨H3.next, 81, none⟩), .pointer (some ⟨H3.next, 82, none⟩), .pointer (some ⟨H3.next, 83, none⟩)] 0) →
 FW Ee F_serve_takeCounts [.pointer r9, .slice (some ⟨H5.next, 0, none⟩) 4 8] H28 fun v_13 H29 =>
 v_13 = .tuple ⟨[]⟩ ∧
 FW Ee F_comb_TakeMessages [.pointer r9] H29 fun v_14 H30 =>
 ∃ (r86a : Option Addr) (r86l r86c : Nat),
 v_14 = .slice r86a r86l r86c ∧
 FW Ee F_mut_Take [.pointer r9] H30 fun v_15 H31 =>
 ∃ (r88a : Option Addr) (r88l r88c : Nat),
 v_15 = .slice r88a r88l r88c ∧
 ∃ (H32 : AH),
 storeCellsv H31 H3.next 84 [.slice r86a r86l r86c] = some H32 ∧
 ∃ (H33 : AH),
 storeCellsv H32 H3.next 85 [.slice r88a r88l r88c] = some H33 ∧
 J_1 H33) (
 cond (t14 == 8) (
 ∀ (H34 : AH),
 H34 = H5.new (.cells [.pointer (some ⟨H3.next, 80, none⟩), .pointer (some ⟨H3.next, 81, none⟩), .pointer (some ⟨H3.next, 82, none⟩), .pointer (some ⟨H3.next, 83, none⟩)] 0) →
 FW Ee F_serve_takeCounts [.pointer r9, .slice (some ⟨H5.next, 0, none⟩) 4 8] H34 fun v_16 H35 =>
 v_16 = .tuple ⟨[]⟩ ∧
 FW Ee F_comb_TakeMessages [.pointer r9] H35 fun v_17 H36 =>
 ∃ (r86a_1 : Option Addr) (r86l_1 r86c_1 : Nat),
 v_17 = .slice r86a_1 r86l_1 r86c_1 ∧
 FW Ee F_mut_Take [.pointer r9] H36 fun v_18 H37 =>
 ∃ (r88a_1 : Option Addr) (r88l_1 r88c_1 : Nat),
 v_18 = .slice r88a_1 r88l_1 r88c_1 ∧
 ∃ (H38 : AH),
 storeCellsv H37 H3.next 84 [.slice r86a_1 r86l_1 r86c_1] = some H38 ∧
 ∃ (H39 : AH),
 storeCellsv H38 H3.next 85 [.slice r88a_1 r88l_1 r88c_1] = some H39 ∧
 J_1 H39) (
 FW Ee F_wire_Reader_Fail [.pointer r9, .int .i64 6] H5 fun v_19 H40 =>
 v_19 = .tuple ⟨[]⟩ ∧
 J_1 H40))))))))) ∧
 ∀ (H41 : AH),
 J_1 H41 →
 FW Ee F_wire_Reader_End [.pointer r9] H41 fun v_20 H42 =>
 ∃ (r94 : Int),
 v_20 = .int .i64 r94 ∧
 cond (r94 != 0) (
 ∃ (H43 : AH),
 storeCellsv H42 H.next 0 [.int .i64 0, .int .i64 0, .int .i64 0, .int .i64 0, .int .i64 0, .int .i64 0, .int .i64 0, .int .i64 0, .int .i64 0, .int .i64 0, .string ⟨⟨[]⟩⟩, .slice none 0 0, .int .i64 0, .int .i64 0, .bool false, .int .i64 0, .int .i64 0, .int .i64 0, .int .i64 0, .int .i64 0, .int .i64 0, .int .i64 0, .int .i64 0, .int .i64 0, .bool false, .bool false, .bool false, .bool false, .bool false, .int .i64 0, .int .i64 0, .int .i64 0, .int .i64 0, .int .i64 0, .slice none 0 0, .int .i64 0, .int .i64 0, .int .i64 0, .int .i64 0, .slice none 0 0, .slice none 0 0, .string ⟨⟨[]⟩⟩, .slice none 0 0, .slice none 0 0, .int .i64 0, .int .i64 0, .int .i64 0, .bool false, .bool false, .bool false, .bool false, .bool false, .int .i64 0, .int .i64 0, .int .i64 0, .int .i64 0, .int .i64 0, .int .i64 0, .int .i64 0, .int .i64 0, .bool false, .int .i64 0, .int .i64 0, .int .i64 0, .int .i64 0, .string ⟨⟨[]⟩⟩, .int .i64 0, .int .i64 0, .int .i64 0, .int .i64 0, .int .i64 0, .int .i64 0, .int .i64 0, .int .i64 0, .int .i64 0, .int .i64 0, .int .i64 0, .int .i64 0, .int .i64 0, .slice none 0 0, .int .i64 0, .int .i64 0, .int .i64 0, .int .i64 0, .slice none 0 0, .slice none 0 0] = some H43 ∧
 ∃ (z89 z90 z91 z92 z93 z94 z95 z96 z97 z98 : Int) (z99 : List UInt8) (z100 : Option Addr) (z101 z102 : Nat) (z103 z104 : Int) (z105 : Bool) (z106 z107 z108 z109 z110 z111 z112 z113 z114 : Int) (z115 z116 z117 z118 z119 : Bool) (z120 z121 z122 z123 z124 : Int) (z125 : Option Addr) (z126 z127 : Nat) (z128 z129 z130 z131 : Int) (z132 : Option Addr) (z133 z134 : Nat) (z135 : Option Addr) (z136 z137 : Nat) (z138 : List UInt8) (z139 : Option Addr) (z140 z141 : Nat) (z142 : Option Addr) (z143 z144 : Nat) (z145 z146 z147 : Int) (z148 z149 z150 z151 z152 : Bool) (z153 z154 z155 z156 z157 z158 z159 z160 : Int) (z161 : Bool) (z162 z163 z164 z165 : Int) (z166 : List UInt8) (z167 z168 z169 z170 z171 z172 z173 z174 z175 z176 z177 z178 z179 : Int) (z180 : Option Addr) (z181 z182 : Nat) (z183 z184 z185 z186 : Int) (z187 : Option Addr) (z188 z189 : Nat) (z190 : Option Addr) (z191 z192 : Nat),
 H43.cell H.next (0 + 0) = some (.int .i64 z89) ∧
 H43.cell H.next (0 + 1) = some (.int .i64 z90) ∧
 H43.cell H.next (0 + 2) = some (.int .i64 z91) ∧
 H43.cell H.next (0 + 3) = some (.int .i64 z92) ∧
 H43.cell H.next (0 + 4) = some (.int .i64 z93) ∧
 H43.cell H.next (0 + 5) = some (.int .i64 z94) ∧
 H43.cell H.next (0 + 6) = some (.int .i64 z95) ∧
 H43.cell H.next (0 + 7) = some (.int .i64 z96) ∧
 H43.cell H.next (0 + 8) = some (.int .i64 z97) ∧
 H43.cell H.next (0 + 9) = some (.int .i64 z98) ∧
 H43.cell H.next (0 + 10) = some (.string ⟨⟨z99⟩⟩) ∧
 H43.cell H.next (0 + 11) = some (.slice z100 z101 z102) ∧
 H43.cell H.next (0 + 12) = some (.int .i64 z103) ∧
 H43.cell H.next (0 + 13) = some (.int .i64 z104) ∧
 H43.cell H.next (0 + 14) = some (.bool z105) ∧
 H43.cell H.next (0 + 15) = some (.int .i64 z106) ∧
 H43.cell H.next (0 + 16) = some (.int .i64 z107) ∧
 H43.cell H.next (0 + 17) = some (.int .i64 z108) ∧
 H43.cell H.next (0 + 18) = some (.int .i64 z109) ∧
 H43.cell H.next (0 + 19) = some (.int .i64 z110) ∧
 H43.cell H.next (0 + 20) = some (.int .i64 z111) ∧
 H43.cell H.next (0 + 21) = some (.int .i64 z112) ∧
 H43.cell H.next (0 + 22) = some (.int .i64 z113) ∧
 H43.cell H.next (0 + 23) = some (.int .i64 z114) ∧
 H43.cell H.next (0 + 24) = some (.bool z115) ∧
 H43.cell H.next (0 + 25) = some (.bool z116) ∧
 H43.cell H.next (0 + 26) = some (.bool z117) ∧
 H43.cell H.next (0 + 27) = some (.bool z118) ∧
 H43.cell H.next (0 + 28) = some (.bool z119) ∧
 H43.cell H.next (0 + 29) = some (.int .i64 z120) ∧
 H43.cell H.next (0 + 30) = some (.int .i64 z121) ∧
 H43.cell H.next (0 + 31) = some (.int .i64 z122) ∧
 H43.cell H.next (0 + 32) = some (.int .i64 z123) ∧
 H43.cell H.next (0 + 33) = some (.int .i64 z124) ∧
 H43.cell H.next (0 + 34) = some (.slice z125 z126 z127) ∧
 H43.cell H.next (0 + 35) = some (.int .i64 z128) ∧
 H43.cell H.next (0 + 36) = some (.int .i64 z129) ∧
 H43.cell H.next (0 + 37) = some (.int .i64 z130) ∧
 H43.cell H.next (0 + 38) = some (.int .i64 z131) ∧
 H43.cell H.next (0 + 39) = some (.slice z132 z133 z134) ∧
 H43.cell H.next (0 + 40) = some (.slice z135 z136 z137) ∧
 H43.cell H.next (0 + 41) = some (.string ⟨⟨z138⟩⟩) ∧
 H43.cell H.next (0 + 42) = some (.slice z139 z140 z141) ∧
 H43.cell H.next (0 + 43) = some (.slice z142 z143 z144) ∧
 H43.cell H.next (0 + 44) = some (.int .i64 z145) ∧
 H43.cell H.next (0 + 45) = some (.int .i64 z146) ∧
 H43.cell H.next (0 + 46) = some (.int .i64 z147) ∧
 H43.cell H.next (0 + 47) = some (.bool z148) ∧
 H43.cell H.next (0 + 48) = some (.bool z149) ∧
 H43.cell H.next (0 + 49) = some (.bool z150) ∧
 H43.cell H.next (0 + 50) = some (.bool z151) ∧
 H43.cell H.next (0 + 51) = some (.bool z152) ∧
 H43.cell H.next (0 + 52) = some (.int .i64 z153) ∧
 H43.cell H.next (0 + 53) = some (.int .i64 z154) ∧
 H43.cell H.next (0 + 54) = some (.int .i64 z155) ∧
 H43.cell H.next (0 + 55) = some (.int .i64 z156) ∧
 H43.cell H.next (0 + 56) = some (.int .i64 z157) ∧
 H43.cell H.next (0 + 57) = some (.int .i64 z158) ∧
 H43.cell H.next (0 + 58) = some (.int .i64 z159) ∧
 H43.cell H.next (0 + 59) = some (.int .i64 z160) ∧
 H43.cell H.next (0 + 60) = some (.bool z161) ∧
 H43.cell H.next (0 + 61) = some (.int .i64 z162) ∧
 H43.cell H.next (0 + 62) = some (.int .i64 z163) ∧
 H43.cell H.next (0 + 63) = some (.int .i64 z164) ∧
 H43.cell H.next (0 + 64) = some (.int .i64 z165) ∧
 H43.cell H.next (0 + 65) = some (.string ⟨⟨z166⟩⟩) ∧
 H43.cell H.next (0 + 66) = some (.int .i64 z167) ∧
 H43.cell H.next (0 + 67) = some (.int .i64 z168) ∧
 H43.cell H.next (0 + 68) = some (.int .i64 z169) ∧
 H43.cell H.next (0 + 69) = some (.int .i64 z170) ∧
 H43.cell H.next (0 + 70) = some (.int .i64 z171) ∧
 H43.cell H.next (0 + 71) = some (.int .i64 z172) ∧
 H43.cell H.next (0 + 72) = some (.int .i64 z173) ∧
 H43.cell H.next (0 + 73) = some (.int .i64 z174) ∧
 H43.cell H.next (0 + 74) = some (.int .i64 z175) ∧
 H43.cell H.next (0 + 75) = some (.int .i64 z176) ∧
 H43.cell H.next (0 + 76) = some (.int .i64 z177) ∧
 H43.cell H.next (0 + 77) = some (.int .i64 z178) ∧
 H43.cell H.next (0 + 78) = some (.int .i64 z179) ∧
 H43.cell H.next (0 + 79) = some (.slice z180 z181 z182) ∧
 H43.cell H.next (0 + 80) = some (.int .i64 z183) ∧
 H43.cell H.next (0 + 81) = some (.int .i64 z184) ∧
 H43.cell H.next (0 + 82) = some (.int .i64 z185) ∧
 H43.cell H.next (0 + 83) = some (.int .i64 z186) ∧
 H43.cell H.next (0 + 84) = some (.slice z187 z188 z189) ∧
 H43.cell H.next (0 + 85) = some (.slice z190 z191 z192) ∧
 Q (.tuple ⟨[.agg ⟨[.int .i64 z89, .int .i64 z90, .int .i64 z91, .int .i64 z92, .int .i64 z93, .int .i64 z94, .int .i64 z95, .int .i64 z96, .int .i64 z97, .int .i64 z98, .string ⟨⟨z99⟩⟩, .slice z100 z101 z102, .int .i64 z103, .int .i64 z104, .bool z105, .int .i64 z106, .int .i64 z107, .int .i64 z108, .int .i64 z109, .int .i64 z110, .int .i64 z111, .int .i64 z112, .int .i64 z113, .int .i64 z114, .bool z115, .bool z116, .bool z117, .bool z118, .bool z119, .int .i64 z120, .int .i64 z121, .int .i64 z122, .int .i64 z123, .int .i64 z124, .slice z125 z126 z127, .int .i64 z128, .int .i64 z129, .int .i64 z130, .int .i64 z131, .slice z132 z133 z134, .slice z135 z136 z137, .string ⟨⟨z138⟩⟩, .slice z139 z140 z141, .slice z142 z143 z144, .int .i64 z145, .int .i64 z146, .int .i64 z147, .bool z148, .bool z149, .bool z150, .bool z151, .bool z152, .int .i64 z153, .int .i64 z154, .int .i64 z155, .int .i64 z156, .int .i64 z157, .int .i64 z158, .int .i64 z159, .int .i64 z160, .bool z161, .int .i64 z162, .int .i64 z163, .int .i64 z164, .int .i64 z165, .string ⟨⟨z166⟩⟩, .int .i64 z167, .int .i64 z168, .int .i64 z169, .int .i64 z170, .int .i64 z171, .int .i64 z172, .int .i64 z173, .int .i64 z174, .int .i64 z175, .int .i64 z176, .int .i64 z177, .int .i64 z178, .int .i64 z179, .slice z180 z181 z182, .int .i64 z183, .int .i64 z184, .int .i64 z185, .int .i64 z186, .slice z187 z188 z189, .slice z190 z191 z192]⟩, .int .i64 r94]⟩) H43) (
 ∃ (z193 z194 z195 z196 z197 z198 z199 z200 z201 z202 : Int) (z203 : List UInt8) (z204 : Option Addr) (z205 z206 : Nat) (z207 z208 : Int) (z209 : Bool) (z210 z211 z212 z213 z214 z215 z216 z217 z218 : Int) (z219 z220 z221 z222 z223 : Bool) (z224 z225 z226 z227 z228 : Int) (z229 : Option Addr) (z230 z231 : Nat) (z232 z233 z234 z235 : Int) (z236 : Option Addr) (z237 z238 : Nat) (z239 : Option Addr) (z240 z241 : Nat) (z242 : List UInt8) (z243 : Option Addr) (z244 z245 : Nat) (z246 : Option Addr) (z247 z248 : Nat) (z249 z250 z251 : Int) (z252 z253 z254 z255 z256 : Bool) (z257 z258 z259 z260 z261 z262 z263 z264 : Int) (z265 : Bool) (z266 z267 z268 z269 : Int) (z270 : List UInt8) (z271 z272 z273 z274 z275 z276 z277 z278 z279 z280 z281 z282 z283 : Int) (z284 : Option Addr) (z285 z286 : Nat) (z287 z288 z289 z290 : Int) (z291 : Option Addr) (z292 z293 : Nat) (z294 : Option Addr) (z295 z296 : Nat),
 H42.cell H3.next (0 + 0) = some (.int .i64 z193) ∧
 H42.cell H3.next (0 + 1) = some (.int .i64 z194) ∧
 H42.cell H3.next (0 + 2) = some (.int .i64 z195) ∧
 H42.cell H3.next (0 + 3) = some (.int .i64 z196) ∧
 H42.cell H3.next (0 + 4) = some (.int .i64 z197) ∧
 H42.cell H3.next (0 + 5) = some (.int .i64 z198) ∧
 H42.cell H3.next (0 + 6) = some (.int .i64 z199) ∧
 H42.cell H3.next (0 + 7) = some (.int .i64 z200) ∧
 H42.cell H3.next (0 + 8) = some (.int .i64 z201) ∧
 H42.cell H3.next (0 + 9) = some (.int .i64 z202) ∧
 H42.cell H3.next (0 + 10) = some (.string ⟨⟨z203⟩⟩) ∧
 H42.cell H3.next (0 + 11) = some (.slice z204 z205 z206) ∧
 H42.cell H3.next (0 + 12) = some (.int .i64 z207) ∧
 H42.cell H3.next (0 + 13) = some (.int .i64 z208) ∧
 H42.cell H3.next (0 + 14) = some (.bool z209) ∧
 H42.cell H3.next (0 + 15) = some (.int .i64 z210) ∧
 H42.cell H3.next (0 + 16) = some (.int .i64 z211) ∧
 H42.cell H3.next (0 + 17) = some (.int .i64 z212) ∧
 H42.cell H3.next (0 + 18) = some (.int .i64 z213) ∧
 H42.cell H3.next (0 + 19) = some (.int .i64 z214) ∧
 H42.cell H3.next (0 + 20) = some (.int .i64 z215) ∧
 H42.cell H3.next (0 + 21) = some (.int .i64 z216) ∧
 H42.cell H3.next (0 + 22) = some (.int .i64 z217) ∧
 H42.cell H3.next (0 + 23) = some (.int .i64 z218) ∧
 H42.cell H3.next (0 + 24) = some (.bool z219) ∧
 H42.cell H3.next (0 + 25) = some (.bool z220) ∧
 H42.cell H3.next (0 + 26) = some (.bool z221) ∧
 H42.cell H3.next (0 + 27) = some (.bool z222) ∧
 H42.cell H3.next (0 + 28) = some (.bool z223) ∧
 H42.cell H3.next (0 + 29) = some (.int .i64 z224) ∧
 H42.cell H3.next (0 + 30) = some (.int .i64 z225) ∧
 H42.cell H3.next (0 + 31) = some (.int .i64 z226) ∧
 H42.cell H3.next (0 + 32) = some (.int .i64 z227) ∧
 H42.cell H3.next (0 + 33) = some (.int .i64 z228) ∧
 H42.cell H3.next (0 + 34) = some (.slice z229 z230 z231) ∧
 H42.cell H3.next (0 + 35) = some (.int .i64 z232) ∧
 H42.cell H3.next (0 + 36) = some (.int .i64 z233) ∧
 H42.cell H3.next (0 + 37) = some (.int .i64 z234) ∧
 H42.cell H3.next (0 + 38) = some (.int .i64 z235) ∧
 H42.cell H3.next (0 + 39) = some (.slice z236 z237 z238) ∧
 H42.cell H3.next (0 + 40) = some (.slice z239 z240 z241) ∧
 H42.cell H3.next (0 + 41) = some (.string ⟨⟨z242⟩⟩) ∧
 H42.cell H3.next (0 + 42) = some (.slice z243 z244 z245) ∧
 H42.cell H3.next (0 + 43) = some (.slice z246 z247 z248) ∧
 H42.cell H3.next (0 + 44) = some (.int .i64 z249) ∧
 H42.cell H3.next (0 + 45) = some (.int .i64 z250) ∧
 H42.cell H3.next (0 + 46) = some (.int .i64 z251) ∧
 H42.cell H3.next (0 + 47) = some (.bool z252) ∧
 H42.cell H3.next (0 + 48) = some (.bool z253) ∧
 H42.cell H3.next (0 + 49) = some (.bool z254) ∧
 H42.cell H3.next (0 + 50) = some (.bool z255) ∧
 H42.cell H3.next (0 + 51) = some (.bool z256) ∧
 H42.cell H3.next (0 + 52) = some (.int .i64 z257) ∧
 H42.cell H3.next (0 + 53) = some (.int .i64 z258) ∧
 H42.cell H3.next (0 + 54) = some (.int .i64 z259) ∧
 H42.cell H3.next (0 + 55) = some (.int .i64 z260) ∧
 H42.cell H3.next (0 + 56) = some (.int .i64 z261) ∧
 H42.cell H3.next (0 + 57) = some (.int .i64 z262) ∧
 H42.cell H3.next (0 + 58) = some (.int .i64 z263) ∧
 H42.cell H3.next (0 + 59) = some (.int .i64 z264) ∧
 H42.cell H3.next (0 + 60) = some (.bool z265) ∧
 H42.cell H3.next (0 + 61) = some (.int .i64 z266) ∧
 H42.cell H3.next (0 + 62) = some (.int .i64 z267) ∧
 H42.cell H3.next (0 + 63) = some (.int .i64 z268) ∧
 H42.cell H3.next (0 + 64) = some (.int .i64 z269) ∧
 H42.cell H3.next (0 + 65) = some (.string ⟨⟨z270⟩⟩) ∧
 H42.cell H3.next (0 + 66) = some (.int .i64 z271) ∧
 H42.cell H3.next (0 + 67) = some (.int .i64 z272) ∧
 H42.cell H3.next (0 + 68) = some (.int .i64 z273) ∧
 H42.cell H3.next (0 + 69) = some (.int .i64 z274) ∧
 H42.cell H3.next (0 + 70) = some (.int .i64 z275) ∧
 H42.cell H3.next (0 + 71) = some (.int .i64 z276) ∧
 H42.cell H3.next (0 + 72) = some (.int .i64 z277) ∧
 H42.cell H3.next (0 + 73) = some (.int .i64 z278) ∧
 H42.cell H3.next (0 + 74) = some (.int .i64 z279) ∧
 H42.cell H3.next (0 + 75) = some (.int .i64 z280) ∧
 H42.cell H3.next (0 + 76) = some (.int .i64 z281) ∧
 H42.cell H3.next (0 + 77) = some (.int .i64 z282) ∧
 H42.cell H3.next (0 + 78) = some (.int .i64 z283) ∧
 H42.cell H3.next (0 + 79) = some (.slice z284 z285 z286) ∧
 H42.cell H3.next (0 + 80) = some (.int .i64 z287) ∧
 H42.cell H3.next (0 + 81) = some (.int .i64 z288) ∧
 H42.cell H3.next (0 + 82) = some (.int .i64 z289) ∧
 H42.cell H3.next (0 + 83) = some (.int .i64 z290) ∧
 H42.cell H3.next (0 + 84) = some (.slice z291 z292 z293) ∧
 H42.cell H3.next (0 + 85) = some (.slice z294 z295 z296) ∧
 ∃ (H44 : AH),
 storeCellsv H42 H.next 0 [.int .i64 z193, .int .i64 z194, .int .i64 z195, .int .i64 z196, .int .i64 z197, .int .i64 z198, .int .i64 z199, .int .i64 z200, .int .i64 z201, .int .i64 z202, .string ⟨⟨z203⟩⟩, .slice z204 z205 z206, .int .i64 z207, .int .i64 z208, .bool z209, .int .i64 z210, .int .i64 z211, .int .i64 z212, .int .i64 z213, .int .i64 z214, .int .i64 z215, .int .i64 z216, .int .i64 z217, .int .i64 z218, .bool z219, .bool z220, .bool z221, .bool z222, .bool z223, .int .i64 z224, .int .i64 z225, .int .i64 z226, .int .i64 z227, .int .i64 z228, .slice z229 z230 z231, .int .i64 z232, .int .i64 z233, .int .i64 z234, .int .i64 z235, .slice z236 z237 z238, .slice z239 z240 z241, .string ⟨⟨z242⟩⟩, .slice z243 z244 z245, .slice z246 z247 z248, .int .i64 z249, .int .i64 z250, .int .i64 z251, .bool z252, .bool z253, .bool z254, .bool z255, .bool z256, .int .i64 z257, .int .i64 z258, .int .i64 z259, .int .i64 z260, .int .i64 z261, .int .i64 z262, .int .i64 z263, .int .i64 z264, .bool z265, .int .i64 z266, .int .i64 z267, .int .i64 z268, .int .i64 z269, .string ⟨⟨z270⟩⟩, .int .i64 z271, .int .i64 z272, .int .i64 z273, .int .i64 z274, .int .i64 z275, .int .i64 z276, .int .i64 z277, .int .i64 z278, .int .i64 z279, .int .i64 z280, .int .i64 z281, .int .i64 z282, .int .i64 z283, .slice z284 z285 z286, .int .i64 z287, .int .i64 z288, .int .i64 z289, .int .i64 z290, .slice z291 z292 z293, .slice z294 z295 z296] = some H44 ∧
 ∃ (z297 z298 z299 z300 z301 z302 z303 z304 z305 z306 : Int) (z307 : List UInt8) (z308 : Option Addr) (z309 z310 : Nat) (z311 z312 : Int) (z313 : Bool) (z314 z315 z316 z317 z318 z319 z320 z321 z322 : Int) (z323 z324 z325 z326 z327 : Bool) (z328 z329 z330 z331 z332 : Int) (z333 : Option Addr) (z334 z335 : Nat) (z336 z337 z338 z339 : Int) (z340 : Option Addr) (z341 z342 : Nat) (z343 : Option Addr) (z344 z345 : Nat) (z346 : List UInt8) (z347 : Option Addr) (z348 z349 : Nat) (z350 : Option Addr) (z351 z352 : Nat) (z353 z354 z355 : Int) (z356 z357 z358 z359 z360 : Bool) (z361 z362 z363 z364 z365 z366 z367 z368 : Int) (z369 : Bool) (z370 z371 z372 z373 : Int) (z374 : List UInt8) (z375 z376 z377 z378 z379 z380 z381 z382 z383 z384 z385 z386 z387 : Int) (z388 : Option Addr) (z389 z390 : Nat) (z391 z392 z393 z394 : Int) (z395 : Option Addr) (z396 z397 : Nat) (z398 : Option Addr) (z399 z400 : Nat),
 H44.cell H.next (0 + 0) = some (.int .i64 z297) ∧
 H44.cell H.next (0 + 1) = some (.int .i64 z298) ∧
 H44.cell H.next (0 + 2) = some (.int .i64 z299) ∧
 H44.cell H.next (0 + 3) = some (.int .i64 z300) ∧
 H44.cell H.next (0 + 4) = some (.int .i64 z301) ∧
 H44.cell H.next (0 + 5) = some (.int .i64 z302) ∧
 H44.cell H.next (0 + 6) = some (.int .i64 z303) ∧
 H44.cell H.next (0 + 7) = some (.int .i64 z304) ∧
 H44.cell H.next (0 + 8) = some (.int .i64 z305) ∧
 H44.cell H.next (0 + 9) = some (.int .i64 z306) ∧
 H44.cell H.next (0 + 10) = some (.string ⟨⟨z307⟩⟩) ∧
 H44.cell H.next (0 + 11) = some (.slice z308 z309 z310) ∧
 H44.cell H.next (0 + 12) = some (.int .i64 z311) ∧
 H44.cell H.next (0 + 13) = some (.int .i64 z312) ∧
 H44.cell H.next (0 + 14) = some (.bool z313) ∧
 H44.cell H.next (0 + 15) = some (.int .i64 z314) ∧
 H44.cell H.next (0 + 16) = some (.int .i64 z315) ∧
 H44.cell H.next (0 + 17) = some (.int .i64 z316) ∧
 H44.cell H.next (0 + 18) = some (.int .i64 z317) ∧
 H44.cell H.next (0 + 19) = some (.int .i64 z318) ∧
 H44.cell H.next (0 + 20) = some (.int .i64 z319) ∧
 H44.cell H.next (0 + 21) = some (.int .i64 z320) ∧
 H44.cell H.next (0 + 22) = some (.int .i64 z321) ∧
 H44.cell H.next (0 + 23) = some (.int .i64 z322) ∧
 H44.cell H.next (0 + 24) = some (.bool z323) ∧
 H44.cell H.next (0 + 25) = some (.bool z324) ∧
 H44.cell H.next (0 + 26) = some (.bool z325) ∧
 H44.cell H.next (0 + 27) = some (.bool z326) ∧
 H44.cell H.next (0 + 28) = some (.bool z327) ∧
 H44.cell H.next (0 + 29) = some (.int .i64 z328) ∧
 H44.cell H.next (0 + 30) = some (.int .i64 z329) ∧
 H44.cell H.next (0 + 31) = some (.int .i64 z330) ∧
 H44.cell H.next (0 + 32) = some (.int .i64 z331) ∧
 H44.cell H.next (0 + 33) = some (.int .i64 z332) ∧
 H44.cell H.next (0 + 34) = some (.slice z333 z334 z335) ∧
 H44.cell H.next (0 + 35) = some (.int .i64 z336) ∧
 H44.cell H.next (0 + 36) = some (.int .i64 z337) ∧
 H44.cell H.next (0 + 37) = some (.int .i64 z338) ∧
 H44.cell H.next (0 + 38) = some (.int .i64 z339) ∧
 H44.cell H.next (0 + 39) = some (.slice z340 z341 z342) ∧
 H44.cell H.next (0 + 40) = some (.slice z343 z344 z345) ∧
 H44.cell H.next (0 + 41) = some (.string ⟨⟨z346⟩⟩) ∧
 H44.cell H.next (0 + 42) = some (.slice z347 z348 z349) ∧
 H44.cell H.next (0 + 43) = some (.slice z350 z351 z352) ∧
 H44.cell H.next (0 + 44) = some (.int .i64 z353) ∧
 H44.cell H.next (0 + 45) = some (.int .i64 z354) ∧
 H44.cell H.next (0 + 46) = some (.int .i64 z355) ∧
 H44.cell H.next (0 + 47) = some (.bool z356) ∧
 H44.cell H.next (0 + 48) = some (.bool z357) ∧
 H44.cell H.next (0 + 49) = some (.bool z358) ∧
 H44.cell H.next (0 + 50) = some (.bool z359) ∧
 H44.cell H.next (0 + 51) = some (.bool z360) ∧
 H44.cell H.next (0 + 52) = some (.int .i64 z361) ∧
 H44.cell H.next (0 + 53) = some (.int .i64 z362) ∧
 H44.cell H.next (0 + 54) = some (.int .i64 z363) ∧
 H44.cell H.next (0 + 55) = some (.int .i64 z364) ∧
 H44.cell H.next (0 + 56) = some (.int .i64 z365) ∧
 H44.cell H.next (0 + 57) = some (.int .i64 z366) ∧
 H44.cell H.next (0 + 58) = some (.int .i64 z367) ∧
 H44.cell H.next (0 + 59) = some (.int .i64 z368) ∧
 H44.cell H.next (0 + 60) = some (.bool z369) ∧
 H44.cell H.next (0 + 61) = some (.int .i64 z370) ∧
 H44.cell H.next (0 + 62) = some (.int .i64 z371) ∧
 H44.cell H.next (0 + 63) = some (.int .i64 z372) ∧
 H44.cell H.next (0 + 64) = some (.int .i64 z373) ∧
 H44.cell H.next (0 + 65) = some (.string ⟨⟨z374⟩⟩) ∧
 H44.cell H.next (0 + 66) = some (.int .i64 z375) ∧
 H44.cell H.next (0 + 67) = some (.int .i64 z376) ∧
 H44.cell H.next (0 + 68) = some (.int .i64 z377) ∧
 H44.cell H.next (0 + 69) = some (.int .i64 z378) ∧
 H44.cell H.next (0 + 70) = some (.int .i64 z379) ∧
 H44.cell H.next (0 + 71) = some (.int .i64 z380) ∧
 H44.cell H.next (0 + 72) = some (.int .i64 z381) ∧
 H44.cell H.next (0 + 73) = some (.int .i64 z382) ∧
 H44.cell H.next (0 + 74) = some (.int .i64 z383) ∧
 H44.cell H.next (0 + 75) = some (.int .i64 z384) ∧
 H44.cell H.next (0 + 76) = some (.int .i64 z385) ∧
 H44.cell H.next (0 + 77) = some (.int .i64 z386) ∧
 H44.cell H.next (0 + 78) = some (.int .i64 z387) ∧
 H44.cell H.next (0 + 79) = some (.slice z388 z389 z390) ∧
 H44.cell H.next (0 + 80) = some (.int .i64 z391) ∧
 H44.cell H.next (0 + 81) = some (.int .i64 z392) ∧
 H44.cell H.next (0 + 82) = some (.int .i64 z393) ∧
 H44.cell H.next (0 + 83) = some (.int .i64 z394) ∧
 H44.cell H.next (0 + 84) = some (.slice z395 z396 z397) ∧
 H44.cell H.next (0 + 85) = some (.slice z398 z399 z400) ∧
 Q (.tuple ⟨[.agg ⟨[.int .i64 z297, .int .i64 z298, .int .i64 z299, .int .i64 z300, .int .i64 z301, .int .i64 z302, .int .i64 z303, .int .i64 z304, .int .i64 z305, .int .i64 z306, .string ⟨⟨z307⟩⟩, .slice z308 z309 z310, .int .i64 z311, .int .i64 z312, .bool z313, .int .i64 z314, .int .i64 z315, .int .i64 z316, .int .i64 z317, .int .i64 z318, .int .i64 z319, .int .i64 z320, .int .i64 z321, .int .i64 z322, .bool z323, .bool z324, .bool z325, .bool z326, .bool z327, .int .i64 z328, .int .i64 z329, .int .i64 z330, .int .i64 z331, .int .i64 z332, .slice z333 z334 z335, .int .i64 z336, .int .i64 z337, .int .i64 z338, .int .i64 z339, .slice z340 z341 z342, .slice z343 z344 z345, .string ⟨⟨z346⟩⟩, .slice z347 z348 z349, .slice z350 z351 z352, .int .i64 z353, .int .i64 z354, .int .i64 z355, .bool z356, .bool z357, .bool z358, .bool z359, .bool z360, .int .i64 z361, .int .i64 z362, .int .i64 z363, .int .i64 z364, .int .i64 z365, .int .i64 z366, .int .i64 z367, .int .i64 z368, .bool z369, .int .i64 z370, .int .i64 z371, .int .i64 z372, .int .i64 z373, .string ⟨⟨z374⟩⟩, .int .i64 z375, .int .i64 z376, .int .i64 z377, .int .i64 z378, .int .i64 z379, .int .i64 z380, .int .i64 z381, .int .i64 z382, .int .i64 z383, .int .i64 z384, .int .i64 z385, .int .i64 z386, .int .i64 z387, .slice z388 z389 z390, .int .i64 z391, .int .i64 z392, .int .i64 z393, .int .i64 z394, .slice z395 z396 z397, .slice z398 z399 z400]⟩, .int .i64 0]⟩) H44)
set_option maxRecDepth 100000 in
theorem fw_serve_Decode {s0 : List UInt8} {H : AH} {Q : Value → AH → Prop} (h : VC_serve_Decode s0 H Q) : FW Ee F_serve_Decode [.string ⟨⟨s0⟩⟩] H Q :=
  letI : Sy := sy0
  wpF_sound (A := ⟨[0], []⟩) (Eq.mp (by kernel_rfl) h)
end Go.Proofs.Cx
namespace Go.Proofs.Cx
open Go Go.Ev
set_option linter.unusedVariables false
set_option maxRecDepth 100000
set_option maxHeartbeats 8000000
def VC_cohortlaw18_ServeSays (z0 z1 z2 z3 z4 z5 z6 z7 z8 z9 : Int) (z10 : List UInt8) (z11 : Option Addr) (z12 z13 : Nat) (z14 z15 : Int) (z16 : Bool) (z17 z18 z19 z20 z21 z22 z23 z24 z25 : Int) (z26 z27 z28 z29 z30 : Bool) (z31 z32 z33 z34 z35 : Int) (z36 : Option Addr) (z37 z38 : Nat) (z39 z40 z41 z42 : Int) (z43 : Option Addr) (z44 z45 : Nat) (z46 : Option Addr) (z47 z48 : Nat) (z49 : List UInt8) (z50 : Option Addr) (z51 z52 : Nat) (z53 : Option Addr) (z54 z55 : Nat) (z56 z57 z58 : Int) (z59 z60 z61 z62 z63 : Bool) (z64 z65 z66 z67 z68 z69 z70 z71 : Int) (z72 : Bool) (z73 z74 z75 z76 : Int) (z77 : List UInt8) (z78 z79 z80 z81 z82 z83 z84 z85 z86 z87 z88 z89 z90 : Int) (z91 : Option Addr) (z92 z93 : Nat) (z94 z95 z96 z97 : Int) (z98 : Option Addr) (z99 z100 : Nat) (z101 : Option Addr) (z102 z103 : Nat) (s1 : List UInt8) (H : AH) (Q : Value → AH → Prop) : Prop :=
 ∀ (H1 : AH),
 H1 = H.new (.cells [.int .i64 z0, .int .i64 z1, .int .i64 z2, .int .i64 z3, .int .i64 z4, .int .i64 z5, .int .i64 z6, .int .i64 z7, .int .i64 z8, .int .i64 z9, .string ⟨⟨z10⟩⟩, .slice z11 z12 z13, .int .i64 z14, .int .i64 z15, .bool z16, .int .i64 z17, .int .i64 z18, .int .i64 z19, .int .i64 z20, .int .i64 z21, .int .i64 z22, .int .i64 z23, .int .i64 z24, .int .i64 z25, .bool z26, .bool z27, .bool z28, .bool z29, .bool z30, .int .i64 z31, .int .i64 z32, .int .i64 z33, .int .i64 z34, .int .i64 z35, .slice z36 z37 z38, .int .i64 z39, .int .i64 z40, .int .i64 z41, .int .i64 z42, .slice z43 z44 z45, .slice z46 z47 z48, .string ⟨⟨z49⟩⟩, .slice z50 z51 z52, .slice z53 z54 z55, .int .i64 z56, .int .i64 z57, .int .i64 z58, .bool z59, .bool z60, .bool z61, .bool z62, .bool z63, .int .i64 z64, .int .i64 z65, .int .i64 z66, .int .i64 z67, .int .i64 z68, .int .i64 z69, .int .i64 z70, .int .i64 z71, .bool z72, .int .i64 z73, .int .i64 z74, .int .i64 z75, .int .i64 z76, .string ⟨⟨z77⟩⟩, .int .i64 z78, .int .i64 z79, .int .i64 z80, .int .i64 z81, .int .i64 z82, .int .i64 z83, .int .i64 z84, .int .i64 z85, .int .i64 z86, .int .i64 z87, .int .i64 z88, .int .i64 z89, .int .i64 z90, .slice z91 z92 z93, .int .i64 z94, .int .i64 z95, .int .i64 z96, .int .i64 z97, .slice z98 z99 z100, .slice z101 z102 z103] 0) →
 ∃ (z104 z105 z106 z107 z108 z109 z110 z111 z112 z113 : Int) (z114 : List UInt8) (z115 : Option Addr) (z116 z117 : Nat) (z118 z119 : Int) (z120 : Bool) (z121 z122 z123 z124 z125 z126 z127 z128 z129 : Int) (z130 z131 z132 z133 z134 : Bool) (z135 z136 z137 z138 z139 : Int) (z140 : Option Addr) (z141 z142 : Nat) (z143 z144 z145 z146 : Int) (z147 : Option Addr) (z148 z149 : Nat) (z150 : Option Addr) (z151 z152 : Nat) (z153 : List UInt8) (z154 : Option Addr) (z155 z156 : Nat) (z157 : Option Addr) (z158 z159 : Nat) (z160 z161 z162 : Int) (z163 z164 z165 z166 z167 : Bool) (z168 z169 z170 z171 z172 z173 z174 z175 : Int) (z176 : Bool) (z177 z178 z179 z180 : Int) (z181 : List UInt8) (z182 z183 z184 z185 z186 z187 z188 z189 z190 z191 z192 z193 z194 : Int) (z195 : Option Addr) (z196 z197 : Nat) (z198 z199 z200 z201 : Int) (z202 : Option Addr) (z203 z204 : Nat) (z205 : Option Addr) (z206 z207 : Nat),
 H1.cell H.next (0 + 0) = some (.int .i64 z104) ∧
 H1.cell H.next (0 + 1) = some (.int .i64 z105) ∧
 H1.cell H.next (0 + 2) = some (.int .i64 z106) ∧
 H1.cell H.next (0 + 3) = some (.int .i64 z107) ∧
 H1.cell H.next (0 + 4) = some (.int .i64 z108) ∧
 H1.cell H.next (0 + 5) = some (.int .i64 z109) ∧
 H1.cell H.next (0 + 6) = some (.int .i64 z110) ∧
 H1.cell H.next (0 + 7) = some (.int .i64 z111) ∧
 H1.cell H.next (0 + 8) = some (.int .i64 z112) ∧
 H1.cell H.next (0 + 9) = some (.int .i64 z113) ∧
 H1.cell H.next (0 + 10) = some (.string ⟨⟨z114⟩⟩) ∧
 H1.cell H.next (0 + 11) = some (.slice z115 z116 z117) ∧
 H1.cell H.next (0 + 12) = some (.int .i64 z118) ∧
 H1.cell H.next (0 + 13) = some (.int .i64 z119) ∧
 H1.cell H.next (0 + 14) = some (.bool z120) ∧
 H1.cell H.next (0 + 15) = some (.int .i64 z121) ∧
 H1.cell H.next (0 + 16) = some (.int .i64 z122) ∧
 H1.cell H.next (0 + 17) = some (.int .i64 z123) ∧
 H1.cell H.next (0 + 18) = some (.int .i64 z124) ∧
 H1.cell H.next (0 + 19) = some (.int .i64 z125) ∧
 H1.cell H.next (0 + 20) = some (.int .i64 z126) ∧
 H1.cell H.next (0 + 21) = some (.int .i64 z127) ∧
 H1.cell H.next (0 + 22) = some (.int .i64 z128) ∧
 H1.cell H.next (0 + 23) = some (.int .i64 z129) ∧
 H1.cell H.next (0 + 24) = some (.bool z130) ∧
 H1.cell H.next (0 + 25) = some (.bool z131) ∧
 H1.cell H.next (0 + 26) = some (.bool z132) ∧
 H1.cell H.next (0 + 27) = some (.bool z133) ∧
 H1.cell H.next (0 + 28) = some (.bool z134) ∧
 H1.cell H.next (0 + 29) = some (.int .i64 z135) ∧
 H1.cell H.next (0 + 30) = some (.int .i64 z136) ∧
 H1.cell H.next (0 + 31) = some (.int .i64 z137) ∧
 H1.cell H.next (0 + 32) = some (.int .i64 z138) ∧
 H1.cell H.next (0 + 33) = some (.int .i64 z139) ∧
 H1.cell H.next (0 + 34) = some (.slice z140 z141 z142) ∧
 H1.cell H.next (0 + 35) = some (.int .i64 z143) ∧
 H1.cell H.next (0 + 36) = some (.int .i64 z144) ∧
 H1.cell H.next (0 + 37) = some (.int .i64 z145) ∧
 H1.cell H.next (0 + 38) = some (.int .i64 z146) ∧
 H1.cell H.next (0 + 39) = some (.slice z147 z148 z149) ∧
 H1.cell H.next (0 + 40) = some (.slice z150 z151 z152) ∧
 H1.cell H.next (0 + 41) = some (.string ⟨⟨z153⟩⟩) ∧
 H1.cell H.next (0 + 42) = some (.slice z154 z155 z156) ∧
 H1.cell H.next (0 + 43) = some (.slice z157 z158 z159) ∧
 H1.cell H.next (0 + 44) = some (.int .i64 z160) ∧
 H1.cell H.next (0 + 45) = some (.int .i64 z161) ∧
 H1.cell H.next (0 + 46) = some (.int .i64 z162) ∧
 H1.cell H.next (0 + 47) = some (.bool z163) ∧
 H1.cell H.next (0 + 48) = some (.bool z164) ∧
 H1.cell H.next (0 + 49) = some (.bool z165) ∧
 H1.cell H.next (0 + 50) = some (.bool z166) ∧
 H1.cell H.next (0 + 51) = some (.bool z167) ∧
 H1.cell H.next (0 + 52) = some (.int .i64 z168) ∧
 H1.cell H.next (0 + 53) = some (.int .i64 z169) ∧
 H1.cell H.next (0 + 54) = some (.int .i64 z170) ∧
 H1.cell H.next (0 + 55) = some (.int .i64 z171) ∧
 H1.cell H.next (0 + 56) = some (.int .i64 z172) ∧
 H1.cell H.next (0 + 57) = some (.int .i64 z173) ∧
 H1.cell H.next (0 + 58) = some (.int .i64 z174) ∧
 H1.cell H.next (0 + 59) = some (.int .i64 z175) ∧
 H1.cell H.next (0 + 60) = some (.bool z176) ∧
 H1.cell H.next (0 + 61) = some (.int .i64 z177) ∧
 H1.cell H.next (0 + 62) = some (.int .i64 z178) ∧
 H1.cell H.next (0 + 63) = some (.int .i64 z179) ∧
 H1.cell H.next (0 + 64) = some (.int .i64 z180) ∧
 H1.cell H.next (0 + 65) = some (.string ⟨⟨z181⟩⟩) ∧
 H1.cell H.next (0 + 66) = some (.int .i64 z182) ∧
 H1.cell H.next (0 + 67) = some (.int .i64 z183) ∧
 H1.cell H.next (0 + 68) = some (.int .i64 z184) ∧
 H1.cell H.next (0 + 69) = some (.int .i64 z185) ∧
 H1.cell H.next (0 + 70) = some (.int .i64 z186) ∧
 H1.cell H.next (0 + 71) = some (.int .i64 z187) ∧
 H1.cell H.next (0 + 72) = some (.int .i64 z188) ∧
 H1.cell H.next (0 + 73) = some (.int .i64 z189) ∧
 H1.cell H.next (0 + 74) = some (.int .i64 z190) ∧
 H1.cell H.next (0 + 75) = some (.int .i64 z191) ∧
 H1.cell H.next (0 + 76) = some (.int .i64 z192) ∧
 H1.cell H.next (0 + 77) = some (.int .i64 z193) ∧
 H1.cell H.next (0 + 78) = some (.int .i64 z194) ∧
 H1.cell H.next (0 + 79) = some (.slice z195 z196 z197) ∧
 H1.cell H.next (0 + 80) = some (.int .i64 z198) ∧
 H1.cell H.next (0 + 81) = some (.int .i64 z199) ∧
 H1.cell H.next (0 + 82) = some (.int .i64 z200) ∧
 H1.cell H.next (0 + 83) = some (.int .i64 z201) ∧
 H1.cell H.next (0 + 84) = some (.slice z202 z203 z204) ∧
 H1.cell H.next (0 + 85) = some (.slice z205 z206 z207) ∧
 FW Ee F_serve_Encode [.agg ⟨[.int .i64 z104, .int .i64 z105, .int .i64 z106, .int .i64 z107, .int .i64 z108, .int .i64 z109, .int .i64 z110, .int .i64 z111, .int .i64 z112, .int .i64 z113, .string ⟨⟨z114⟩⟩, .slice z115 z116 z117, .int .i64 z118, .int .i64 z119, .bool z120, .int .i64 z121, .int .i64 z122, .int .i64 z123, .int .i64 z124, .int .i64 z125, .int .i64 z126, .int .i64 z127, .int .i64 z128, .int .i64 z129, .bool z130, .bool z131, .bool z132, .bool z133, .bool z134, .int .i64 z135, .int .i64 z136, .int .i64 z137, .int .i64 z138, .int .i64 z139, .slice z140 z141 z142, .int .i64 z143, .int .i64 z144, .int .i64 z145, .int .i64 z146, .slice z147 z148 z149, .slice z150 z151 z152, .string ⟨⟨z153⟩⟩, .slice z154 z155 z156, .slice z157 z158 z159, .int .i64 z160, .int .i64 z161, .int .i64 z162, .bool z163, .bool z164, .bool z165, .bool z166, .bool z167, .int .i64 z168, .int .i64 z169, .int .i64 z170, .int .i64 z171, .int .i64 z172, .int .i64 z173, .int .i64 z174, .int .i64 z175, .bool z176, .int .i64 z177, .int .i64 z178, .int .i64 z179, .int .i64 z180, .string ⟨⟨z181⟩⟩, .int .i64 z182, .int .i64 z183, .int .i64 z184, .int .i64 z185, .int .i64 z186, .int .i64 z187, .int .i64 z188, .int .i64 z189, .int .i64 z190, .int .i64 z191, .int .i64 z192, .int .i64 z193, .int .i64 z194, .slice z195 z196 z197, .int .i64 z198, .int .i64 z199, .int .i64 z200, .int .i64 z201, .slice z202 z203 z204, .slice z205 z206 z207]⟩] H1 fun v H2 =>
 ∃ (r11 : List UInt8),
 v = .string ⟨⟨r11⟩⟩ ∧
 FW Ee F_serve_Decode [.string ⟨⟨r11⟩⟩] H2 fun v_1 H3 =>
 ∃ (z208 z209 z210 z211 z212 z213 z214 z215 z216 z217 : Int) (z218 : List UInt8) (z219 : Option Addr) (z220 z221 : Nat) (z222 z223 : Int) (z224 : Bool) (z225 z226 z227 z228 z229 z230 z231 z232 z233 : Int) (z234 z235 z236 z237 z238 : Bool) (z239 z240 z241 z242 z243 : Int) (z244 : Option Addr) (z245 z246 : Nat) (z247 z248 z249 z250 : Int) (z251 : Option Addr) (z252 z253 : Nat) (z254 : Option Addr) (z255 z256 : Nat) (z257 : List UInt8) (z258 : Option Addr) (z259 z260 : Nat) (z261 : Option Addr) (z262 z263 : Nat) (z264 z265 z266 : Int) (z267 z268 z269 z270 z271 : Bool) (z272 z273 z274 z275 z276 z277 z278 z279 : Int) (z280 : Bool) (z281 z282 z283 z284 : Int) (z285 : List UInt8) (z286 z287 z288 z289 z290 z291 z292 z293 z294 z295 z296 z297 z298 : Int) (z299 : Option Addr) (z300 z301 : Nat) (z302 z303 z304 z305 : Int) (z306 : Option Addr) (z307 z308 : Nat) (z309 : Option Addr) (z310 z311 : Nat) (z312 : Int),
 v_1 = .tuple ⟨[.agg ⟨[.int .i64 z208, .int .i64 z209, .int .i64 z210, .int .i64 z211, .int .i64 z212, .int .i64 z213, .int .i64 z214, .int .i64 z215, .int .i64 z216, .int .i64 z217, .string ⟨⟨z218⟩⟩, .slice z219 z220 z221, .int .i64 z222, .int .i64 z223, .bool z224, .int .i64 z225, .int .i64 z226, .int .i64 z227, .int .i64 z228, .int .i64 z229, .int .i64 z230, .int .i64 z231, .int .i64 z232, .int .i64 z233, .bool z234, .bool z235, .bool z236, .bool z237, .bool z238, .int .i64 z239, .int .i64 z240, .int .i64 z241, .int .i64 z242, .int .i64 z243, .slice z244 z245 z246, .int .i64 z247, .int .i64 z248, .int .i64 z249, .int .i64 z250, .slice z251 z252 z253, .slice z254 z255 z256, .string ⟨⟨z257⟩⟩, .slice z258 z259 z260, .slice z261 z262 z263, .int .i64 z264, .int .i64 z265, .int .i64 z266, .bool z267, .bool z268, .bool z269, .bool z270, .bool z271, .int .i64 z272, .int .i64 z273, .int .i64 z274, .int .i64 z275, .int .i64 z276, .int .i64 z277, .int .i64 z278, .int .i64 z279, .bool z280, .int .i64 z281, .int .i64 z282, .int .i64 z283, .int .i64 z284, .string ⟨⟨z285⟩⟩, .int .i64 z286, .int .i64 z287, .int .i64 z288, .int .i64 z289, .int .i64 z290, .int .i64 z291, .int .i64 z292, .int .i64 z293, .int .i64 z294, .int .i64 z295, .int .i64 z296, .int .i64 z297, .int .i64 z298, .slice z299 z300 z301, .int .i64 z302, .int .i64 z303, .int .i64 z304, .int .i64 z305, .slice z306 z307 z308, .slice z309 z310 z311]⟩, .int .i64 z312]⟩ ∧
 ∀ (H4 : AH),
 H4 = H3.new (.cells [.int .i64 0, .int .i64 0, .int .i64 0, .int .i64 0, .int .i64 0, .int .i64 0, .int .i64 0, .int .i64 0, .int .i64 0, .int .i64 0, .string ⟨⟨[]⟩⟩, .slice none 0 0, .int .i64 0, .int .i64 0, .bool false, .int .i64 0, .int .i64 0, .int .i64 0, .int .i64 0, .int .i64 0, .int .i64 0, .int .i64 0, .int .i64 0, .int .i64 0, .bool false, .bool false, .bool false, .bool false, .bool false, .int .i64 0, .int .i64 0, .int .i64 0, .int .i64 0, .int .i64 0, .slice none 0 0, .int .i64 0, .int .i64 0, .int .i64 0, .int .i64 0, .slice none 0 0, .slice none 0 0, .string ⟨⟨[]⟩⟩, .slice none 0 0, .slice none 0 0, .int .i64 0, .int .i64 0, .int .i64 0, .bool false, .bool false, .bool false, .bool false, .bool false, .int .i64 0, .int .i64 0, .int .i64 0, .int .i64 0, .int .i64 0, .int .i64 0, .int .i64 0, .int .i64 0, .bool false, .int .i64 0, .int .i64 0, .int .i64 0, .int .i64 0, .string ⟨⟨[]⟩⟩, .int .i64 0, .int .i64 0, .int .i64 0, .int .i64 0, .int .i64 0, .int .i64 0, .int .i64 0, .int .i64 0, .int .i64 0, .int .i64 0, .int .i64 0, .int .i64 0, .int .i64 0, .slice none 0 0, .int .i64 0, .int .i64 0, .int .i64 0, .int .i64 0, .slice none 0 0, .slice none 0 0] 0) →
 ∃ (H5 : AH),
 storeCellsv H4 H3.next 0 [.int .i64 z208, .int .i64 z209, .int .i64 z210, .int .i64 z211, .int .i64 z212, .int .i64 z213, .int .i64 z214, .int .i64 z215, .int .i64 z216, .int .i64 z217, .string ⟨⟨z218⟩⟩, .slice z219 z220 z221, .int .i64 z222, .int .i64 z223, .bool z224, .int .i64 z225, .int .i64 z226, .int .i64 z227, .int .i64 z228, .int .i64 z229, .int .i64 z230, .int .i64 z231, .int .i64 z232, .int .i64 z233, .bool z234, .bool z235, .bool z236, .bool z237, .bool z238, .int .i64 z239, .int .i64 z240, .int .i64 z241, .int .i64 z242, .int .i64 z243, .slice z244 z245 z246, .int .i64 z247, .int .i64 z248, .int .i64 z249, .int .i64 z250, .slice z251 z252 z253, .slice z254 z255 z256, .string ⟨⟨z257⟩⟩, .slice z258 z259 z260, .slice z261 z262 z263, .int .i64 z264, .int .i64 z265, .int .i64 z266, .bool z267, .bool z268, .bool z269, .bool z270, .bool z271, .int .i64 z272, .int .i64 z273, .int .i64 z274, .int .i64 z275, .int .i64 z276, .int .i64 z277, .int .i64 z278, .int .i64 z279, .bool z280, .int .i64 z281, .int .i64 z282, .int .i64 z283, .int .i64 z284, .string ⟨⟨z285⟩⟩, .int .i64 z286, .int .i64 z287, .int .i64 z288, .int .i64 z289, .int .i64 z290, .int .i64 z291, .int .i64 z292, .int .i64 z293, .int .i64 z294, .int .i64 z295, .int .i64 z296, .int .i64 z297, .int .i64 z298, .slice z299 z300 z301, .int .i64 z302, .int .i64 z303, .int .i64 z304, .int .i64 z305, .slice z306 z307 z308, .slice z309 z310 z311] = some H5 ∧
 FW Ee F_cohortlaw18_awake [] H5 fun v_2 H6 =>
 ∃ (r17 : Bool),
 v_2 = .bool r17 ∧
 cond (!r17) (
 Q (.bool false) H6) (
 cond (z312 == 0) (
 ∃ (z313 z314 z315 z316 z317 z318 z319 z320 z321 z322 : Int) (z323 : List UInt8) (z324 : Option Addr) (z325 z326 : Nat) (z327 z328 : Int) (z329 : Bool) (z330 z331 z332 z333 z334 z335 z336 z337 z338 : Int) (z339 z340 z341 z342 z343 : Bool) (z344 z345 z346 z347 z348 : Int) (z349 : Option Addr) (z350 z351 : Nat) (z352 z353 z354 z355 : Int) (z356 : Option Addr) (z357 z358 : Nat) (z359 : Option Addr) (z360 z361 : Nat) (z362 : List UInt8) (z363 : Option Addr) (z364 z365 : Nat) (z366 : Option Addr) (z367 z368 : Nat) (z369 z370 z371 : Int) (z372 z373 z374 z375 z376 : Bool) (z377 z378 z379 z380 z381 z382 z383 z384 : Int) (z385 : Bool) (z386 z387 z388 z389 : Int) (z390 : List UInt8) (z391 z392 z393 z394 z395 z396 z397 z398 z399 z400 z401 z402 z403 : Int) (z404 : Option Addr) (z405 z406 : Nat) (z407 z408 z409 z410 : Int) (z411 : Option Addr) (z412 z413 : Nat) (z414 : Option Addr) (z415 z416 : Nat),
 H6.cell H3.next (0 + 0) = some (.int .i64 z313) ∧
 H6.cell H3.next (0 + 1) = some (.int .i64 z314) ∧
 H6.cell H3.next (0 + 2) = some (.int .i64 z315) ∧
 H6.cell H3.next (0 + 3) = some (.int .i64 z316) ∧
 H6.cell H3.next (0 + 4) = some (.int .i64 z317) ∧
 H6.cell H3.next (0 + 5) = some (.int .i64 z318) ∧
 H6.cell H3.next (0 + 6) = some (.int .i64 z319) ∧
 H6.cell H3.next (0 + 7) = some (.int .i64 z320) ∧
 H6.cell H3.next (0 + 8) = some (.int .i64 z321) ∧
 H6.cell H3.next (0 + 9) = some (.int .i64 z322) ∧
 H6.cell H3.next (0 + 10) = some (.string ⟨⟨z323⟩⟩) ∧
 H6.cell H3.next (0 + 11) = some (.slice z324 z325 z326) ∧
 H6.cell H3.next (0 + 12) = some (.int .i64 z327) ∧
 H6.cell H3.next (0 + 13) = some (.int .i64 z328) ∧
 H6.cell H3.next (0 + 14) = some (.bool z329) ∧
 H6.cell H3.next (0 + 15) = some (.int .i64 z330) ∧
 H6.cell H3.next (0 + 16) = some (.int .i64 z331) ∧
 H6.cell H3.next (0 + 17) = some (.int .i64 z332) ∧
 H6.cell H3.next (0 + 18) = some (.int .i64 z333) ∧
 H6.cell H3.next (0 + 19) = some (.int .i64 z334) ∧
 H6.cell H3.next (0 + 20) = some (.int .i64 z335) ∧
 H6.cell H3.next (0 + 21) = some (.int .i64 z336) ∧
 H6.cell H3.next (0 + 22) = some (.int .i64 z337) ∧
 H6.cell H3.next (0 + 23) = some (.int .i64 z338) ∧
 H6.cell H3.next (0 + 24) = some (.bool z339) ∧
 H6.cell H3.next (0 + 25) = some (.bool z340) ∧
 H6.cell H3.next (0 + 26) = some (.bool z341) ∧
 H6.cell H3.next (0 + 27) = some (.bool z342) ∧
 H6.cell H3.next (0 + 28) = some (.bool z343) ∧
 H6.cell H3.next (0 + 29) = some (.int .i64 z344) ∧
 H6.cell H3.next (0 + 30) = some (.int .i64 z345) ∧
 H6.cell H3.next (0 + 31) = some (.int .i64 z346) ∧
 H6.cell H3.next (0 + 32) = some (.int .i64 z347) ∧
 H6.cell H3.next (0 + 33) = some (.int .i64 z348) ∧
 H6.cell H3.next (0 + 34) = some (.slice z349 z350 z351) ∧
 H6.cell H3.next (0 + 35) = some (.int .i64 z352) ∧
 H6.cell H3.next (0 + 36) = some (.int .i64 z353) ∧
 H6.cell H3.next (0 + 37) = some (.int .i64 z354) ∧
 H6.cell H3.next (0 + 38) = some (.int .i64 z355) ∧
 H6.cell H3.next (0 + 39) = some (.slice z356 z357 z358) ∧
 H6.cell H3.next (0 + 40) = some (.slice z359 z360 z361) ∧
 H6.cell H3.next (0 + 41) = some (.string ⟨⟨z362⟩⟩) ∧
 H6.cell H3.next (0 + 42) = some (.slice z363 z364 z365) ∧
 H6.cell H3.next (0 + 43) = some (.slice z366 z367 z368) ∧
 H6.cell H3.next (0 + 44) = some (.int .i64 z369) ∧
 H6.cell H3.next (0 + 45) = some (.int .i64 z370) ∧
 H6.cell H3.next (0 + 46) = some (.int .i64 z371) ∧
 H6.cell H3.next (0 + 47) = some (.bool z372) ∧
 H6.cell H3.next (0 + 48) = some (.bool z373) ∧
 H6.cell H3.next (0 + 49) = some (.bool z374) ∧
 H6.cell H3.next (0 + 50) = some (.bool z375) ∧
 H6.cell H3.next (0 + 51) = some (.bool z376) ∧
 H6.cell H3.next (0 + 52) = some (.int .i64 z377) ∧
 H6.cell H3.next (0 + 53) = some (.int .i64 z378) ∧
 H6.cell H3.next (0 + 54) = some (.int .i64 z379) ∧
 H6.cell H3.next (0 + 55) = some (.int .i64 z380) ∧
 H6.cell H3.next (0 + 56) = some (.int .i64 z381) ∧
 H6.cell H3.next (0 + 57) = some (.int .i64 z382) ∧
 H6.cell H3.next (0 + 58) = some (.int .i64 z383) ∧
 H6.cell H3.next (0 + 59) = some (.int .i64 z384) ∧
 H6.cell H3.next (0 + 60) = some (.bool z385) ∧
 H6.cell H3.next (0 + 61) = some (.int .i64 z386) ∧
 H6.cell H3.next (0 + 62) = some (.int .i64 z387) ∧
 H6.cell H3.next (0 + 63) = some (.int .i64 z388) ∧
 H6.cell H3.next (0 + 64) = some (.int .i64 z389) ∧
 H6.cell H3.next (0 + 65) = some (.string ⟨⟨z390⟩⟩) ∧
 H6.cell H3.next (0 + 66) = some (.int .i64 z391) ∧
 H6.cell H3.next (0 + 67) = some (.int .i64 z392) ∧
 H6.cell H3.next (0 + 68) = some (.int .i64 z393) ∧
 H6.cell H3.next (0 + 69) = some (.int .i64 z394) ∧
 H6.cell H3.next (0 + 70) = some (.int .i64 z395) ∧
 H6.cell H3.next (0 + 71) = some (.int .i64 z396) ∧
 H6.cell H3.next (0 + 72) = some (.int .i64 z397) ∧
 H6.cell H3.next (0 + 73) = some (.int .i64 z398) ∧
 H6.cell H3.next (0 + 74) = some (.int .i64 z399) ∧
 H6.cell H3.next (0 + 75) = some (.int .i64 z400) ∧
 H6.cell H3.next (0 + 76) = some (.int .i64 z401) ∧
 H6.cell H3.next (0 + 77) = some (.int .i64 z402) ∧
 H6.cell H3.next (0 + 78) = some (.int .i64 z403) ∧
 H6.cell H3.next (0 + 79) = some (.slice z404 z405 z406) ∧
 H6.cell H3.next (0 + 80) = some (.int .i64 z407) ∧
 H6.cell H3.next (0 + 81) = some (.int .i64 z408) ∧
 H6.cell H3.next (0 + 82) = some (.int .i64 z409) ∧
 H6.cell H3.next (0 + 83) = some (.int .i64 z410) ∧
 H6.cell H3.next (0 + 84) = some (.slice z411 z412 z413) ∧
 H6.cell H3.next (0 + 85) = some (.slice z414 z415 z416) ∧
 FW Ee F_serve_Encode [.agg ⟨[.int .i64 z313, .int .i64 z314, .int .i64 z315, .int .i64 z316, .int .i64 z317, .int .i64 z318, .int .i64 z319, .int .i64 z320, .int .i64 z321, .int .i64 z322, .string ⟨⟨z323⟩⟩, .slice z324 z325 z326, .int .i64 z327, .int .i64 z328, .bool z329, .int .i64 z330, .int .i64 z331, .int .i64 z332, .int .i64 z333, .int .i64 z334, .int .i64 z335, .int .i64 z336, .int .i64 z337, .int .i64 z338, .bool z339, .bool z340, .bool z341, .bool z342, .bool z343, .int .i64 z344, .int .i64 z345, .int .i64 z346, .int .i64 z347, .int .i64 z348, .slice z349 z350 z351, .int .i64 z352, .int .i64 z353, .int .i64 z354, .int .i64 z355, .slice z356 z357 z358, .slice z359 z360 z361, .string ⟨⟨z362⟩⟩, .slice z363 z364 z365, .slice z366 z367 z368, .int .i64 z369, .int .i64 z370, .int .i64 z371, .bool z372, .bool z373, .bool z374, .bool z375, .bool z376, .int .i64 z377, .int .i64 z378, .int .i64 z379, .int .i64 z380, .int .i64 z381, .int .i64 z382, .int .i64 z383, .int .i64 z384, .bool z385, .int .i64 z386, .int .i64 z387, .int .i64 z388, .int .i64 z389, .string ⟨⟨z390⟩⟩, .int .i64 z391, .int .i64 z392, .int .i64 z393, .int .i64 z394, .int .i64 z395, .int .i64 z396, .int .i64 z397, .int .i64 z398, .int .i64 z399, .int .i64 z400, .int .i64 z401, .int .i64 z402, .int .i64 z403, .slice z404 z405 z406, .int .i64 z407, .int .i64 z408, .int .i64 z409, .int .i64 z410, .slice z411 z412 z413, .slice z414 z415 z416]⟩] H6 fun v_3 H7 =>
 ∃ (r24 : List UInt8),
 v_3 = .string ⟨⟨r24⟩⟩ ∧
 cond (!((r24 : List UInt8) == r11)) (
 Q (.bool false) H7) (
 FW Ee F_serve_Decode [.string ⟨⟨s1⟩⟩] H7 fun v_4 H8 =>
 ∃ (z417 z418 z419 z420 z421 z422 z423 z424 z425 z426 : Int) (z427 : List UInt8) (z428 : Option Addr) (z429 z430 : Nat) (z431 z432 : Int) (z433 : Bool) (z434 z435 z436 z437 z438 z439 z440 z441 z442 : Int) (z443 z444 z445 z446 z447 : Bool) (z448 z449 z450 z451 z452 : Int) (z453 : Option Addr) (z454 z455 : Nat) (z456 z457 z458 z459 : Int) (z460 : Option Addr) (z461 z462 : Nat) (z463 : Option Addr) (z464 z465 : Nat) (z466 : List UInt8) (z467 : Option Addr) (z468 z469 : Nat) (z470 : Option Addr) (z471 z472 : Nat) (z473 z474 z475 : Int) (z476 z477 z478 z479 z480 : Bool) (z481 z482 z483 z484 z485 z486 z487 z488 : Int) (z489 : Bool) (z490 z491 z492 z493 : Int) (z494 : List UInt8) (z495 z496 z497 z498 z499 z500 z501 z502 z503 z504 z505 z506 z507 : Int) (z508 : Option Addr) (z509 z510 : Nat) (z511 z512 z513 z514 : Int) (z515 : Option Addr) (z516 z517 : Nat) (z518 : Option Addr) (z519 z520 : Nat) (z521 : Int),
 v_4 = .tuple ⟨[.agg ⟨[.int .i64 z417, .int .i64 z418, .int .i64 z419, .int .i64 z420, .int .i64 z421, .int .i64 z422, .int .i64 z423, .int .i64 z424, .int .i64 z425, .int .i64 z426, .string ⟨⟨z427⟩⟩, .slice z428 z429 z430, .int .i64 z431, .int .i64 z432, .bool z433, .int .i64 z434, .int .i64 z435, .int .i64 z436, .int .i64 z437, .int .i64 z438, .int .i64 z439, .int .i64 z440, .int .i64 z441, .int .i64 z442, .bool z443, .bool z444, .bool z445, .bool z446, .bool z447, .int .i64 z448, .int .i64 z449, .int .i64 z450, .int .i64 z451, .int .i64 z452, .slice z453 z454 z455, .int .i64 z456, .int .i64 z457, .int .i64 z458, .int .i64 z459, .slice z460 z461 z462, .slice z463 z464 z465, .string ⟨⟨z466⟩⟩, .slice z467 z468 z469, .slice z470 z471 z472, .int .i64 z473, .int .i64 z474, .int .i64 z475, .bool z476, .bool z477, .bool z478, .bool z479, .bool z480, .int .i64 z481, .int .i64 z482, .int .i64 z483, .int .i64 z484, .int .i64 z485, .int .i64 z486, .int .i64 z487, .int .i64 z488, .bool z489, .int .i64 z490, .int .i64 z491, .int .i64 z492, .int .i64 z493, .string ⟨⟨z494⟩⟩, .int .i64 z495, .int .i64 z496, .int .i64 z497, .int .i64 z498, .int .i64 z499, .int .i64 z500, .int .i64 z501, .int .i64 z502, .int .i64 z503, .int .i64 z504, .int .i64 z505, .int .i64 z506, .int .i64 z507, .slice z508 z509 z510, .int .i64 z511, .int .i64 z512, .int .i64 z513, .int .i64 z514, .slice z515 z516 z517, .slice z518 z519 z520]⟩, .int .i64 z521]⟩ ∧
 ∀ (H9 : AH),
 H9 = H8.new (.cells [.int .i64 0, .int .i64 0, .int .i64 0, .int .i64 0, .int .i64 0, .int .i64 0, .int .i64 0, .int .i64 0, .int .i64 0, .int .i64 0, .string ⟨⟨[]⟩⟩, .slice none 0 0, .int .i64 0, .int .i64 0, .bool false, .int .i64 0, .int .i64 0, .int .i64 0, .int .i64 0, .int .i64 0, .int .i64 0, .int .i64 0, .int .i64 0, .int .i64 0, .bool false, .bool false, .bool false, .bool false, .bool false, .int .i64 0, .int .i64 0, .int .i64 0, .int .i64 0, .int .i64 0, .slice none 0 0, .int .i64 0, .int .i64 0, .int .i64 0, .int .i64 0, .slice none 0 0, .slice none 0 0, .string ⟨⟨[]⟩⟩, .slice none 0 0, .slice none 0 0, .int .i64 0, .int .i64 0, .int .i64 0, .bool false, .bool false, .bool false, .bool false, .bool false, .int .i64 0, .int .i64 0, .int .i64 0, .int .i64 0, .int .i64 0, .int .i64 0, .int .i64 0, .int .i64 0, .bool false, .int .i64 0, .int .i64 0, .int .i64 0, .int .i64 0, .string ⟨⟨[]⟩⟩, .int .i64 0, .int .i64 0, .int .i64 0, .int .i64 0, .int .i64 0, .int .i64 0, .int .i64 0, .int .i64 0, .int .i64 0, .int .i64 0, .int .i64 0, .int .i64 0, .int .i64 0, .slice none 0 0, .int .i64 0, .int .i64 0, .int .i64 0, .int .i64 0, .slice none 0 0, .slice none 0 0] 0) →
 ∃ (H10 : AH),
 storeCellsv H9 H8.next 0 [.int .i64 z417, .int .i64 z418, .int .i64 z419, .int .i64 z420, .int .i64 z421, .int .i64 z422, .int .i64 z423, .int .i64 z424, .int .i64 z425, .int .i64 z426, .string ⟨⟨z427⟩⟩, .slice z428 z429 z430, .int .i64 z431, .int .i64 z432, .bool z433, .int .i64 z434, .int .i64 z435, .int .i64 z436, .int .i64 z437, .int .i64 z438, .int .i64 z439, .int .i64 z440, .int .i64 z441, .int .i64 z442, .bool z443, .bool z444, .bool z445, .bool z446, .bool z447, .int .i64 z448, .int .i64 z449, .int .i64 z450, .int .i64 z451, .int .i64 z452, .slice z453 z454 z455, .int .i64 z456, .int .i64 z457, .int .i64 z458, .int .i64 z459, .slice z460 z461 z462, .slice z463 z464 z465, .string ⟨⟨z466⟩⟩, .slice z467 z468 z469, .slice z470 z471 z472, .int .i64 z473, .int .i64 z474, .int .i64 z475, .bool z476, .bool z477, .bool z478, .bool z479, .bool z480, .int .i64 z481, .int .i64 z482, .int .i64 z483, .int .i64 z484, .int .i64 z485, .int .i64 z486, .int .i64 z487, .int .i64 z488, .bool z489, .int .i64 z490, .int .i64 z491, .int .i64 z492, .int .i64 z493, .string ⟨⟨z494⟩⟩, .int .i64 z495, .int .i64 z496, .int .i64 z497, .int .i64 z498, .int .i64 z499, .int .i64 z500, .int .i64 z501, .int .i64 z502, .int .i64 z503, .int .i64 z504, .int .i64 z505, .int .i64 z506, .int .i64 z507, .slice z508 z509 z510, .int .i64 z511, .int .i64 z512, .int .i64 z513, .int .i64 z514, .slice z515 z516 z517, .slice z518 z519 z520] = some H10 ∧
 cond (z521 != 0) (
 ∃ (t37 : Int),
 H10.cell H8.next 0 = some (.int .i64 t37) ∧
 Q (.bool (t37 == 0)) H10) (
 ∃ (z522 z523 z524 z525 z526 z527 z528 z529 z530 z531 : Int) (z532 : List UInt8) (z533 : Option Addr) (z534 z535 : Nat) (z536 z537 : Int) (z538 : Bool) (z539 z540 z541 z542 z543 z544 z545 z546 z547 : Int) (z548 z549 z550 z551 z552 : Bool) (z553 z554 z555 z556 z557 : Int) (z558 : Option Addr) (z559 z560 : Nat) (z561 z562 z563 z564 : Int) (z565 : Option Addr) (z566 z567 : Nat) (z568 : Option Addr) (z569 z570 : Nat) (z571 : List UInt8) (z572 : Option Addr) (z573 z574 : Nat) (z575 : Option Addr) (z576 z577 : Nat) (z578 z579 z580 : Int) (z581 z582 z583 z584 z585 : Bool) (z586 z587 z588 z589 z590 z591 z592 z593 : Int) (z594 : Bool) (z595 z596 z597 z598 : Int) (z599 : List UInt8) (z600 z601 z602 z603 z604 z605 z606 z607 z608 z609 z610 z611 z612 : Int) (z613 : Option Addr) (z614 z615 : Nat) (z616 z617 z618 z619 : Int) (z620 : Option Addr) (z621 z622 : Nat) (z623 : Option Addr) (z624 z625 : Nat),
 H10.cell H8.next (0 + 0) = some (.int .i64 z522) ∧
 H10.cell H8.next (0 + 1) = some (.int .i64 z523) ∧
 H10.cell H8.next (0 + 2) = some (.int .i64 z524) ∧
 H10.cell H8.next (0 + 3) = some (.int .i64 z525) ∧
 H10.cell H8.next (0 + 4) = some (.int .i64 z526) ∧
 H10.cell H8.next (0 + 5) = some (.int .i64 z527) ∧
 H10.cell H8.next (0 + 6) = some (.int .i64 z528) ∧
 H10.cell H8.next (0 + 7) = some (.int .i64 z529) ∧
 H10.cell H8.next (0 + 8) = some (.int .i64 z530) ∧
 H10.cell H8.next (0 + 9) = some (.int .i64 z531) ∧
 H10.cell H8.next (0 + 10) = some (.string ⟨⟨z532⟩⟩) ∧
 H10.cell H8.next (0 + 11) = some (.slice z533 z534 z535) ∧
 H10.cell H8.next (0 + 12) = some (.int .i64 z536) ∧
 H10.cell H8.next (0 + 13) = some (.int .i64 z537) ∧
 H10.cell H8.next (0 + 14) = some (.bool z538) ∧
 H10.cell H8.next (0 + 15) = some (.int .i64 z539) ∧
 H10.cell H8.next (0 + 16) = some (.int .i64 z540) ∧
 H10.cell H8.next (0 + 17) = some (.int .i64 z541) ∧
 H10.cell H8.next (0 + 18) = some (.int .i64 z542) ∧
 H10.cell H8.next (0 + 19) = some (.int .i64 z543) ∧
 H10.cell H8.next (0 + 20) = some (.int .i64 z544) ∧
 H10.cell H8.next (0 + 21) = some (.int .i64 z545) ∧
 H10.cell H8.next (0 + 22) = some (.int .i64 z546) ∧
 H10.cell H8.next (0 + 23) = some (.int .i64 z547) ∧
 H10.cell H8.next (0 + 24) = some (.bool z548) ∧
 H10.cell H8.next (0 + 25) = some (.bool z549) ∧
 H10.cell H8.next (0 + 26) = some (.bool z550) ∧
 H10.cell H8.next (0 + 27) = some (.bool z551) ∧
 H10.cell H8.next (0 + 28) = some (.bool z552) ∧
 H10.cell H8.next (0 + 29) = some (.int .i64 z553) ∧
 H10.cell H8.next (0 + 30) = some (.int .i64 z554) ∧
 H10.cell H8.next (0 + 31) = some (.int .i64 z555) ∧
 H10.cell H8.next (0 + 32) = some (.int .i64 z556) ∧
 H10.cell H8.next (0 + 33) = some (.int .i64 z557) ∧
 H10.cell H8.next (0 + 34) = some (.slice z558 z559 z560) ∧
 H10.cell H8.next (0 + 35) = some (.int .i64 z561) ∧
 H10.cell H8.next (0 + 36) = some (.int .i64 z562) ∧
 H10.cell H8.next (0 + 37) = some (.int .i64 z563) ∧
 H10.cell H8.next (0 + 38) = some (.int .i64 z564) ∧
 H10.cell H8.next (0 + 39) = some (.slice z565 z566 z567) ∧
 H10.cell H8.next (0 + 40) = some (.slice z568 z569 z570) ∧
 H10.cell H8.next (0 + 41) = some (.string ⟨⟨z571⟩⟩) ∧
 H10.cell H8.next (0 + 42) = some (.slice z572 z573 z574) ∧
 H10.cell H8.next (0 + 43) = some (.slice z575 z576 z577) ∧
 H10.cell H8.next (0 + 44) = some (.int .i64 z578) ∧
 H10.cell H8.next (0 + 45) = some (.int .i64 z579) ∧
 H10.cell H8.next (0 + 46) = some (.int .i64 z580) ∧
 H10.cell H8.next (0 + 47) = some (.bool z581) ∧
 H10.cell H8.next (0 + 48) = some (.bool z582) ∧
 H10.cell H8.next (0 + 49) = some (.bool z583) ∧
 H10.cell H8.next (0 + 50) = some (.bool z584) ∧
 H10.cell H8.next (0 + 51) = some (.bool z585) ∧
 H10.cell H8.next (0 + 52) = some (.int .i64 z586) ∧
 H10.cell H8.next (0 + 53) = some (.int .i64 z587) ∧
 H10.cell H8.next (0 + 54) = some (.int .i64 z588) ∧
 H10.cell H8.next (0 + 55) = some (.int .i64 z589) ∧
 H10.cell H8.next (0 + 56) = some (.int .i64 z590) ∧
 H10.cell H8.next (0 + 57) = some (.int .i64 z591) ∧
 H10.cell H8.next (0 + 58) = some (.int .i64 z592) ∧
 H10.cell H8.next (0 + 59) = some (.int .i64 z593) ∧
 H10.cell H8.next (0 + 60) = some (.bool z594) ∧
 H10.cell H8.next (0 + 61) = some (.int .i64 z595) ∧
 H10.cell H8.next (0 + 62) = some (.int .i64 z596) ∧
 H10.cell H8.next (0 + 63) = some (.int .i64 z597) ∧
 H10.cell H8.next (0 + 64) = some (.int .i64 z598) ∧
 H10.cell H8.next (0 + 65) = some (.string ⟨⟨z599⟩⟩) ∧
 H10.cell H8.next (0 + 66) = some (.int .i64 z600) ∧
 H10.cell H8.next (0 + 67) = some (.int .i64 z601) ∧
 H10.cell H8.next (0 + 68) = some (.int .i64 z602) ∧
 H10.cell H8.next (0 + 69) = some (.int .i64 z603) ∧
 H10.cell H8.next (0 + 70) = some (.int .i64 z604) ∧
 H10.cell H8.next (0 + 71) = some (.int .i64 z605) ∧
 H10.cell H8.next (0 + 72) = some (.int .i64 z606) ∧
 H10.cell H8.next (0 + 73) = some (.int .i64 z607) ∧
 H10.cell H8.next (0 + 74) = some (.int .i64 z608) ∧
 H10.cell H8.next (0 + 75) = some (.int .i64 z609) ∧
 H10.cell H8.next (0 + 76) = some (.int .i64 z610) ∧
 H10.cell H8.next (0 + 77) = some (.int .i64 z611) ∧
 H10.cell H8.next (0 + 78) = some (.int .i64 z612) ∧
 H10.cell H8.next (0 + 79) = some (.slice z613 z614 z615) ∧
 H10.cell H8.next (0 + 80) = some (.int .i64 z616) ∧
 H10.cell H8.next (0 + 81) = some (.int .i64 z617) ∧
 H10.cell H8.next (0 + 82) = some (.int .i64 z618) ∧
 H10.cell H8.next (0 + 83) = some (.int .i64 z619) ∧
 H10.cell H8.next (0 + 84) = some (.slice z620 z621 z622) ∧
 H10.cell H8.next (0 + 85) = some (.slice z623 z624 z625) ∧
 FW Ee F_serve_Encode [.agg ⟨[.int .i64 z522, .int .i64 z523, .int .i64 z524, .int .i64 z525, .int .i64 z526, .int .i64 z527, .int .i64 z528, .int .i64 z529, .int .i64 z530, .int .i64 z531, .string ⟨⟨z532⟩⟩, .slice z533 z534 z535, .int .i64 z536, .int .i64 z537, .bool z538, .int .i64 z539, .int .i64 z540, .int .i64 z541, .int .i64 z542, .int .i64 z543, .int .i64 z544, .int .i64 z545, .int .i64 z546, .int .i64 z547, .bool z548, .bool z549, .bool z550, .bool z551, .bool z552, .int .i64 z553, .int .i64 z554, .int .i64 z555, .int .i64 z556, .int .i64 z557, .slice z558 z559 z560, .int .i64 z561, .int .i64 z562, .int .i64 z563, .int .i64 z564, .slice z565 z566 z567, .slice z568 z569 z570, .string ⟨⟨z571⟩⟩, .slice z572 z573 z574, .slice z575 z576 z577, .int .i64 z578, .int .i64 z579, .int .i64 z580, .bool z581, .bool z582, .bool z583, .bool z584, .bool z585, .int .i64 z586, .int .i64 z587, .int .i64 z588, .int .i64 z589, .int .i64 z590, .int .i64 z591, .int .i64 z592, .int .i64 z593, .bool z594, .int .i64 z595, .int .i64 z596, .int .i64 z597, .int .i64 z598, .string ⟨⟨z599⟩⟩, .int .i64 z600, .int .i64 z601, .int .i64 z602, .int .i64 z603, .int .i64 z604, .int .i64 z605, .int .i64 z606, .int .i64 z607, .int .i64 z608, .int .i64 z609, .int .i64 z610, .int .i64 z611, .int .i64 z612, .slice z613 z614 z615, .int .i64 z616, .int .i64 z617, .int .i64 z618, .int .i64 z619, .slice z620 z621 z622, .slice z623 z624 z625]⟩] H10 fun v_5 H11 =>
 ∃ (r40 : List UInt8),
 v_5 = .string ⟨⟨r40⟩⟩ ∧
 cond ((r40 : List UInt8) == s1) (
 ∃ (t45 : Int),
 H11.cell H8.next 0 = some (.int .i64 t45) ∧
 cond (decide (t45 ≥ 1)) (
 ∃ (t50 : Int),
 H11.cell H8.next 0 = some (.int .i64 t50) ∧
 Q (.bool (decide (t50 ≤ 8))) H11) (
 Q (.bool false) H11)) (
 Q (.bool false) H11)))) (
 FW Ee F_serve_Decode [.string ⟨⟨s1⟩⟩] H6 fun v_6 H12 =>
 ∃ (z626 z627 z628 z629 z630 z631 z632 z633 z634 z635 : Int) (z636 : List UInt8) (z637 : Option Addr) (z638 z639 : Nat) (z640 z641 : Int) (z642 : Bool) (z643 z644 z645 z646 z647 z648 z649 z650 z651 : Int) (z652 z653 z654 z655 z656 : Bool) (z657 z658 z659 z660 z661 : Int) (z662 : Option Addr) (z663 z664 : Nat) (z665 z666 z667 z668 : Int) (z669 : Option Addr) (z670 z671 : Nat) (z672 : Option Addr) (z673 z674 : Nat) (z675 : List UInt8) (z676 : Option Addr) (z677 z678 : Nat) (z679 : Option Addr) (z680 z681 : Nat) (z682 z683 z684 : Int) (z685 z686 z687 z688 z689 : Bool) (z690 z691 z692 z693 z694 z695 z696 z697 : Int) (z698 : Bool) (z699 z700 z701 z702 : Int) (z703 : List UInt8) (z704 z705 z706 z707 z708 z709 z710 z711 z712 z713 z714 z715 z716 : Int) (z717 : Option Addr) (z718 z719 : Nat) (z720 z721 z722 z723 : Int) (z724 : Option Addr) (z725 z726 : Nat) (z727 : Option Addr) (z728 z729 : Nat) (z730 : Int),
 v_6 = .tuple ⟨[.agg ⟨[.int .i64 z626, .int .i64 z627, .int .i64 z628, .int .i64 z629, .int .i64 z630, .int .i64 z631, .int .i64 z632, .int .i64 z633, .int .i64 z634, .int .i64 z635, .string ⟨⟨z636⟩⟩, .slice z637 z638 z639, .int .i64 z640, .int .i64 z641, .bool z642, .int .i64 z643, .int .i64 z644, .int .i64 z645, .int .i64 z646, .int .i64 z647, .int .i64 z648, .int .i64 z649, .int .i64 z650, .int .i64 z651, .bool z652, .bool z653, .bool z654, .bool z655, .bool z656, .int .i64 z657, .int .i64 z658, .int .i64 z659, .int .i64 z660, .int .i64 z661, .slice z662 z663 z664, .int .i64 z665, .int .i64 z666, .int .i64 z667, .int .i64 z668, .slice z669 z670 z671, .slice z672 z673 z674, .string ⟨⟨z675⟩⟩, .slice z676 z677 z678, .slice z679 z680 z681, .int .i64 z682, .int .i64 z683, .int .i64 z684, .bool z685, .bool z686, .bool z687, .bool z688, .bool z689, .int .i64 z690, .int .i64 z691, .int .i64 z692, .int .i64 z693, .int .i64 z694, .int .i64 z695, .int .i64 z696, .int .i64 z697, .bool z698, .int .i64 z699, .int .i64 z700, .int .i64 z701, .int .i64 z702, .string ⟨⟨z703⟩⟩, .int .i64 z704, .int .i64 z705, .int .i64 z706, .int .i64 z707, .int .i64 z708, .int .i64 z709, .int .i64 z710, .int .i64 z711, .int .i64 z712, .int .i64 z713, .int .i64 z714, .int .i64 z715, .int .i64 z716, .slice z717 z718 z719, .int .i64 z720, .int .i64 z721, .int .i64 z722, .int .i64 z723, .slice z724 z725 z726, .slice z727 z728 z729]⟩, .int .i64 z730]⟩ ∧
 ∀ (H13 : AH),
 H13 = H12.new (.cells [.int .i64 0, .int .i64 0, .int .i64 0, .int .i64 0, .int .i64 0, .int .i64 0, .int .i64 0, .int .i64 0, .int .i64 0, .int .i64 0, .string ⟨⟨[]⟩⟩, .slice none 0 0, .int .i64 0, .int .i64 0, .bool false, .int .i64 0, .int .i64 0, .int .i64 0, .int .i64 0, .int .i64 0, .int .i64 0, .int .i64 0, .int .i64 0, .int .i64 0, .bool false, .bool false, .bool false, .bool false, .bool false, .int .i64 0, .int .i64 0, .int .i64 0, .int .i64 0, .int .i64 0, .slice none 0 0, .int .i64 0, .int .i64 0, .int .i64 0, .int .i64 0, .slice none 0 0, .slice none 0 0, .string ⟨⟨[]⟩⟩, .slice none 0 0, .slice none 0 0, .int .i64 0, .int .i64 0, .int .i64 0, .bool false, .bool false, .bool false, .bool false, .bool false, .int .i64 0, .int .i64 0, .int .i64 0, .int .i64 0, .int .i64 0, .int .i64 0, .int .i64 0, .int .i64 0, .bool false, .int .i64 0, .int .i64 0, .int .i64 0, .int .i64 0, .string ⟨⟨[]⟩⟩, .int .i64 0, .int .i64 0, .int .i64 0, .int .i64 0, .int .i64 0, .int .i64 0, .int .i64 0, .int .i64 0, .int .i64 0, .int .i64 0, .int .i64 0, .int .i64 0, .int .i64 0, .slice none 0 0, .int .i64 0, .int .i64 0, .int .i64 0, .int .i64 0, .slice none 0 0, .slice none 0 0] 0) →
 ∃ (H14 : AH),
 storeCellsv H13 H12.next 0 [.int .i64 z626, .int .i64 z627, .int .i64 z628, .int .i64 z629, .int .i64 z630, .int .i64 z631, .int .i64 z632, .int .i64 z633, .int .i64 z634, .int .i64 z635, .string ⟨⟨z636⟩⟩, .slice z637 z638 z639, .int .i64 z640, .int .i64 z641, .bool z642, .int .i64 z643, .int .i64 z644, .int .i64 z645, .int .i64 z646, .int .i64 z647, .int .i64 z648, .int .i64 z649, .int .i64 z650, .int .i64 z651, .bool z652, .bool z653, .bool z654, .bool z655, .bool z656, .int .i64 z657, .int .i64 z658, .int .i64 z659, .int .i64 z660, .int .i64 z661, .slice z662 z663 z664, .int .i64 z665, .int .i64 z666, .int .i64 z667, .int .i64 z668, .slice z669 z670 z671, .slice z672 z673 z674, .string ⟨⟨z675⟩⟩, .slice z676 z677 z678, .slice z679 z680 z681, .int .i64 z682, .int .i64 z683, .int .i64 z684, .bool z685, .bool z686, .bool z687, .bool z688, .bool z689, .int .i64 z690, .int .i64 z691, .int .i64 z692, .int .i64 z693, .int .i64 z694, .int .i64 z695, .int .i64 z696, .int .i64 z697, .bool z698, .int .i64 z699, .int .i64 z700, .int .i64 z701, .int .i64 z702, .string ⟨⟨z703⟩⟩, .int .i64 z704, .int .i64 z705, .int .i64 z706, .int .i64 z707, .int .i64 z708, .int .i64 z709, .int .i64 z710, .int .i64 z711, .int .i64 z712, .int .i64 z713, .int .i64 z714, .int .i64 z715, .int .i64 z716, .slice z717 z718 z719, .int .i64 z720, .int .i64 z721, .int .i64 z722, .int .i64 z723, .slice z724 z725 z726, .slice z727 z728 z729] = some H14 ∧
 cond (z730 != 0) (
 ∃ (z731 : Int),
 H14.cell H12.next 0 = some (.int .i64 z731) ∧
 Q (.bool (z731 == 0)) H14) (
 ∃ (z732 z733 z734 z735 z736 z737 z738 z739 z740 z741 : Int) (z742 : List UInt8) (z743 : Option Addr) (z744 z745 : Nat) (z746 z747 : Int) (z748 : Bool) (z749 z750 z751 z752 z753 z754 z755 z756 z757 : Int) (z758 z759 z760 z761 z762 : Bool) (z763 z764 z765 z766 z767 : Int) (z768 : Option Addr) (z769 z770 : Nat) (z771 z772 z773 z774 : Int) (z775 : Option Addr) (z776 z777 : Nat) (z778 : Option Addr) (z779 z780 : Nat) (z781 : List UInt8) (z782 : Option Addr) (z783 z784 : Nat) (z785 : Option Addr) (z786 z787 : Nat) (z788 z789 z790 : Int) (z791 z792 z793 z794 z795 : Bool) (z796 z797 z798 z799 z800 z801 z802 z803 : Int) (z804 : Bool) (z805 z806 z807 z808 : Int) (z809 : List UInt8) (z810 z811 z812 z813 z814 z815 z816 z817 z818 z819 z820 z821 z822 : Int) (z823 : Option Addr) (z824 z825 : Nat) (z826 z827 z828 z829 : Int) (z830 : Option Addr) (z831 z832 : Nat) (z833 : Option Addr) (z834 z835 : Nat),
 H14.cell H12.next (0 + 0) = some (.int .i64 z732) ∧
 H14.cell H12.next (0 + 1) = some (.int .i64 z733) ∧
 H14.cell H12.next (0 + 2) = some (.int .i64 z734) ∧
 H14.cell H12.next (0 + 3) = some (.int .i64 z735) ∧
 H14.cell H12.next (0 + 4) = some (.int .i64 z736) ∧
 H14.cell H12.next (0 + 5) = some (.int .i64 z737) ∧
 H14.cell H12.next (0 + 6) = some (.int .i64 z738) ∧
 H14.cell H12.next (0 + 7) = some (.int .i64 z739) ∧
 H14.cell H12.next (0 + 8) = some (.int .i64 z740) ∧
 H14.cell H12.next (0 + 9) = some (.int .i64 z741) ∧
 H14.cell H12.next (0 + 10) = some (.string ⟨⟨z742⟩⟩) ∧
 H14.cell H12.next (0 + 11) = some (.slice z743 z744 z745) ∧
 H14.cell H12.next (0 + 12) = some (.int .i64 z746) ∧
 H14.cell H12.next (0 + 13) = some (.int .i64 z747) ∧
 H14.cell H12.next (0 + 14) = some (.bool z748) ∧
 H14.cell H12.next (0 + 15) = some (.int .i64 z749) ∧
 H14.cell H12.next (0 + 16) = some (.int .i64 z750) ∧
 H14.cell H12.next (0 + 17) = some (.int .i64 z751) ∧
 H14.cell H12.next (0 + 18) = some (.int .i64 z752) ∧
 H14.cell H12.next (0 + 19) = some (.int .i64 z753) ∧
 H14.cell H12.next (0 + 20) = some (.int .i64 z754) ∧
 H14.cell H12.next (0 + 21) = some (.int .i64 z755) ∧
 H14.cell H12.next (0 + 22) = some (.int .i64 z756) ∧
 H14.cell H12.next (0 + 23) = some (.int .i64 z757) ∧
 H14.cell H12.next (0 + 24) = some (.bool z758) ∧
 H14.cell H12.next (0 + 25) = some (.bool z759) ∧
 H14.cell H12.next (0 + 26) = some (.bool z760) ∧
 H14.cell H12.next (0 + 27) = some (.bool z761) ∧
 H14.cell H12.next (0 + 28) = some (.bool z762) ∧
 H14.cell H12.next (0 + 29) = some (.int .i64 z763) ∧
 H14.cell H12.next (0 + 30) = some (.int .i64 z764) ∧
 H14.cell H12.next (0 + 31) = some (.int .i64 z765) ∧
 H14.cell H12.next (0 + 32) = some (.int .i64 z766) ∧
 H14.cell H12.next (0 + 33) = some (.int .i64 z767) ∧
 H14.cell H12.next (0 + 34) = some (.slice z768 z769 z770) ∧
 H14.cell H12.next (0 + 35) = some (.int .i64 z771) ∧
 H14.cell H12.next (0 + 36) = some (.int .i64 z772) ∧
 H14.cell H12.next (0 + 37) = some (.int .i64 z773) ∧
 H14.cell H12.next (0 + 38) = some (.int .i64 z774) ∧
 H14.cell H12.next (0 + 39) = some (.slice z775 z776 z777) ∧
 H14.cell H12.next (0 + 40) = some (.slice z778 z779 z780) ∧
 H14.cell H12.next (0 + 41) = some (.string ⟨⟨z781⟩⟩) ∧
 H14.cell H12.next (0 + 42) = some (.slice z782 z783 z784) ∧
 H14.cell H12.next (0 + 43) = some (.slice z785 z786 z787) ∧
 H14.cell H12.next (0 + 44) = some (.int .i64 z788) ∧
 H14.cell H12.next (0 + 45) = some (.int .i64 z789) ∧
 H14.cell H12.next (0 + 46) = some (.int .i64 z790) ∧
 H14.cell H12.next (0 + 47) = some (.bool z791) ∧
 H14.cell H12.next (0 + 48) = some (.bool z792) ∧
 H14.cell H12.next (0 + 49) = some (.bool z793) ∧
 H14.cell H12.next (0 + 50) = some (.bool z794) ∧
 H14.cell H12.next (0 + 51) = some (.bool z795) ∧
 H14.cell H12.next (0 + 52) = some (.int .i64 z796) ∧
 H14.cell H12.next (0 + 53) = some (.int .i64 z797) ∧
 H14.cell H12.next (0 + 54) = some (.int .i64 z798) ∧
 H14.cell H12.next (0 + 55) = some (.int .i64 z799) ∧
 H14.cell H12.next (0 + 56) = some (.int .i64 z800) ∧
 H14.cell H12.next (0 + 57) = some (.int .i64 z801) ∧
 H14.cell H12.next (0 + 58) = some (.int .i64 z802) ∧
 H14.cell H12.next (0 + 59) = some (.int .i64 z803) ∧
 H14.cell H12.next (0 + 60) = some (.bool z804) ∧
 H14.cell H12.next (0 + 61) = some (.int .i64 z805) ∧
 H14.cell H12.next (0 + 62) = some (.int .i64 z806) ∧
 H14.cell H12.next (0 + 63) = some (.int .i64 z807) ∧
 H14.cell H12.next (0 + 64) = some (.int .i64 z808) ∧
 H14.cell H12.next (0 + 65) = some (.string ⟨⟨z809⟩⟩) ∧
 H14.cell H12.next (0 + 66) = some (.int .i64 z810) ∧
 H14.cell H12.next (0 + 67) = some (.int .i64 z811) ∧
 H14.cell H12.next (0 + 68) = some (.int .i64 z812) ∧
 H14.cell H12.next (0 + 69) = some (.int .i64 z813) ∧
 H14.cell H12.next (0 + 70) = some (.int .i64 z814) ∧
 H14.cell H12.next (0 + 71) = some (.int .i64 z815) ∧
 H14.cell H12.next (0 + 72) = some (.int .i64 z816) ∧
 H14.cell H12.next (0 + 73) = some (.int .i64 z817) ∧
 H14.cell H12.next (0 + 74) = some (.int .i64 z818) ∧
 H14.cell H12.next (0 + 75) = some (.int .i64 z819) ∧
 H14.cell H12.next (0 + 76) = some (.int .i64 z820) ∧
 H14.cell H12.next (0 + 77) = some (.int .i64 z821) ∧
 H14.cell H12.next (0 + 78) = some (.int .i64 z822) ∧
 H14.cell H12.next (0 + 79) = some (.slice z823 z824 z825) ∧
 H14.cell H12.next (0 + 80) = some (.int .i64 z826) ∧
 H14.cell H12.next (0 + 81) = some (.int .i64 z827) ∧
 H14.cell H12.next (0 + 82) = some (.int .i64 z828) ∧
 H14.cell H12.next (0 + 83) = some (.int .i64 z829) ∧
 H14.cell H12.next (0 + 84) = some (.slice z830 z831 z832) ∧
 H14.cell H12.next (0 + 85) = some (.slice z833 z834 z835) ∧
 FW Ee F_serve_Encode [.agg ⟨[.int .i64 z732, .int .i64 z733, .int .i64 z734, .int .i64 z735, .int .i64 z736, .int .i64 z737, .int .i64 z738, .int .i64 z739, .int .i64 z740, .int .i64 z741, .string ⟨⟨z742⟩⟩, .slice z743 z744 z745, .int .i64 z746, .int .i64 z747, .bool z748, .int .i64 z749, .int .i64 z750, .int .i64 z751, .int .i64 z752, .int .i64 z753, .int .i64 z754, .int .i64 z755, .int .i64 z756, .int .i64 z757, .bool z758, .bool z759, .bool z760, .bool z761, .bool z762, .int .i64 z763, .int .i64 z764, .int .i64 z765, .int .i64 z766, .int .i64 z767, .slice z768 z769 z770, .int .i64 z771, .int .i64 z772, .int .i64 z773, .int .i64 z774, .slice z775 z776 z777, .slice z778 z779 z780, .string ⟨⟨z781⟩⟩, .slice z782 z783 z784, .slice z785 z786 z787, .int .i64 z788, .int .i64 z789, .int .i64 z790, .bool z791, .bool z792, .bool z793, .bool z794, .bool z795, .int .i64 z796, .int .i64 z797, .int .i64 z798, .int .i64 z799, .int .i64 z800, .int .i64 z801, .int .i64 z802, .int .i64 z803, .bool z804, .int .i64 z805, .int .i64 z806, .int .i64 z807, .int .i64 z808, .string ⟨⟨z809⟩⟩, .int .i64 z810, .int .i64 z811, .int .i64 z812, .int .i64 z813, .int .i64 z814, .int .i64 z815, .int .i64 z816, .int .i64 z817, .int .i64 z818, .int .i64 z819, .int .i64 z820, .int .i64 z821, .int .i64 z822, .slice z823 z824 z825, .int .i64 z826, .int .i64 z827, .int .i64 z828, .int .i64 z829, .slice z830 z831 z832, .slice z833 z834 z835]⟩] H14 fun v_7 H15 =>
 ∃ (z836 : List UInt8),
 v_7 = .string ⟨⟨z836⟩⟩ ∧
 cond ((z836 : List UInt8) == s1) (
 ∃ (z837 : Int),
 H15.cell H12.next 0 = some (.int .i64 z837) ∧
 cond (decide (z837 ≥ 1)) (
 ∃ (z838 : Int),
 H15.cell H12.next 0 = some (.int .i64 z838) ∧
 Q (.bool (decide (z838 ≤ 8))) H15) (
 Q (.bool false) H15)) (
 Q (.bool false) H15))))
set_option maxRecDepth 100000 in
theorem fw_cohortlaw18_ServeSays {z0 z1 z2 z3 z4 z5 z6 z7 z8 z9 : Int} {z10 : List UInt8} {z11 : Option Addr} {z12 z13 : Nat} {z14 z15 : Int} {z16 : Bool} {z17 z18 z19 z20 z21 z22 z23 z24 z25 : Int} {z26 z27 z28 z29 z30 : Bool} {z31 z32 z33 z34 z35 : Int} {z36 : Option Addr} {z37 z38 : Nat} {z39 z40 z41 z42 : Int} {z43 : Option Addr} {z44 z45 : Nat} {z46 : Option Addr} {z47 z48 : Nat} {z49 : List UInt8} {z50 : Option Addr} {z51 z52 : Nat} {z53 : Option Addr} {z54 z55 : Nat} {z56 z57 z58 : Int} {z59 z60 z61 z62 z63 : Bool} {z64 z65 z66 z67 z68 z69 z70 z71 : Int} {z72 : Bool} {z73 z74 z75 z76 : Int} {z77 : List UInt8} {z78 z79 z80 z81 z82 z83 z84 z85 z86 z87 z88 z89 z90 : Int} {z91 : Option Addr} {z92 z93 : Nat} {z94 z95 z96 z97 : Int} {z98 : Option Addr} {z99 z100 : Nat} {z101 : Option Addr} {z102 z103 : Nat} {s1 : List UInt8} {H : AH} {Q : Value → AH → Prop} (h : VC_cohortlaw18_ServeSays z0 z1 z2 z3 z4 z5 z6 z7 z8 z9 z10 z11 z12 z13 z14 z15 z16 z17 z18 z19 z20 z21 z22 z23 z24 z25 z26 z27 z28 z29 z30 z31 z32 z33 z34 z35 z36 z37 z38 z39 z40 z41 z42 z43 z44 z45 z46 z47 z48 z49 z50 z51 z52 z53 z54 z55 z56 z57 z58 z59 z60 z61 z62 z63 z64 z65 z66 z67 z68 z69 z70 z71 z72 z73 z74 z75 z76 z77 z78 z79 z80 z81 z82 z83 z84 z85 z86 z87 z88 z89 z90 z91 z92 z93 z94 z95 z96 z97 z98 z99 z100 z101 z102 z103 s1 H Q) : FW Ee F_cohortlaw18_ServeSays [.agg ⟨[.int .i64 z0, .int .i64 z1, .int .i64 z2, .int .i64 z3, .int .i64 z4, .int .i64 z5, .int .i64 z6, .int .i64 z7, .int .i64 z8, .int .i64 z9, .string ⟨⟨z10⟩⟩, .slice z11 z12 z13, .int .i64 z14, .int .i64 z15, .bool z16, .int .i64 z17, .int .i64 z18, .int .i64 z19, .int .i64 z20, .int .i64 z21, .int .i64 z22, .int .i64 z23, .int .i64 z24, .int .i64 z25, .bool z26, .bool z27, .bool z28, .bool z29, .bool z30, .int .i64 z31, .int .i64 z32, .int .i64 z33, .int .i64 z34, .int .i64 z35, .slice z36 z37 z38, .int .i64 z39, .int .i64 z40, .int .i64 z41, .int .i64 z42, .slice z43 z44 z45, .slice z46 z47 z48, .string ⟨⟨z49⟩⟩, .slice z50 z51 z52, .slice z53 z54 z55, .int .i64 z56, .int .i64 z57, .int .i64 z58, .bool z59, .bool z60, .bool z61, .bool z62, .bool z63, .int .i64 z64, .int .i64 z65, .int .i64 z66, .int .i64 z67, .int .i64 z68, .int .i64 z69, .int .i64 z70, .int .i64 z71, .bool z72, .int .i64 z73, .int .i64 z74, .int .i64 z75, .int .i64 z76, .string ⟨⟨z77⟩⟩, .int .i64 z78, .int .i64 z79, .int .i64 z80, .int .i64 z81, .int .i64 z82, .int .i64 z83, .int .i64 z84, .int .i64 z85, .int .i64 z86, .int .i64 z87, .int .i64 z88, .int .i64 z89, .int .i64 z90, .slice z91 z92 z93, .int .i64 z94, .int .i64 z95, .int .i64 z96, .int .i64 z97, .slice z98 z99 z100, .slice z101 z102 z103]⟩, .string ⟨⟨s1⟩⟩] H Q :=
  letI : Sy := sy0
  wpF_sound (A := ⟨[], []⟩) (Eq.mp (by kernel_rfl) h)
end Go.Proofs.Cx
