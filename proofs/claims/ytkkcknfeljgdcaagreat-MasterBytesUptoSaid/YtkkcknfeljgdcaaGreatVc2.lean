/- What calls come to, as formulas: printed by a program. What calls come to, as formulas: printed by a program. What calls come to, as formulas: printed by a program. What calls come to, as formulas: printed by a program. What calls come to, as formulas: printed by a program. -/
import Derived.Test.YtkkcknfeljgdcaaGreatVc0
namespace Go.Proofs.Cx
open Go Go.Ev
set_option linter.unusedVariables false
set_option maxRecDepth 100000
set_option maxHeartbeats 8000000
end Go.Proofs.Cx

namespace Go.Proofs.Cx
open Go Go.Ev
set_option linter.unusedVariables false
set_option maxRecDepth 100000
set_option maxHeartbeats 8000000
/-- cohort/sess.New -/
def VC_sess_New  (H : AH) (Q : Value → AH → Prop) : Prop :=
 ∀ (H1 : AH),
 H1 = H.new (.map [] 0) →
 ∀ (H2 : AH),
 H2 = H1.new (.cells [.map (some H.next)] 0) →
 Q (.pointer (some ⟨H1.next, 0, none⟩)) H2
set_option maxRecDepth 100000 in
theorem fw_sess_New  {H : AH} {Q : Value → AH → Prop} (h : VC_sess_New  H Q) : FW Ee F_sess_New [] H Q := by
  have e : VC_sess_New  H Q = wpF Ee ⟨[], []⟩ F_sess_New [] H Q := by kernel_rfl
  letI : Sy := sy0
  exact wpF_sound (Eq.mp e h)
/-- cohort/master.New -/
def VC_master_New  (H : AH) (Q : Value → AH → Prop) : Prop :=
 FW Ee F_sess_New [] H fun v H1 =>
 ∃ (r1 : Option Addr),
 v = .pointer r1 ∧
 ∀ (H2 : AH),
 H2 = H1.new (.map [] 0) →
 ∀ (H3 : AH),
 H3 = H2.new (.map [] 0) →
 ∀ (H4 : AH),
 H4 = H3.new (.cells [.pointer r1, .map (some H1.next), .map (some H2.next), .int .i64 0, .int .i64 0] 0) →
 Q (.pointer (some ⟨H3.next, 0, none⟩)) H4
set_option maxRecDepth 100000 in
theorem fw_master_New  {H : AH} {Q : Value → AH → Prop} (h : VC_master_New  H Q) : FW Ee F_master_New [] H Q := by
  have e : VC_master_New  H Q = wpF Ee ⟨[], []⟩ F_master_New [] H Q := by kernel_rfl
  letI : Sy := sy0
  exact wpF_sound (Eq.mp e h)
end Go.Proofs.Cx

namespace Go.Proofs.Cx
open Go Go.Ev
set_option linter.unusedVariables false
set_option maxRecDepth 100000
set_option maxHeartbeats 8000000
end Go.Proofs.Cx

namespace Go.Proofs.Cx
open Go Go.Ev
set_option linter.unusedVariables false
set_option maxRecDepth 100000
set_option maxHeartbeats 8000000
end Go.Proofs.Cx

namespace Go.Proofs.Cx
open Go Go.Ev
set_option linter.unusedVariables false
set_option maxRecDepth 100000
set_option maxHeartbeats 8000000
end Go.Proofs.Cx
