/- Tasks: what is put is taken. Tasks that are taken. MasterTexts: small jobs, what comes in. MasterTexts: the law, as formulas have it. MasterTexts: what comes in. -/
import Derived.Test.YtkkcknfeljgdcaaGreatC4
import Derived.Test.YtkkcknfeljgdcaaGreatVc1
import Derived.Test.YtkkcknfeljgdcaaGreatVc2
import Derived.Test.YtkkcknfeljgdcaaGreatB3
namespace Go.Ev
open Go
abbrev Sl3 := Option Addr × Nat × Nat
def sv (x : Sl3) : Value := .slice x.1 x.2.1 x.2.2
structure TaskW where
  f : Nat → Int
  L : Nat → List Int
  h : Nat → Bool
  v : Nat → Int
  j : JobW
  k : Bool
end Go.Ev
namespace Go.Proofs.Cx
open Go Go.Ev
section
variable {H : AH} {b : Nat} {s bs t : List UInt8} {p : Nat}
end
end Go.Proofs.Cx

namespace Go.Proofs.Cx
open Go Go.Ev
section
variable {H : AH} {b : Nat} {s bs t : List UInt8} {p : Nat}
end
end Go.Proofs.Cx

namespace Go.Ev
open Go
def seqB : List Bool → Option Bool
  | [] => some true
  | b :: l => match some b with
    | some true => seqB l
    | r => r
end Go.Ev
namespace Go.Proofs.Cx
open Go Go.Ev
end Go.Proofs.Cx

namespace Go.Ev
open Go
theorem iand_le {x : Int} {m : Nat} (hm : m < 4611686018427387904) : 0 ≤ iand .i64 x (m : Int) ∧ iand .i64 x (m : Int) ≤ m := by
  have h : (BitVec.ofInt IntKind.i64.bits x &&& BitVec.ofInt IntKind.i64.bits (m : Int)).toNat ≤ m := by
    show (BitVec.ofInt 64 x &&& BitVec.ofInt 64 (m : Int)).toNat ≤ m
    rw [ofInt_nat, BitVec.toNat_and, BitVec.toNat_ofNat, Nat.mod_eq_of_lt (by omega)]
    exact Nat.and_le_right
  unfold iand
  rw [wrap_i64 (by omega) (by omega)]
  exact ⟨by omega, by omega⟩
end Go.Ev
namespace Go.Proofs.Cx
open Go Go.Ev
theorem awake17_ok {H : AH} : FW Ee F_cohortlaw17_awake [] H fun v H' => v = .bool true ∧ H = H' := by
  have e : (evalN Ee 1).call F_cohortlaw17_awake [] H = some (.bool true, H) := by kernel_rfl
  exact ⟨1, _, _, e, rfl, rfl⟩
end Go.Proofs.Cx

namespace Go.Proofs.Cx
open Go Go.Ev Go.RowKit
abbrev RI : AH → List Value → Int → Prop := RInt .i64
section
variable {Hh : Type} {enc : TypeId × Value → Hh} {W : World} [Sy]
end
end Go.Proofs.Cx
