/-
  No cell of these rows narrows 'for every input' (looked for: loops, veiled, ifaces, maps, wideKeys, modest, calm, conditions, laid).
  DERIVED. THE GIVEN ROWS OF THIS SEAT. 5 by the template 'for every input the law returns true; each argument reads behind the call as it read before'; 0 by the template 'total and deterministic' (their statements: YtkkcknfeljgdcaaGreatTotals.lean).
  GIVEN WITH THE SEED: the statements are not yours to turn. If you find one false, say at which input.
  Laid BY PROGRAM, IN A SANDBOX (cutbox-rows.mjs): the forced cells as the released guide's own fill.sh prints them over the translation 43d1efbfc04812b2… (all of the seat's roots in one cut). By AI agents, Wed Nov 11 2026. No macro, syntax, notation, axiom, sorry.
-/
import Derived.Test.YtkkcknfeljgdcaaGreatChecked
import GoSem.Claim
import GoSem.ClaimJoined
import GoSem.ClaimMapViews
import Derived.JoinedTies
import Derived.KernelRfl
namespace Go.Proofs.YtkkcknfeljgdcaaGreat
/- THE CELL 'sum', in the pinned program and in every row, IS THE sha256 OF THE DUMP (.gsa) THAT YtkkcknfeljgdcaaGreatProg.lean LOADS. Nothing in Lean hashes anything: it is a label: what it is worth is what the hold of that sum in a sandbox is worth. -/
noncomputable def Tryz.pinned : Pinned := { name := "ytkkcknfeljgdcaagreat", sum := "43d1efbfc04812b221045c979aea62d8c91fba3999aaa8a47703ec6f724666ae", checked := Tryz.checked }
namespace Rows
def none {H : Type} : Left H := { results := [], args := [] }

/-- 'cohortlaw17.MasterTexts': WHATEVER THE INPUT: true; the input reads as it did. -/
def masterTextsSpec : ChangeSpec := { name := "masterTexts", fn := fun _ => fun
  | [d1, d2, d3] => { results := [.lit (.bool true)], args := [d1, d2, d3] }
  | _ => none }
def masterTextsRow : OpenClaim := { program := "ytkkcknfeljgdcaagreat", sum := "43d1efbfc04812b221045c979aea62d8c91fba3999aaa8a47703ec6f724666ae", func := "cohort/cohortlaw17.MasterTexts", spec := "masterTexts", unfollowed := true, recurses := true, apart := false }
def MasterTextsSaid : Prop := masterTextsRow.holds Tryz.pinned (OpenSpec.ofChange masterTextsSpec)

/-- ITS FALSE NEIGHBOUR: 'it returns false'. Refute it at one input. -/
def masterTextsWrong : ChangeSpec := { name := "masterTexts", fn := fun _ => fun
  | [d1, d2, d3] => { results := [.lit (.bool false)], args := [d1, d2, d3] }
  | _ => none }
def MasterTextsWrongFalsely : Prop := masterTextsRow.holds Tryz.pinned (OpenSpec.ofChange masterTextsWrong)

/-- 'cohortlaw17.MasterBytes': WHATEVER THE INPUT: true; the input reads as it did. -/
def masterBytesSpec : ChangeSpec := { name := "masterBytes", fn := fun _ => fun
  | [d1, d2] => { results := [.lit (.bool true)], args := [d1, d2] }
  | _ => none }
def masterBytesRow : OpenClaim := { program := "ytkkcknfeljgdcaagreat", sum := "43d1efbfc04812b221045c979aea62d8c91fba3999aaa8a47703ec6f724666ae", func := "cohort/cohortlaw17.MasterBytes", spec := "masterBytes", unfollowed := true, recurses := true, apart := false }
def MasterBytesSaid : Prop := masterBytesRow.holds Tryz.pinned (OpenSpec.ofChange masterBytesSpec)

/-- ITS FALSE NEIGHBOUR: 'it returns false'. Refute it at one input. -/
def masterBytesWrong : ChangeSpec := { name := "masterBytes", fn := fun _ => fun
  | [d1, d2] => { results := [.lit (.bool false)], args := [d1, d2] }
  | _ => none }
def MasterBytesWrongFalsely : Prop := masterBytesRow.holds Tryz.pinned (OpenSpec.ofChange masterBytesWrong)

/-- 'cohortlaw17.MasterNil': WHATEVER THE INPUT: true; the input reads as it did. -/
def masterNilSpec : ChangeSpec := { name := "masterNil", fn := fun _ => fun
  | [d1, d2] => { results := [.lit (.bool true)], args := [d1, d2] }
  | _ => none }
def masterNilRow : OpenClaim := { program := "ytkkcknfeljgdcaagreat", sum := "43d1efbfc04812b221045c979aea62d8c91fba3999aaa8a47703ec6f724666ae", func := "cohort/cohortlaw17.MasterNil", spec := "masterNil", unfollowed := true, recurses := true, apart := false }
def MasterNilSaid : Prop := masterNilRow.holds Tryz.pinned (OpenSpec.ofChange masterNilSpec)

/-- ITS FALSE NEIGHBOUR: 'it returns false'. Refute it at one input. -/
def masterNilWrong : ChangeSpec := { name := "masterNil", fn := fun _ => fun
  | [d1, d2] => { results := [.lit (.bool false)], args := [d1, d2] }
  | _ => none }
def MasterNilWrongFalsely : Prop := masterNilRow.holds Tryz.pinned (OpenSpec.ofChange masterNilWrong)

/-- 'cohortlaw17.MasterLives': WHATEVER THE INPUT: true; the input reads as it did. -/
def masterLivesSpec : ChangeSpec := { name := "masterLives", fn := fun _ => fun
  | [d] => { results := [.lit (.bool true)], args := [d] }
  | _ => none }
def masterLivesRow : OpenClaim := { program := "ytkkcknfeljgdcaagreat", sum := "43d1efbfc04812b221045c979aea62d8c91fba3999aaa8a47703ec6f724666ae", func := "cohort/cohortlaw17.MasterLives", spec := "masterLives", unfollowed := true, recurses := true, apart := false }
def MasterLivesSaid : Prop := masterLivesRow.holds Tryz.pinned (OpenSpec.ofChange masterLivesSpec)

/-- ITS FALSE NEIGHBOUR: 'it returns false'. Refute it at one input. -/
def masterLivesWrong : ChangeSpec := { name := "masterLives", fn := fun _ => fun
  | [d] => { results := [.lit (.bool false)], args := [d] }
  | _ => none }
def MasterLivesWrongFalsely : Prop := masterLivesRow.holds Tryz.pinned (OpenSpec.ofChange masterLivesWrong)

/-- 'cohortlaw17.MasterStale': WHATEVER THE INPUT: true; the input reads as it did. -/
def masterStaleSpec : ChangeSpec := { name := "masterStale", fn := fun _ => fun
  | [d1, d2, d3] => { results := [.lit (.bool true)], args := [d1, d2, d3] }
  | _ => none }
def masterStaleRow : OpenClaim := { program := "ytkkcknfeljgdcaagreat", sum := "43d1efbfc04812b221045c979aea62d8c91fba3999aaa8a47703ec6f724666ae", func := "cohort/cohortlaw17.MasterStale", spec := "masterStale", unfollowed := true, recurses := true, apart := false }
def MasterStaleSaid : Prop := masterStaleRow.holds Tryz.pinned (OpenSpec.ofChange masterStaleSpec)

/-- ITS FALSE NEIGHBOUR: 'it returns false'. Refute it at one input. -/
def masterStaleWrong : ChangeSpec := { name := "masterStale", fn := fun _ => fun
  | [d1, d2, d3] => { results := [.lit (.bool false)], args := [d1, d2, d3] }
  | _ => none }
def MasterStaleWrongFalsely : Prop := masterStaleRow.holds Tryz.pinned (OpenSpec.ofChange masterStaleWrong)

/- THE SECOND FORM. 'bulk': how many values and letters a reading holds, each counted each time it is reached (what is shared counts as often as it is met; a slice's spare places count too). A statement '..UptoSaid' is the law's where the arguments, and the package variables that the reading takes, are together of bulk at most 1048576: NARROWER than '..Said'. Prove '..Said' where nothing that the law and all that it calls make is longer than what came in: it says more and counts as full. Else prove '..UptoSaid'. A law counts once. -/
mutual
def uptoBulk {H : Type} : DataW H → Nat
  | .lit (.string bytes) => bytes.length + 1
  | .lit _ => 1
  | .nil => 1
  | .ptr d => uptoBulk d + 1
  | .slice elems spare => uptoBulkAll elems + uptoBulkAll spare + 1
  | .agg parts => uptoBulkAll parts + 1
  | .iface _ d => uptoBulk d + 1
  | .map entries => uptoBulkEntries entries + 1
  | .held _ => 1
def uptoBulkAll {H : Type} : List (DataW H) → Nat
  | [] => 0
  | d :: r => uptoBulk d + uptoBulkAll r
def uptoBulkEntries {H : Type} : List (Lit × DataW H) → Nat
  | [] => 0
  | x :: r => uptoBulkEntry x + uptoBulkEntries r
def uptoBulkEntry {H : Type} : Lit × DataW H → Nat
  | (.string bytes, d) => bytes.length + uptoBulk d + 1
  | (_, d) => uptoBulk d + 1
 end
def uptoSmall : (H : Type) → List (DataW H) → Bool := fun _ ds => decide (uptoBulkAll ds ≤ 1048576)
def OpenSpec.upto (s : _root_.Go.ChangeSpec) : _root_.Go.OpenSpec := { _root_.Go.OpenSpec.ofChange s with cond := some uptoSmall }

/-- 'cohortlaw17.MasterTexts', WHERE WHAT IT READS IS OF BULK AT MOST 1048576: true; the input reads as it did. -/
def masterTextsUptoRow : OpenClaim := { program := "ytkkcknfeljgdcaagreat", sum := "43d1efbfc04812b221045c979aea62d8c91fba3999aaa8a47703ec6f724666ae", func := "cohort/cohortlaw17.MasterTexts", spec := "masterTexts", unfollowed := true, recurses := true, apart := false, narrowed := true }
def MasterTextsUptoSaid : Prop := masterTextsUptoRow.holds Tryz.pinned (OpenSpec.upto masterTextsSpec)

/-- 'cohortlaw17.MasterBytes', WHERE WHAT IT READS IS OF BULK AT MOST 1048576: true; the input reads as it did. -/
def masterBytesUptoRow : OpenClaim := { program := "ytkkcknfeljgdcaagreat", sum := "43d1efbfc04812b221045c979aea62d8c91fba3999aaa8a47703ec6f724666ae", func := "cohort/cohortlaw17.MasterBytes", spec := "masterBytes", unfollowed := true, recurses := true, apart := false, narrowed := true }
def MasterBytesUptoSaid : Prop := masterBytesUptoRow.holds Tryz.pinned (OpenSpec.upto masterBytesSpec)

/-- 'cohortlaw17.MasterNil', WHERE WHAT IT READS IS OF BULK AT MOST 1048576: true; the input reads as it did. -/
def masterNilUptoRow : OpenClaim := { program := "ytkkcknfeljgdcaagreat", sum := "43d1efbfc04812b221045c979aea62d8c91fba3999aaa8a47703ec6f724666ae", func := "cohort/cohortlaw17.MasterNil", spec := "masterNil", unfollowed := true, recurses := true, apart := false, narrowed := true }
def MasterNilUptoSaid : Prop := masterNilUptoRow.holds Tryz.pinned (OpenSpec.upto masterNilSpec)

/-- 'cohortlaw17.MasterLives', WHERE WHAT IT READS IS OF BULK AT MOST 1048576: true; the input reads as it did. -/
def masterLivesUptoRow : OpenClaim := { program := "ytkkcknfeljgdcaagreat", sum := "43d1efbfc04812b221045c979aea62d8c91fba3999aaa8a47703ec6f724666ae", func := "cohort/cohortlaw17.MasterLives", spec := "masterLives", unfollowed := true, recurses := true, apart := false, narrowed := true }
def MasterLivesUptoSaid : Prop := masterLivesUptoRow.holds Tryz.pinned (OpenSpec.upto masterLivesSpec)

/-- 'cohortlaw17.MasterStale', WHERE WHAT IT READS IS OF BULK AT MOST 1048576: true; the input reads as it did. -/
def masterStaleUptoRow : OpenClaim := { program := "ytkkcknfeljgdcaagreat", sum := "43d1efbfc04812b221045c979aea62d8c91fba3999aaa8a47703ec6f724666ae", func := "cohort/cohortlaw17.MasterStale", spec := "masterStale", unfollowed := true, recurses := true, apart := false, narrowed := true }
def MasterStaleUptoSaid : Prop := masterStaleUptoRow.holds Tryz.pinned (OpenSpec.upto masterStaleSpec)

end Rows
end Go.Proofs.YtkkcknfeljgdcaaGreat
