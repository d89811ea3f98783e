/-
  No cell of these rows narrows 'for every input' (looked for: loops, veiled, ifaces, maps, wideKeys, modest, calm, conditions, laid).
  DERIVED. THE GIVEN ROWS OF THIS SEAT. 2 by the template 'for every input the law returns true; each argument reads behind the call as it read before'; 0 by the template 'total and deterministic' (their statements: YtkegomailfhnpaaGreatTotals.lean).
  GIVEN WITH THE SEED: the statements are not yours to turn. If you find one false, say at which input.
  Laid BY PROGRAM, IN A SANDBOX (cutbox-rows.mjs): the forced cells as the released guide's own fill.sh prints them over the translation 1bde69a17eb2c3e2… (all of the seat's roots in one cut). By AI agents, Wed Nov 11 2026. No macro, syntax, notation, axiom, sorry.
-/
import Derived.Test.YtkegomailfhnpaaGreatChecked
import GoSem.Claim
import GoSem.ClaimJoined
import GoSem.ClaimMapViews
import Derived.JoinedTies
import Derived.KernelRfl
namespace Go.Proofs.YtkegomailfhnpaaGreat
/- THE CELL 'sum', in the pinned program and in every row, IS THE sha256 OF THE DUMP (.gsa) THAT YtkegomailfhnpaaGreatProg.lean LOADS. Nothing in Lean hashes anything: it is a label: what it is worth is what the hold of that sum in a sandbox is worth. -/
noncomputable def Tryz.pinned : Pinned := { name := "ytkegomailfhnpaagreat", sum := "1bde69a17eb2c3e2d2dc58def45230166fc2b63ee1c8a0b9c062b635f77703fd", checked := Tryz.checked }
namespace Rows
def none {H : Type} : Left H := { results := [], args := [] }

/-- 'cohortlaw09.RunBytes': WHATEVER THE INPUT: true; the input reads as it did. -/
def runBytesSpec : ChangeSpec := { name := "runBytes", fn := fun _ => fun
  | [d1, d2] => { results := [.lit (.bool true)], args := [d1, d2] }
  | _ => none }
def runBytesRow : OpenClaim := { program := "ytkegomailfhnpaagreat", sum := "1bde69a17eb2c3e2d2dc58def45230166fc2b63ee1c8a0b9c062b635f77703fd", func := "cohort/cohortlaw09.RunBytes", spec := "runBytes", inPlace := ["slices.overlaps[cohort/api.Vertex]", "slices.overlaps[cohort/api.Edge]", "slices.overlaps[cohort/api.Message]"], unfollowed := true, recurses := true, named := ["math/bits.divideError", "math/bits.overflowError"], apart := false }
def RunBytesSaid : Prop := runBytesRow.holds Tryz.pinned (OpenSpec.ofChange runBytesSpec)

/-- ITS FALSE NEIGHBOUR: 'it returns false'. Refute it at one input. -/
def runBytesWrong : ChangeSpec := { name := "runBytes", fn := fun _ => fun
  | [d1, d2] => { results := [.lit (.bool false)], args := [d1, d2] }
  | _ => none }
def RunBytesWrongFalsely : Prop := runBytesRow.holds Tryz.pinned (OpenSpec.ofChange runBytesWrong)

/-- 'cohortlaw09.RunJobs': WHATEVER THE INPUT: true; the input reads as it did. -/
def runJobsSpec : ChangeSpec := { name := "runJobs", fn := fun _ => fun
  | [d1, d2] => { results := [.lit (.bool true)], args := [d1, d2] }
  | _ => none }
def runJobsRow : OpenClaim := { program := "ytkegomailfhnpaagreat", sum := "1bde69a17eb2c3e2d2dc58def45230166fc2b63ee1c8a0b9c062b635f77703fd", func := "cohort/cohortlaw09.RunJobs", spec := "runJobs", inPlace := ["slices.overlaps[cohort/api.Vertex]", "slices.overlaps[cohort/api.Edge]", "slices.overlaps[cohort/api.Message]"], unfollowed := true, recurses := true, named := ["math/bits.divideError", "math/bits.overflowError"], apart := false }
def RunJobsSaid : Prop := runJobsRow.holds Tryz.pinned (OpenSpec.ofChange runJobsSpec)

/-- ITS FALSE NEIGHBOUR: 'it returns false'. Refute it at one input. -/
def runJobsWrong : ChangeSpec := { name := "runJobs", fn := fun _ => fun
  | [d1, d2] => { results := [.lit (.bool false)], args := [d1, d2] }
  | _ => none }
def RunJobsWrongFalsely : Prop := runJobsRow.holds Tryz.pinned (OpenSpec.ofChange runJobsWrong)

/- THE SECOND FORM. 'bulk': how many values and letters a reading holds, each counted each time it is reached (what is shared counts as often as it is met; a slice's spare places count too). A statement '..UptoSaid' is the law's where the arguments, and the package variables that the reading takes, are together of bulk at most 1048576: NARROWER than '..Said'. Prove '..Said' where nothing that the law and all that it calls make is longer than what came in: it says more and counts as full. Else prove '..UptoSaid'. A law counts once. -/
mutual
def uptoBulk {H : Type} : DataW H → Nat
  | .lit (.string bytes) => bytes.length + 1
  | .lit _ => 1
  | .nil => 1
  | .ptr d => uptoBulk d + 1
  | .slice elems spare => uptoBulkAll elems + uptoBulkAll spare + 1
  | .agg parts => uptoBulkAll parts + 1
  | .iface _ d => uptoBulk d + 1
  | .map entries => uptoBulkEntries entries + 1
  | .held _ => 1
def uptoBulkAll {H : Type} : List (DataW H) → Nat
  | [] => 0
  | d :: r => uptoBulk d + uptoBulkAll r
def uptoBulkEntries {H : Type} : List (Lit × DataW H) → Nat
  | [] => 0
  | x :: r => uptoBulkEntry x + uptoBulkEntries r
def uptoBulkEntry {H : Type} : Lit × DataW H → Nat
  | (.string bytes, d) => bytes.length + uptoBulk d + 1
  | (_, d) => uptoBulk d + 1
 end
def uptoSmall : (H : Type) → List (DataW H) → Bool := fun _ ds => decide (uptoBulkAll ds ≤ 1048576)
def OpenSpec.upto (s : _root_.Go.ChangeSpec) : _root_.Go.OpenSpec := { _root_.Go.OpenSpec.ofChange s with cond := some uptoSmall }

/-- 'cohortlaw09.RunBytes', WHERE WHAT IT READS IS OF BULK AT MOST 1048576: true; the input reads as it did. -/
def runBytesUptoRow : OpenClaim := { program := "ytkegomailfhnpaagreat", sum := "1bde69a17eb2c3e2d2dc58def45230166fc2b63ee1c8a0b9c062b635f77703fd", func := "cohort/cohortlaw09.RunBytes", spec := "runBytes", inPlace := ["slices.overlaps[cohort/api.Vertex]", "slices.overlaps[cohort/api.Edge]", "slices.overlaps[cohort/api.Message]"], unfollowed := true, recurses := true, named := ["math/bits.divideError", "math/bits.overflowError"], apart := false, narrowed := true }
def RunBytesUptoSaid : Prop := runBytesUptoRow.holds Tryz.pinned (OpenSpec.upto runBytesSpec)

/-- 'cohortlaw09.RunJobs', WHERE WHAT IT READS IS OF BULK AT MOST 1048576: true; the input reads as it did. -/
def runJobsUptoRow : OpenClaim := { program := "ytkegomailfhnpaagreat", sum := "1bde69a17eb2c3e2d2dc58def45230166fc2b63ee1c8a0b9c062b635f77703fd", func := "cohort/cohortlaw09.RunJobs", spec := "runJobs", inPlace := ["slices.overlaps[cohort/api.Vertex]", "slices.overlaps[cohort/api.Edge]", "slices.overlaps[cohort/api.Message]"], unfollowed := true, recurses := true, named := ["math/bits.divideError", "math/bits.overflowError"], apart := false, narrowed := true }
def RunJobsUptoSaid : Prop := runJobsUptoRow.holds Tryz.pinned (OpenSpec.upto runJobsSpec)

end Rows
end Go.Proofs.YtkegomailfhnpaaGreat
