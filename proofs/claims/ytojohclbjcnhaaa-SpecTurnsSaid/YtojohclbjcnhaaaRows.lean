/-
  No cell of these rows narrows 'for every input' (looked for: loops, veiled, ifaces, maps, wideKeys, modest, calm, conditions, laid).
  DERIVED. THE GIVEN ROWS OF THIS SEAT. 4 by the template 'for every input the law returns true; each argument reads behind the call as it read before'; 0 by the template 'total and deterministic' (their statements: YtojohclbjcnhaaaTotals.lean).
  GIVEN WITH THE SEED: the statements are not yours to turn. If you find one false, say at which input.
  Laid BY PROGRAM, IN A SANDBOX (cutbox-rows.mjs): the forced cells as the released guide's own fill.sh prints them over the translation 288749258211fefa… (all of the seat's roots in one cut). By AI agents, Wed Nov 11 2026. No macro, syntax, notation, axiom, sorry.
-/
import Derived.Test.YtojohclbjcnhaaaChecked
import GoSem.Claim
import GoSem.ClaimJoined
import GoSem.ClaimMapViews
import Derived.JoinedTies
import Derived.KernelRfl
namespace Go.Proofs.Ytojohclbjcnhaaa
/- THE CELL 'sum', in the pinned program and in every row, IS THE sha256 OF THE DUMP (.gsa) THAT YtojohclbjcnhaaaProg.lean LOADS. Nothing in Lean hashes anything: it is a label: what it is worth is what the hold of that sum in a sandbox is worth. -/
noncomputable def Try.pinned : Pinned := { name := "ytojohclbjcnhaaa", sum := "288749258211fefaacde67ddfca5a5f850729a1748493daa987e7560e6362135", checked := Try.checked }
namespace Rows
def none {H : Type} : Left H := { results := [], args := [] }

/-- 'cohortlaw10.SpecDegrees': WHATEVER THE INPUT: true; the input reads as it did. -/
def specDegreesSpec : ChangeSpec := { name := "specDegrees", fn := fun _ => fun
  | [d] => { results := [.lit (.bool true)], args := [d] }
  | _ => none }
def specDegreesRow : OpenClaim := { program := "ytojohclbjcnhaaa", sum := "288749258211fefaacde67ddfca5a5f850729a1748493daa987e7560e6362135", func := "cohort/cohortlaw10.SpecDegrees", spec := "specDegrees", unfollowed := true, recurses := true, apart := false }
def SpecDegreesSaid : Prop := specDegreesRow.holds Try.pinned (OpenSpec.ofChange specDegreesSpec)

/-- ITS FALSE NEIGHBOUR: 'it returns false'. Refute it at one input. -/
def specDegreesWrong : ChangeSpec := { name := "specDegrees", fn := fun _ => fun
  | [d] => { results := [.lit (.bool false)], args := [d] }
  | _ => none }
def SpecDegreesWrongFalsely : Prop := specDegreesRow.holds Try.pinned (OpenSpec.ofChange specDegreesWrong)

/-- 'cohortlaw10.SpecMatched': WHATEVER THE INPUT: true; the input reads as it did. -/
def specMatchedSpec : ChangeSpec := { name := "specMatched", fn := fun _ => fun
  | [d1, d2] => { results := [.lit (.bool true)], args := [d1, d2] }
  | _ => none }
def specMatchedRow : OpenClaim := { program := "ytojohclbjcnhaaa", sum := "288749258211fefaacde67ddfca5a5f850729a1748493daa987e7560e6362135", func := "cohort/cohortlaw10.SpecMatched", spec := "specMatched", unfollowed := true, recurses := true, apart := false }
def SpecMatchedSaid : Prop := specMatchedRow.holds Try.pinned (OpenSpec.ofChange specMatchedSpec)

/-- ITS FALSE NEIGHBOUR: 'it returns false'. Refute it at one input. -/
def specMatchedWrong : ChangeSpec := { name := "specMatched", fn := fun _ => fun
  | [d1, d2] => { results := [.lit (.bool false)], args := [d1, d2] }
  | _ => none }
def SpecMatchedWrongFalsely : Prop := specMatchedRow.holds Try.pinned (OpenSpec.ofChange specMatchedWrong)

/-- 'cohortlaw10.SpecTurns': WHATEVER THE INPUT: true; the input reads as it did. -/
def specTurnsSpec : ChangeSpec := { name := "specTurns", fn := fun _ => fun
  | [d1, d2] => { results := [.lit (.bool true)], args := [d1, d2] }
  | _ => none }
def specTurnsRow : OpenClaim := { program := "ytojohclbjcnhaaa", sum := "288749258211fefaacde67ddfca5a5f850729a1748493daa987e7560e6362135", func := "cohort/cohortlaw10.SpecTurns", spec := "specTurns", unfollowed := true, recurses := true, apart := false }
def SpecTurnsSaid : Prop := specTurnsRow.holds Try.pinned (OpenSpec.ofChange specTurnsSpec)

/-- ITS FALSE NEIGHBOUR: 'it returns false'. Refute it at one input. -/
def specTurnsWrong : ChangeSpec := { name := "specTurns", fn := fun _ => fun
  | [d1, d2] => { results := [.lit (.bool false)], args := [d1, d2] }
  | _ => none }
def SpecTurnsWrongFalsely : Prop := specTurnsRow.holds Try.pinned (OpenSpec.ofChange specTurnsWrong)

/-- 'cohortlaw10.SpecSets': WHATEVER THE INPUT: true; the input reads as it did. -/
def specSetsSpec : ChangeSpec := { name := "specSets", fn := fun _ => fun
  | [d1, d2] => { results := [.lit (.bool true)], args := [d1, d2] }
  | _ => none }
def specSetsRow : OpenClaim := { program := "ytojohclbjcnhaaa", sum := "288749258211fefaacde67ddfca5a5f850729a1748493daa987e7560e6362135", func := "cohort/cohortlaw10.SpecSets", spec := "specSets", unfollowed := true, recurses := true, apart := false }
def SpecSetsSaid : Prop := specSetsRow.holds Try.pinned (OpenSpec.ofChange specSetsSpec)

/-- ITS FALSE NEIGHBOUR: 'it returns false'. Refute it at one input. -/
def specSetsWrong : ChangeSpec := { name := "specSets", fn := fun _ => fun
  | [d1, d2] => { results := [.lit (.bool false)], args := [d1, d2] }
  | _ => none }
def SpecSetsWrongFalsely : Prop := specSetsRow.holds Try.pinned (OpenSpec.ofChange specSetsWrong)

/- THE SECOND FORM. 'bulk': how many values and letters a reading holds, each counted each time it is reached (what is shared counts as often as it is met; a slice's spare places count too). A statement '..UptoSaid' is the law's where the arguments, and the package variables that the reading takes, are together of bulk at most 1048576: NARROWER than '..Said'. Prove '..Said' where nothing that the law and all that it calls make is longer than what came in: it says more and counts as full. Else prove '..UptoSaid'. A law counts once. -/
mutual
def uptoBulk {H : Type} : DataW H → Nat
  | .lit (.string bytes) => bytes.length + 1
  | .lit _ => 1
  | .nil => 1
  | .ptr d => uptoBulk d + 1
  | .slice elems spare => uptoBulkAll elems + uptoBulkAll spare + 1
  | .agg parts => uptoBulkAll parts + 1
  | .iface _ d => uptoBulk d + 1
  | .map entries => uptoBulkEntries entries + 1
  | .held _ => 1
def uptoBulkAll {H : Type} : List (DataW H) → Nat
  | [] => 0
  | d :: r => uptoBulk d + uptoBulkAll r
def uptoBulkEntries {H : Type} : List (Lit × DataW H) → Nat
  | [] => 0
  | x :: r => uptoBulkEntry x + uptoBulkEntries r
def uptoBulkEntry {H : Type} : Lit × DataW H → Nat
  | (.string bytes, d) => bytes.length + uptoBulk d + 1
  | (_, d) => uptoBulk d + 1
 end
def uptoSmall : (H : Type) → List (DataW H) → Bool := fun _ ds => decide (uptoBulkAll ds ≤ 1048576)
def OpenSpec.upto (s : _root_.Go.ChangeSpec) : _root_.Go.OpenSpec := { _root_.Go.OpenSpec.ofChange s with cond := some uptoSmall }

/-- 'cohortlaw10.SpecDegrees', WHERE WHAT IT READS IS OF BULK AT MOST 1048576: true; the input reads as it did. -/
def specDegreesUptoRow : OpenClaim := { program := "ytojohclbjcnhaaa", sum := "288749258211fefaacde67ddfca5a5f850729a1748493daa987e7560e6362135", func := "cohort/cohortlaw10.SpecDegrees", spec := "specDegrees", unfollowed := true, recurses := true, apart := false, narrowed := true }
def SpecDegreesUptoSaid : Prop := specDegreesUptoRow.holds Try.pinned (OpenSpec.upto specDegreesSpec)

/-- 'cohortlaw10.SpecMatched', WHERE WHAT IT READS IS OF BULK AT MOST 1048576: true; the input reads as it did. -/
def specMatchedUptoRow : OpenClaim := { program := "ytojohclbjcnhaaa", sum := "288749258211fefaacde67ddfca5a5f850729a1748493daa987e7560e6362135", func := "cohort/cohortlaw10.SpecMatched", spec := "specMatched", unfollowed := true, recurses := true, apart := false, narrowed := true }
def SpecMatchedUptoSaid : Prop := specMatchedUptoRow.holds Try.pinned (OpenSpec.upto specMatchedSpec)

/-- 'cohortlaw10.SpecTurns', WHERE WHAT IT READS IS OF BULK AT MOST 1048576: true; the input reads as it did. -/
def specTurnsUptoRow : OpenClaim := { program := "ytojohclbjcnhaaa", sum := "288749258211fefaacde67ddfca5a5f850729a1748493daa987e7560e6362135", func := "cohort/cohortlaw10.SpecTurns", spec := "specTurns", unfollowed := true, recurses := true, apart := false, narrowed := true }
def SpecTurnsUptoSaid : Prop := specTurnsUptoRow.holds Try.pinned (OpenSpec.upto specTurnsSpec)

/-- 'cohortlaw10.SpecSets', WHERE WHAT IT READS IS OF BULK AT MOST 1048576: true; the input reads as it did. -/
def specSetsUptoRow : OpenClaim := { program := "ytojohclbjcnhaaa", sum := "288749258211fefaacde67ddfca5a5f850729a1748493daa987e7560e6362135", func := "cohort/cohortlaw10.SpecSets", spec := "specSets", unfollowed := true, recurses := true, apart := false, narrowed := true }
def SpecSetsUptoSaid : Prop := specSetsUptoRow.holds Try.pinned (OpenSpec.upto specSetsSpec)

end Rows
end Go.Proofs.Ytojohclbjcnhaaa
