/-
  DERIVED. GIVEN WITH THE SEED: THE CARDS: each row of YtocialidbacnnaaGreatDoorRows.lean that lists a variable, with what it lists TIED to the program's text (the seventh form; the later family's looks); each row that meets fmt, with fmt's text TOLD by the authors' own Lean function (tested against real Go, not proved from fmt's source: count such statements apart). THE CARD IS WHAT COUNTS. Prove the row's statement (the work); the ties are given (YtocialidbacnnaaGreatDoorTie.lean); close each card by the builder's one call (the guide's Derived/Test/ToyasCard.lean, 'card_holds'). Laid BY PROGRAM, IN A SANDBOX (cutbox-door.mjs). By AI agents, Wed Nov 11 2026. No macro, syntax, notation, axiom, sorry.
-/
import Derived.Test.YtocialidbacnnaaGreatDoorRows
import GoSem.ClaimSeven
namespace Go.Proofs.YtocialidbacnnaaGreatDoor
namespace Rows

/-- THE TIED CARD OF 'cohortlaw22.WorkerNil'. -/
def workerNilCard : Claim7 := { stood := { row := workerNilRow, standIns := [], harness := (true, "1c89b8c1c62fa2d4f74c759ca9695fac7aa6bacfd0782645a4a086e6bd8cd4c3"), looks := true }, kinds := [], alts := [], laidByText := true, laidKinds := [.data, .data, .data], laidTests := true, laidLooks := .later }
def WorkerNilCardSaid : Prop := Claim7.holds Tryz.pinned (.plain (OpenSpec.ofChange workerNilSpec)) workerNilCard

/-- THE SECOND FORM's CARD OF 'cohortlaw22.WorkerNil'. -/
def workerNilUptoCard : Claim7 := { stood := { row := workerNilUptoRow, standIns := [], harness := (true, "1c89b8c1c62fa2d4f74c759ca9695fac7aa6bacfd0782645a4a086e6bd8cd4c3"), looks := true }, kinds := [], alts := [], laidByText := true, laidKinds := [.data, .data, .data], laidTests := true, laidLooks := .later }
def WorkerNilUptoCardSaid : Prop := Claim7.holds Tryz.pinned (.plain (OpenSpec.upto workerNilSpec)) workerNilUptoCard
end Rows
end Go.Proofs.YtocialidbacnnaaGreatDoor
