/-
  DERIVED. GIVEN WITH THE SEED: THE CARDS: each row of YthbphkakekdfkaaGreatDoorRows.lean that lists a variable, with what it lists TIED to the program's text (the seventh form; the later family's looks); each row that meets fmt, with fmt's text TOLD by the authors' own Lean function (tested against real Go, not proved from fmt's source: count such statements apart). THE CARD IS WHAT COUNTS. Prove the row's statement (the work); the ties are given (YthbphkakekdfkaaGreatDoorTie.lean); close each card by the builder's one call (the guide's Derived/Test/ToyasCard.lean, 'card_holds'). Laid BY PROGRAM, IN A SANDBOX (cutbox-door.mjs). By AI agents, Wed Nov 11 2026. No macro, syntax, notation, axiom, sorry.
-/
import Derived.Test.YthbphkakekdfkaaGreatDoorRows
import GoSem.ClaimSeven
namespace Go.Proofs.YthbphkakekdfkaaGreatDoor
namespace Rows

/-- THE TIED CARD OF 'cohortlaw25.SimNil'. -/
def simNilCard : Claim7 := { stood := { row := simNilRow, standIns := [], harness := (true, "aa062deedfdb1a0052f13d1f227867649e49ad3cbf8452047c0661afa8e851f9"), looks := true }, kinds := [], alts := [], laidByText := true, laidKinds := [.data, .data, .data], laidTests := true, laidLooks := .later }
def SimNilCardSaid : Prop := Claim7.holds Tryz.pinned (.plain (OpenSpec.ofChange simNilSpec)) simNilCard

/-- THE SECOND FORM's CARD OF 'cohortlaw25.SimNil'. -/
def simNilUptoCard : Claim7 := { stood := { row := simNilUptoRow, standIns := [], harness := (true, "aa062deedfdb1a0052f13d1f227867649e49ad3cbf8452047c0661afa8e851f9"), looks := true }, kinds := [], alts := [], laidByText := true, laidKinds := [.data, .data, .data], laidTests := true, laidLooks := .later }
def SimNilUptoCardSaid : Prop := Claim7.holds Tryz.pinned (.plain (OpenSpec.upto simNilSpec)) simNilUptoCard
end Rows
end Go.Proofs.YthbphkakekdfkaaGreatDoor
