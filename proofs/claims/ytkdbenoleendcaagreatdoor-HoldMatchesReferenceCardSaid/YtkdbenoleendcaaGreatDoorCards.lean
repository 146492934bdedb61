/-
  DERIVED. GIVEN WITH THE SEED: THE CARDS: each row of YtkdbenoleendcaaGreatDoorRows.lean that lists a variable, with what it lists TIED to the program's text (the seventh form; the later family's looks); each row that meets fmt, with fmt's text TOLD by the authors' own Lean function (tested against real Go, not proved from fmt's source: count such statements apart). THE CARD IS WHAT COUNTS. Prove the row's statement (the work); the ties are given (YtkdbenoleendcaaGreatDoorTie.lean); close each card by the builder's one call (the guide's Derived/Test/ToyasCard.lean, 'card_holds'). Laid BY PROGRAM, IN A SANDBOX (cutbox-door.mjs). By AI agents, Wed Nov 11 2026. No macro, syntax, notation, axiom, sorry.
-/
import Derived.Test.YtkdbenoleendcaaGreatDoorRows
import GoSem.ClaimSeven
namespace Go.Proofs.YtkdbenoleendcaaGreatDoor
namespace Rows

/-- THE TIED CARD OF 'foyerlaw26.HoldMatchesReference'. -/
def holdMatchesReferenceCard : Claim7 := { stood := { row := holdMatchesReferenceRow, standIns := [], harness := (true, "e7fc2819649f5e6dbe3ffe736b6f35753a46d9de95ff889bfd22a12d3dc59fdb"), looks := true }, kinds := [], alts := [], laidByText := true, laidKinds := [.data, .data, .data, .sentinel, .sentinel], laidTests := true, laidLooks := .later }
def HoldMatchesReferenceCardSaid : Prop := Claim7.holds Tryz.pinned (.plain (OpenSpec.ofChange holdMatchesReferenceSpec)) holdMatchesReferenceCard

/-- THE SECOND FORM's CARD OF 'foyerlaw26.HoldMatchesReference'. -/
def holdMatchesReferenceUptoCard : Claim7 := { stood := { row := holdMatchesReferenceUptoRow, standIns := [], harness := (true, "e7fc2819649f5e6dbe3ffe736b6f35753a46d9de95ff889bfd22a12d3dc59fdb"), looks := true }, kinds := [], alts := [], laidByText := true, laidKinds := [.data, .data, .data, .sentinel, .sentinel], laidTests := true, laidLooks := .later }
def HoldMatchesReferenceUptoCardSaid : Prop := Claim7.holds Tryz.pinned (.plain (OpenSpec.upto holdMatchesReferenceSpec)) holdMatchesReferenceUptoCard
end Rows
end Go.Proofs.YtkdbenoleendcaaGreatDoor
