/-
  DERIVED. GIVEN WITH THE SEED: THE CARDS: each row of YthabgljdndbphaaGreatDoorRows.lean that lists a variable, with what it lists TIED to the program's text (the seventh form; the later family's looks); each row that meets fmt, with fmt's text TOLD by the authors' own Lean function (tested against real Go, not proved from fmt's source: count such statements apart). THE CARD IS WHAT COUNTS. Prove the row's statement (the work); the ties are given (YthabgljdndbphaaGreatDoorTie.lean); close each card by the builder's one call (the guide's Derived/Test/ToyasCard.lean, 'card_holds'). Laid BY PROGRAM, IN A SANDBOX (cutbox-door.mjs). By AI agents, Wed Nov 11 2026. No macro, syntax, notation, axiom, sorry.
-/
import Derived.Test.YthabgljdndbphaaGreatDoorRows
import GoSem.ClaimSeven
namespace Go.Proofs.YthabgljdndbphaaGreatDoor
namespace Rows

/-- THE TIED CARD OF 'foyerlaw23.PackMatchesReference'. -/
def packMatchesReferenceCard : Claim7 := { stood := { row := packMatchesReferenceRow, standIns := [], harness := (true, "bfced7f9a14e323565e999834e6cae269996fd7ec2581ae0fb36b2ea5ce44300"), looks := true }, kinds := [], alts := [], laidByText := true, laidKinds := [.data, .data, .data], laidTests := true, laidLooks := .later }
def PackMatchesReferenceCardSaid : Prop := Claim7.holds Tryz.pinned (.plain (OpenSpec.ofChange packMatchesReferenceSpec)) packMatchesReferenceCard

/-- THE TIED CARD OF 'foyerlaw23.PackProved'. -/
def packProvedCard : Claim7 := { stood := { row := packProvedRow, standIns := [], harness := (true, "bfced7f9a14e323565e999834e6cae269996fd7ec2581ae0fb36b2ea5ce44300"), looks := true }, kinds := [], alts := [], laidByText := true, laidKinds := [.data, .data, .data], laidTests := true, laidLooks := .later }
def PackProvedCardSaid : Prop := Claim7.holds Tryz.pinned (.plain (OpenSpec.ofChange packProvedSpec)) packProvedCard

/-- THE TIED CARD OF 'foyerlaw23.PackBest'. -/
def packBestCard : Claim7 := { stood := { row := packBestRow, standIns := [], harness := (true, "bfced7f9a14e323565e999834e6cae269996fd7ec2581ae0fb36b2ea5ce44300"), looks := true }, kinds := [], alts := [], laidByText := true, laidKinds := [.data, .data, .data], laidTests := true, laidLooks := .later }
def PackBestCardSaid : Prop := Claim7.holds Tryz.pinned (.plain (OpenSpec.ofChange packBestSpec)) packBestCard

/-- THE TIED CARD OF 'foyerlaw23.PackRoom'. -/
def packRoomCard : Claim7 := { stood := { row := packRoomRow, standIns := [], harness := (true, "bfced7f9a14e323565e999834e6cae269996fd7ec2581ae0fb36b2ea5ce44300"), looks := true }, kinds := [], alts := [], laidByText := true, laidKinds := [.data, .data, .data], laidTests := true, laidLooks := .later }
def PackRoomCardSaid : Prop := Claim7.holds Tryz.pinned (.plain (OpenSpec.ofChange packRoomSpec)) packRoomCard

/-- THE TIED CARD OF 'foyerlaw23.PackLimits'. -/
def packLimitsCard : Claim7 := { stood := { row := packLimitsRow, standIns := [], harness := (true, "bfced7f9a14e323565e999834e6cae269996fd7ec2581ae0fb36b2ea5ce44300"), looks := true }, kinds := [], alts := [], laidByText := true, laidKinds := [.data, .data, .data], laidTests := true, laidLooks := .later }
def PackLimitsCardSaid : Prop := Claim7.holds Tryz.pinned (.plain (OpenSpec.ofChange packLimitsSpec)) packLimitsCard

/-- THE SECOND FORM's CARD OF 'foyerlaw23.PackMatchesReference'. -/
def packMatchesReferenceUptoCard : Claim7 := { stood := { row := packMatchesReferenceUptoRow, standIns := [], harness := (true, "bfced7f9a14e323565e999834e6cae269996fd7ec2581ae0fb36b2ea5ce44300"), looks := true }, kinds := [], alts := [], laidByText := true, laidKinds := [.data, .data, .data], laidTests := true, laidLooks := .later }
def PackMatchesReferenceUptoCardSaid : Prop := Claim7.holds Tryz.pinned (.plain (OpenSpec.upto packMatchesReferenceSpec)) packMatchesReferenceUptoCard

/-- THE SECOND FORM's CARD OF 'foyerlaw23.PackProved'. -/
def packProvedUptoCard : Claim7 := { stood := { row := packProvedUptoRow, standIns := [], harness := (true, "bfced7f9a14e323565e999834e6cae269996fd7ec2581ae0fb36b2ea5ce44300"), looks := true }, kinds := [], alts := [], laidByText := true, laidKinds := [.data, .data, .data], laidTests := true, laidLooks := .later }
def PackProvedUptoCardSaid : Prop := Claim7.holds Tryz.pinned (.plain (OpenSpec.upto packProvedSpec)) packProvedUptoCard

/-- THE SECOND FORM's CARD OF 'foyerlaw23.PackBest'. -/
def packBestUptoCard : Claim7 := { stood := { row := packBestUptoRow, standIns := [], harness := (true, "bfced7f9a14e323565e999834e6cae269996fd7ec2581ae0fb36b2ea5ce44300"), looks := true }, kinds := [], alts := [], laidByText := true, laidKinds := [.data, .data, .data], laidTests := true, laidLooks := .later }
def PackBestUptoCardSaid : Prop := Claim7.holds Tryz.pinned (.plain (OpenSpec.upto packBestSpec)) packBestUptoCard

/-- THE SECOND FORM's CARD OF 'foyerlaw23.PackRoom'. -/
def packRoomUptoCard : Claim7 := { stood := { row := packRoomUptoRow, standIns := [], harness := (true, "bfced7f9a14e323565e999834e6cae269996fd7ec2581ae0fb36b2ea5ce44300"), looks := true }, kinds := [], alts := [], laidByText := true, laidKinds := [.data, .data, .data], laidTests := true, laidLooks := .later }
def PackRoomUptoCardSaid : Prop := Claim7.holds Tryz.pinned (.plain (OpenSpec.upto packRoomSpec)) packRoomUptoCard

/-- THE SECOND FORM's CARD OF 'foyerlaw23.PackLimits'. -/
def packLimitsUptoCard : Claim7 := { stood := { row := packLimitsUptoRow, standIns := [], harness := (true, "bfced7f9a14e323565e999834e6cae269996fd7ec2581ae0fb36b2ea5ce44300"), looks := true }, kinds := [], alts := [], laidByText := true, laidKinds := [.data, .data, .data], laidTests := true, laidLooks := .later }
def PackLimitsUptoCardSaid : Prop := Claim7.holds Tryz.pinned (.plain (OpenSpec.upto packLimitsSpec)) packLimitsUptoCard
end Rows
end Go.Proofs.YthabgljdndbphaaGreatDoor
