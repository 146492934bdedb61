/-
  DERIVED. GIVEN WITH THE SEED: THE CARDS: each row of YtgpmhaeiccljaaaDoorRows.lean that lists a variable, with what it lists TIED to the program's text (the seventh form; the later family's looks); each row that meets fmt, with fmt's text TOLD by the authors' own Lean function (tested against real Go, not proved from fmt's source: count such statements apart). THE CARD IS WHAT COUNTS. Prove the row's statement (the work); the ties are given (YtgpmhaeiccljaaaDoorTie.lean); close each card by the builder's one call (the guide's Derived/Test/ToyasCard.lean, 'card_holds'). Laid BY PROGRAM, IN A SANDBOX (cutbox-door.mjs). By AI agents, Wed Nov 11 2026. No macro, syntax, notation, axiom, sorry.
-/
import Derived.Test.YtgpmhaeiccljaaaDoorRows
import GoSem.ClaimSeven
namespace Go.Proofs.YtgpmhaeiccljaaaDoor
namespace Rows

/-- THE TIED CARD OF 'foyerlaw29.RefundMatchesReference'. -/
def refundMatchesReferenceCard : Claim7 := { stood := { row := refundMatchesReferenceRow, standIns := [], harness := (true, "6571fdc78a9cd81dff2bf12a445ef28e4c2f32805a80ab339fb4ccda83ae3944"), looks := true }, kinds := [], alts := [], laidByText := true, laidKinds := [.data, .data, .data, .sentinel, .sentinel], laidTests := true, laidLooks := .later }
def RefundMatchesReferenceCardSaid : Prop := Claim7.holds Tryd.pinned (.plain (OpenSpec.ofChange refundMatchesReferenceSpec)) refundMatchesReferenceCard

/-- THE TIED CARD OF 'foyerlaw29.RefundExact'. -/
def refundExactCard : Claim7 := { stood := { row := refundExactRow, standIns := [], harness := (true, "6571fdc78a9cd81dff2bf12a445ef28e4c2f32805a80ab339fb4ccda83ae3944"), looks := true }, kinds := [], alts := [], laidByText := true, laidKinds := [.data, .data, .data, .sentinel, .sentinel], laidTests := true, laidLooks := .later }
def RefundExactCardSaid : Prop := Claim7.holds Tryd.pinned (.plain (OpenSpec.ofChange refundExactSpec)) refundExactCard

/-- THE TIED CARD OF 'foyerlaw29.RefundFair'. -/
def refundFairCard : Claim7 := { stood := { row := refundFairRow, standIns := [], harness := (true, "6571fdc78a9cd81dff2bf12a445ef28e4c2f32805a80ab339fb4ccda83ae3944"), looks := true }, kinds := [], alts := [], laidByText := true, laidKinds := [.data, .data, .data, .sentinel, .sentinel], laidTests := true, laidLooks := .later }
def RefundFairCardSaid : Prop := Claim7.holds Tryd.pinned (.plain (OpenSpec.ofChange refundFairSpec)) refundFairCard

/-- THE TIED CARD OF 'foyerlaw29.RefundEnd'. -/
def refundEndCard : Claim7 := { stood := { row := refundEndRow, standIns := [], harness := (true, "6571fdc78a9cd81dff2bf12a445ef28e4c2f32805a80ab339fb4ccda83ae3944"), looks := true }, kinds := [], alts := [], laidByText := true, laidKinds := [.data, .data, .data, .sentinel, .sentinel], laidTests := true, laidLooks := .later }
def RefundEndCardSaid : Prop := Claim7.holds Tryd.pinned (.plain (OpenSpec.ofChange refundEndSpec)) refundEndCard

/-- THE TIED CARD OF 'foyerlaw29.RefundCharges'. -/
def refundChargesCard : Claim7 := { stood := { row := refundChargesRow, standIns := [], harness := (true, "6571fdc78a9cd81dff2bf12a445ef28e4c2f32805a80ab339fb4ccda83ae3944"), looks := true }, kinds := [], alts := [], laidByText := true, laidKinds := [.data, .data, .data, .sentinel, .sentinel], laidTests := true, laidLooks := .later }
def RefundChargesCardSaid : Prop := Claim7.holds Tryd.pinned (.plain (OpenSpec.ofChange refundChargesSpec)) refundChargesCard

/-- THE TIED CARD OF 'foyerlaw29.RefundRefuses'. -/
def refundRefusesCard : Claim7 := { stood := { row := refundRefusesRow, standIns := [], harness := (true, "6571fdc78a9cd81dff2bf12a445ef28e4c2f32805a80ab339fb4ccda83ae3944"), looks := true }, kinds := [], alts := [], laidByText := true, laidKinds := [.data, .data, .data, .sentinel, .sentinel], laidTests := true, laidLooks := .later }
def RefundRefusesCardSaid : Prop := Claim7.holds Tryd.pinned (.plain (OpenSpec.ofChange refundRefusesSpec)) refundRefusesCard

/-- THE SECOND FORM's CARD OF 'foyerlaw29.RefundMatchesReference'. -/
def refundMatchesReferenceUptoCard : Claim7 := { stood := { row := refundMatchesReferenceUptoRow, standIns := [], harness := (true, "6571fdc78a9cd81dff2bf12a445ef28e4c2f32805a80ab339fb4ccda83ae3944"), looks := true }, kinds := [], alts := [], laidByText := true, laidKinds := [.data, .data, .data, .sentinel, .sentinel], laidTests := true, laidLooks := .later }
def RefundMatchesReferenceUptoCardSaid : Prop := Claim7.holds Tryd.pinned (.plain (OpenSpec.upto refundMatchesReferenceSpec)) refundMatchesReferenceUptoCard

/-- THE SECOND FORM's CARD OF 'foyerlaw29.RefundExact'. -/
def refundExactUptoCard : Claim7 := { stood := { row := refundExactUptoRow, standIns := [], harness := (true, "6571fdc78a9cd81dff2bf12a445ef28e4c2f32805a80ab339fb4ccda83ae3944"), looks := true }, kinds := [], alts := [], laidByText := true, laidKinds := [.data, .data, .data, .sentinel, .sentinel], laidTests := true, laidLooks := .later }
def RefundExactUptoCardSaid : Prop := Claim7.holds Tryd.pinned (.plain (OpenSpec.upto refundExactSpec)) refundExactUptoCard

/-- THE SECOND FORM's CARD OF 'foyerlaw29.RefundFair'. -/
def refundFairUptoCard : Claim7 := { stood := { row := refundFairUptoRow, standIns := [], harness := (true, "6571fdc78a9cd81dff2bf12a445ef28e4c2f32805a80ab339fb4ccda83ae3944"), looks := true }, kinds := [], alts := [], laidByText := true, laidKinds := [.data, .data, .data, .sentinel, .sentinel], laidTests := true, laidLooks := .later }
def RefundFairUptoCardSaid : Prop := Claim7.holds Tryd.pinned (.plain (OpenSpec.upto refundFairSpec)) refundFairUptoCard

/-- THE SECOND FORM's CARD OF 'foyerlaw29.RefundEnd'. -/
def refundEndUptoCard : Claim7 := { stood := { row := refundEndUptoRow, standIns := [], harness := (true, "6571fdc78a9cd81dff2bf12a445ef28e4c2f32805a80ab339fb4ccda83ae3944"), looks := true }, kinds := [], alts := [], laidByText := true, laidKinds := [.data, .data, .data, .sentinel, .sentinel], laidTests := true, laidLooks := .later }
def RefundEndUptoCardSaid : Prop := Claim7.holds Tryd.pinned (.plain (OpenSpec.upto refundEndSpec)) refundEndUptoCard

/-- THE SECOND FORM's CARD OF 'foyerlaw29.RefundCharges'. -/
def refundChargesUptoCard : Claim7 := { stood := { row := refundChargesUptoRow, standIns := [], harness := (true, "6571fdc78a9cd81dff2bf12a445ef28e4c2f32805a80ab339fb4ccda83ae3944"), looks := true }, kinds := [], alts := [], laidByText := true, laidKinds := [.data, .data, .data, .sentinel, .sentinel], laidTests := true, laidLooks := .later }
def RefundChargesUptoCardSaid : Prop := Claim7.holds Tryd.pinned (.plain (OpenSpec.upto refundChargesSpec)) refundChargesUptoCard

/-- THE SECOND FORM's CARD OF 'foyerlaw29.RefundRefuses'. -/
def refundRefusesUptoCard : Claim7 := { stood := { row := refundRefusesUptoRow, standIns := [], harness := (true, "6571fdc78a9cd81dff2bf12a445ef28e4c2f32805a80ab339fb4ccda83ae3944"), looks := true }, kinds := [], alts := [], laidByText := true, laidKinds := [.data, .data, .data, .sentinel, .sentinel], laidTests := true, laidLooks := .later }
def RefundRefusesUptoCardSaid : Prop := Claim7.holds Tryd.pinned (.plain (OpenSpec.upto refundRefusesSpec)) refundRefusesUptoCard
end Rows
end Go.Proofs.YtgpmhaeiccljaaaDoor
