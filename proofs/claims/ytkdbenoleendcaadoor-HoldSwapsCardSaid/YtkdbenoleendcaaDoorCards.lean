/-
  DERIVED. GIVEN WITH THE SEED: THE CARDS: each row of YtkdbenoleendcaaDoorRows.lean that lists a variable, with what it lists TIED to the program's text (the seventh form; the later family's looks); each row that meets fmt, with fmt's text TOLD by the authors' own Lean function (tested against real Go, not proved from fmt's source: count such statements apart). THE CARD IS WHAT COUNTS. Prove the row's statement (the work); the ties are given (YtkdbenoleendcaaDoorTie.lean); close each card by the builder's one call (the guide's Derived/Test/ToyasCard.lean, 'card_holds'). Laid BY PROGRAM, IN A SANDBOX (cutbox-door.mjs). By AI agents, Wed Nov 11 2026. No macro, syntax, notation, axiom, sorry.
-/
import Derived.Test.YtkdbenoleendcaaDoorRows
import GoSem.ClaimSeven
namespace Go.Proofs.YtkdbenoleendcaaDoor
namespace Rows

/-- THE TIED CARD OF 'foyerlaw26.HoldOnes'. -/
def holdOnesCard : Claim7 := { stood := { row := holdOnesRow, standIns := [], harness := (true, "f647ba651a8fc0e8cabbbbccdad4de0958bd909bc58882051f076bf57cd69593"), looks := true }, kinds := [], alts := [], laidByText := true, laidKinds := [.data, .data, .data, .sentinel, .sentinel], laidTests := true, laidLooks := .later }
def HoldOnesCardSaid : Prop := Claim7.holds Tryd.pinned (.plain (OpenSpec.ofChange holdOnesSpec)) holdOnesCard

/-- THE TIED CARD OF 'foyerlaw26.HoldAtomic'. -/
def holdAtomicCard : Claim7 := { stood := { row := holdAtomicRow, standIns := [], harness := (true, "f647ba651a8fc0e8cabbbbccdad4de0958bd909bc58882051f076bf57cd69593"), looks := true }, kinds := [], alts := [], laidByText := true, laidKinds := [.data, .data, .data, .sentinel, .sentinel], laidTests := true, laidLooks := .later }
def HoldAtomicCardSaid : Prop := Claim7.holds Tryd.pinned (.plain (OpenSpec.ofChange holdAtomicSpec)) holdAtomicCard

/-- THE TIED CARD OF 'foyerlaw26.HoldTime'. -/
def holdTimeCard : Claim7 := { stood := { row := holdTimeRow, standIns := [], harness := (true, "f647ba651a8fc0e8cabbbbccdad4de0958bd909bc58882051f076bf57cd69593"), looks := true }, kinds := [], alts := [], laidByText := true, laidKinds := [.data, .data, .data, .sentinel, .sentinel], laidTests := true, laidLooks := .later }
def HoldTimeCardSaid : Prop := Claim7.holds Tryd.pinned (.plain (OpenSpec.ofChange holdTimeSpec)) holdTimeCard

/-- THE TIED CARD OF 'foyerlaw26.HoldSwaps'. -/
def holdSwapsCard : Claim7 := { stood := { row := holdSwapsRow, standIns := [], harness := (true, "f647ba651a8fc0e8cabbbbccdad4de0958bd909bc58882051f076bf57cd69593"), looks := true }, kinds := [], alts := [], laidByText := true, laidKinds := [.data, .data, .data, .sentinel, .sentinel], laidTests := true, laidLooks := .later }
def HoldSwapsCardSaid : Prop := Claim7.holds Tryd.pinned (.plain (OpenSpec.ofChange holdSwapsSpec)) holdSwapsCard

/-- THE TIED CARD OF 'foyerlaw26.HoldFrees'. -/
def holdFreesCard : Claim7 := { stood := { row := holdFreesRow, standIns := [], harness := (true, "f647ba651a8fc0e8cabbbbccdad4de0958bd909bc58882051f076bf57cd69593"), looks := true }, kinds := [], alts := [], laidByText := true, laidKinds := [.data, .data, .data, .sentinel, .sentinel], laidTests := true, laidLooks := .later }
def HoldFreesCardSaid : Prop := Claim7.holds Tryd.pinned (.plain (OpenSpec.ofChange holdFreesSpec)) holdFreesCard

/-- THE TIED CARD OF 'foyerlaw26.HoldOrder'. -/
def holdOrderCard : Claim7 := { stood := { row := holdOrderRow, standIns := [], harness := (true, "f647ba651a8fc0e8cabbbbccdad4de0958bd909bc58882051f076bf57cd69593"), looks := true }, kinds := [], alts := [], laidByText := true, laidKinds := [.data, .data, .data, .sentinel, .sentinel], laidTests := true, laidLooks := .later }
def HoldOrderCardSaid : Prop := Claim7.holds Tryd.pinned (.plain (OpenSpec.ofChange holdOrderSpec)) holdOrderCard

/-- THE SECOND FORM's CARD OF 'foyerlaw26.HoldOnes'. -/
def holdOnesUptoCard : Claim7 := { stood := { row := holdOnesUptoRow, standIns := [], harness := (true, "f647ba651a8fc0e8cabbbbccdad4de0958bd909bc58882051f076bf57cd69593"), looks := true }, kinds := [], alts := [], laidByText := true, laidKinds := [.data, .data, .data, .sentinel, .sentinel], laidTests := true, laidLooks := .later }
def HoldOnesUptoCardSaid : Prop := Claim7.holds Tryd.pinned (.plain (OpenSpec.upto holdOnesSpec)) holdOnesUptoCard

/-- THE SECOND FORM's CARD OF 'foyerlaw26.HoldAtomic'. -/
def holdAtomicUptoCard : Claim7 := { stood := { row := holdAtomicUptoRow, standIns := [], harness := (true, "f647ba651a8fc0e8cabbbbccdad4de0958bd909bc58882051f076bf57cd69593"), looks := true }, kinds := [], alts := [], laidByText := true, laidKinds := [.data, .data, .data, .sentinel, .sentinel], laidTests := true, laidLooks := .later }
def HoldAtomicUptoCardSaid : Prop := Claim7.holds Tryd.pinned (.plain (OpenSpec.upto holdAtomicSpec)) holdAtomicUptoCard

/-- THE SECOND FORM's CARD OF 'foyerlaw26.HoldTime'. -/
def holdTimeUptoCard : Claim7 := { stood := { row := holdTimeUptoRow, standIns := [], harness := (true, "f647ba651a8fc0e8cabbbbccdad4de0958bd909bc58882051f076bf57cd69593"), looks := true }, kinds := [], alts := [], laidByText := true, laidKinds := [.data, .data, .data, .sentinel, .sentinel], laidTests := true, laidLooks := .later }
def HoldTimeUptoCardSaid : Prop := Claim7.holds Tryd.pinned (.plain (OpenSpec.upto holdTimeSpec)) holdTimeUptoCard

/-- THE SECOND FORM's CARD OF 'foyerlaw26.HoldSwaps'. -/
def holdSwapsUptoCard : Claim7 := { stood := { row := holdSwapsUptoRow, standIns := [], harness := (true, "f647ba651a8fc0e8cabbbbccdad4de0958bd909bc58882051f076bf57cd69593"), looks := true }, kinds := [], alts := [], laidByText := true, laidKinds := [.data, .data, .data, .sentinel, .sentinel], laidTests := true, laidLooks := .later }
def HoldSwapsUptoCardSaid : Prop := Claim7.holds Tryd.pinned (.plain (OpenSpec.upto holdSwapsSpec)) holdSwapsUptoCard

/-- THE SECOND FORM's CARD OF 'foyerlaw26.HoldFrees'. -/
def holdFreesUptoCard : Claim7 := { stood := { row := holdFreesUptoRow, standIns := [], harness := (true, "f647ba651a8fc0e8cabbbbccdad4de0958bd909bc58882051f076bf57cd69593"), looks := true }, kinds := [], alts := [], laidByText := true, laidKinds := [.data, .data, .data, .sentinel, .sentinel], laidTests := true, laidLooks := .later }
def HoldFreesUptoCardSaid : Prop := Claim7.holds Tryd.pinned (.plain (OpenSpec.upto holdFreesSpec)) holdFreesUptoCard

/-- THE SECOND FORM's CARD OF 'foyerlaw26.HoldOrder'. -/
def holdOrderUptoCard : Claim7 := { stood := { row := holdOrderUptoRow, standIns := [], harness := (true, "f647ba651a8fc0e8cabbbbccdad4de0958bd909bc58882051f076bf57cd69593"), looks := true }, kinds := [], alts := [], laidByText := true, laidKinds := [.data, .data, .data, .sentinel, .sentinel], laidTests := true, laidLooks := .later }
def HoldOrderUptoCardSaid : Prop := Claim7.holds Tryd.pinned (.plain (OpenSpec.upto holdOrderSpec)) holdOrderUptoCard
end Rows
end Go.Proofs.YtkdbenoleendcaaDoor
