/-
  DERIVED. GIVEN WITH THE SEED: THE CARDS: each row of YtiapfpdkcdhhoaaDoorRows.lean that lists a variable, with what it lists TIED to the program's text (the seventh form; the later family's looks); each row that meets fmt, with fmt's text TOLD by the authors' own Lean function (tested against real Go, not proved from fmt's source: count such statements apart). THE CARD IS WHAT COUNTS. Prove the row's statement (the work); the ties are given (YtiapfpdkcdhhoaaDoorTie.lean); close each card by the builder's one call (the guide's Derived/Test/ToyasCard.lean, 'card_holds'). Laid BY PROGRAM, IN A SANDBOX (cutbox-door.mjs). By AI agents, Wed Nov 11 2026. No macro, syntax, notation, axiom, sorry.
-/
import Derived.Test.YtiapfpdkcdhhoaaDoorRows
import GoSem.ClaimSeven
namespace Go.Proofs.YtiapfpdkcdhhoaaDoor
namespace Rows

/-- THE TIED CARD OF 'foyerlaw01.MoneyShares'. -/
def moneySharesCard : Claim7 := { stood := { row := moneySharesRow, standIns := [], harness := (true, "030bc3bd7296fb3160e209a7bdb380a4a2049a64ed03ad3e410bd52beee2a49f"), looks := true }, kinds := [], alts := [], laidByText := true, laidKinds := [.data, .data, .data, .data, .sentinel, .sentinel, .pinned], laidTests := true, laidLooks := .later }
def MoneySharesCardSaid : Prop := Claim7.holds Tryd.pinned (.plain (OpenSpec.ofChange moneySharesSpec)) moneySharesCard

/-- THE TIED CARD OF 'foyerlaw01.MoneySplits'. -/
def moneySplitsCard : Claim7 := { stood := { row := moneySplitsRow, standIns := [], harness := (true, "030bc3bd7296fb3160e209a7bdb380a4a2049a64ed03ad3e410bd52beee2a49f"), looks := true }, kinds := [], alts := [], laidByText := true, laidKinds := [.data, .data, .data, .data, .sentinel, .sentinel, .pinned], laidTests := true, laidLooks := .later }
def MoneySplitsCardSaid : Prop := Claim7.holds Tryd.pinned (.plain (OpenSpec.ofChange moneySplitsSpec)) moneySplitsCard

/-- THE TIED CARD OF 'foyerlaw01.MoneyFair'. -/
def moneyFairCard : Claim7 := { stood := { row := moneyFairRow, standIns := [], harness := (true, "030bc3bd7296fb3160e209a7bdb380a4a2049a64ed03ad3e410bd52beee2a49f"), looks := true }, kinds := [], alts := [], laidByText := true, laidKinds := [.data, .data, .data, .data, .sentinel, .sentinel, .pinned], laidTests := true, laidLooks := .later }
def MoneyFairCardSaid : Prop := Claim7.holds Tryd.pinned (.plain (OpenSpec.ofChange moneyFairSpec)) moneyFairCard

/-- THE TIED CARD OF 'foyerlaw01.MoneyScales'. -/
def moneyScalesCard : Claim7 := { stood := { row := moneyScalesRow, standIns := [], harness := (true, "030bc3bd7296fb3160e209a7bdb380a4a2049a64ed03ad3e410bd52beee2a49f"), looks := true }, kinds := [], alts := [], laidByText := true, laidKinds := [.data, .data, .data, .data, .sentinel, .sentinel, .pinned], laidTests := true, laidLooks := .later }
def MoneyScalesCardSaid : Prop := Claim7.holds Tryd.pinned (.plain (OpenSpec.ofChange moneyScalesSpec)) moneyScalesCard

/-- THE TIED CARD OF 'foyerlaw01.MoneyTexts'. -/
def moneyTextsCard : Claim7 := { stood := { row := moneyTextsRow, standIns := [], harness := (true, "030bc3bd7296fb3160e209a7bdb380a4a2049a64ed03ad3e410bd52beee2a49f"), looks := true }, kinds := [], alts := [], laidByText := true, laidKinds := [.data, .data, .data, .data, .sentinel, .sentinel, .pinned], laidTests := true, laidLooks := .later }
def MoneyTextsCardSaid : Prop := Claim7.holds Tryd.pinned (.plain (OpenSpec.ofChange moneyTextsSpec)) moneyTextsCard

/-- THE TIED CARD OF 'foyerlaw01.MoneyMatchesReference'. -/
def moneyMatchesReferenceCard : Claim7 := { stood := { row := moneyMatchesReferenceRow, standIns := [], harness := (true, "030bc3bd7296fb3160e209a7bdb380a4a2049a64ed03ad3e410bd52beee2a49f"), looks := true }, kinds := [], alts := [], laidByText := true, laidKinds := [.data, .data, .data, .data, .sentinel, .sentinel, .pinned], laidTests := true, laidLooks := .later }
def MoneyMatchesReferenceCardSaid : Prop := Claim7.holds Tryd.pinned (.plain (OpenSpec.ofChange moneyMatchesReferenceSpec)) moneyMatchesReferenceCard

/-- THE TIED CARD OF 'foyerlaw01.MoneySums'. -/
def moneySumsCard : Claim7 := { stood := { row := moneySumsRow, standIns := [], harness := (true, "030bc3bd7296fb3160e209a7bdb380a4a2049a64ed03ad3e410bd52beee2a49f"), looks := true }, kinds := [], alts := [], laidByText := true, laidKinds := [.data, .data, .data, .data, .sentinel, .sentinel, .pinned], laidTests := true, laidLooks := .later }
def MoneySumsCardSaid : Prop := Claim7.holds Tryd.pinned (.plain (OpenSpec.ofChange moneySumsSpec)) moneySumsCard

/-- THE SECOND FORM's CARD OF 'foyerlaw01.MoneyShares'. -/
def moneySharesUptoCard : Claim7 := { stood := { row := moneySharesUptoRow, standIns := [], harness := (true, "030bc3bd7296fb3160e209a7bdb380a4a2049a64ed03ad3e410bd52beee2a49f"), looks := true }, kinds := [], alts := [], laidByText := true, laidKinds := [.data, .data, .data, .data, .sentinel, .sentinel, .pinned], laidTests := true, laidLooks := .later }
def MoneySharesUptoCardSaid : Prop := Claim7.holds Tryd.pinned (.plain (OpenSpec.upto moneySharesSpec)) moneySharesUptoCard

/-- THE SECOND FORM's CARD OF 'foyerlaw01.MoneySplits'. -/
def moneySplitsUptoCard : Claim7 := { stood := { row := moneySplitsUptoRow, standIns := [], harness := (true, "030bc3bd7296fb3160e209a7bdb380a4a2049a64ed03ad3e410bd52beee2a49f"), looks := true }, kinds := [], alts := [], laidByText := true, laidKinds := [.data, .data, .data, .data, .sentinel, .sentinel, .pinned], laidTests := true, laidLooks := .later }
def MoneySplitsUptoCardSaid : Prop := Claim7.holds Tryd.pinned (.plain (OpenSpec.upto moneySplitsSpec)) moneySplitsUptoCard

/-- THE SECOND FORM's CARD OF 'foyerlaw01.MoneyFair'. -/
def moneyFairUptoCard : Claim7 := { stood := { row := moneyFairUptoRow, standIns := [], harness := (true, "030bc3bd7296fb3160e209a7bdb380a4a2049a64ed03ad3e410bd52beee2a49f"), looks := true }, kinds := [], alts := [], laidByText := true, laidKinds := [.data, .data, .data, .data, .sentinel, .sentinel, .pinned], laidTests := true, laidLooks := .later }
def MoneyFairUptoCardSaid : Prop := Claim7.holds Tryd.pinned (.plain (OpenSpec.upto moneyFairSpec)) moneyFairUptoCard

/-- THE SECOND FORM's CARD OF 'foyerlaw01.MoneyScales'. -/
def moneyScalesUptoCard : Claim7 := { stood := { row := moneyScalesUptoRow, standIns := [], harness := (true, "030bc3bd7296fb3160e209a7bdb380a4a2049a64ed03ad3e410bd52beee2a49f"), looks := true }, kinds := [], alts := [], laidByText := true, laidKinds := [.data, .data, .data, .data, .sentinel, .sentinel, .pinned], laidTests := true, laidLooks := .later }
def MoneyScalesUptoCardSaid : Prop := Claim7.holds Tryd.pinned (.plain (OpenSpec.upto moneyScalesSpec)) moneyScalesUptoCard

/-- THE SECOND FORM's CARD OF 'foyerlaw01.MoneyTexts'. -/
def moneyTextsUptoCard : Claim7 := { stood := { row := moneyTextsUptoRow, standIns := [], harness := (true, "030bc3bd7296fb3160e209a7bdb380a4a2049a64ed03ad3e410bd52beee2a49f"), looks := true }, kinds := [], alts := [], laidByText := true, laidKinds := [.data, .data, .data, .data, .sentinel, .sentinel, .pinned], laidTests := true, laidLooks := .later }
def MoneyTextsUptoCardSaid : Prop := Claim7.holds Tryd.pinned (.plain (OpenSpec.upto moneyTextsSpec)) moneyTextsUptoCard

/-- THE SECOND FORM's CARD OF 'foyerlaw01.MoneyMatchesReference'. -/
def moneyMatchesReferenceUptoCard : Claim7 := { stood := { row := moneyMatchesReferenceUptoRow, standIns := [], harness := (true, "030bc3bd7296fb3160e209a7bdb380a4a2049a64ed03ad3e410bd52beee2a49f"), looks := true }, kinds := [], alts := [], laidByText := true, laidKinds := [.data, .data, .data, .data, .sentinel, .sentinel, .pinned], laidTests := true, laidLooks := .later }
def MoneyMatchesReferenceUptoCardSaid : Prop := Claim7.holds Tryd.pinned (.plain (OpenSpec.upto moneyMatchesReferenceSpec)) moneyMatchesReferenceUptoCard

/-- THE SECOND FORM's CARD OF 'foyerlaw01.MoneySums'. -/
def moneySumsUptoCard : Claim7 := { stood := { row := moneySumsUptoRow, standIns := [], harness := (true, "030bc3bd7296fb3160e209a7bdb380a4a2049a64ed03ad3e410bd52beee2a49f"), looks := true }, kinds := [], alts := [], laidByText := true, laidKinds := [.data, .data, .data, .data, .sentinel, .sentinel, .pinned], laidTests := true, laidLooks := .later }
def MoneySumsUptoCardSaid : Prop := Claim7.holds Tryd.pinned (.plain (OpenSpec.upto moneySumsSpec)) moneySumsUptoCard
end Rows
end Go.Proofs.YtiapfpdkcdhhoaaDoor
