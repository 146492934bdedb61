/-
  No cell of these rows narrows 'for every input' (looked for: loops, veiled, ifaces, maps, wideKeys, modest, calm, conditions, laid).
  DERIVED. THE GIVEN ROWS OF THIS SEAT. 12 by the template 'for every input the law returns true; each argument reads behind the call as it read before'; 0 by the template 'total and deterministic' (their statements: YtaomlhhlefpdeaaTotals.lean).
  GIVEN WITH THE SEED: the statements are not yours to turn. If you find one false, say at which input.
  Laid BY PROGRAM, IN A SANDBOX (cutbox-rows.mjs): the forced cells as the released guide's own fill.sh prints them over the translation f5b2b43e7481a3d7… (all of the seat's roots in one cut). By AI agents, Wed Nov 11 2026. No macro, syntax, notation, axiom, sorry.
-/
import Derived.Test.YtaomlhhlefpdeaaChecked
import GoSem.Claim
import GoSem.ClaimJoined
import GoSem.ClaimMapViews
import Derived.JoinedTies
import Derived.KernelRfl
namespace Go.Proofs.Ytaomlhhlefpdeaa
/- THE CELL 'sum', in the pinned program and in every row, IS THE sha256 OF THE DUMP (.gsa) THAT YtaomlhhlefpdeaaProg.lean LOADS. Nothing in Lean hashes anything: it is a label: what it is worth is what the hold of that sum in a sandbox is worth. -/
noncomputable def Try.pinned : Pinned := { name := "ytaomlhhlefpdeaa", sum := "f5b2b43e7481a3d76a0a3785364665cb718ceb516d640fa6d5e865f12cbeb463", checked := Try.checked }
namespace Rows
def none {H : Type} : Left H := { results := [], args := [] }

/-- 'foyerlaw24.GreedyMatchesReference': WHATEVER THE INPUT: true; the input reads as it did. -/
def greedyMatchesReferenceSpec : ChangeSpec := { name := "greedyMatchesReference", fn := fun _ => fun
  | [d] => { results := [.lit (.bool true)], args := [d] }
  | _ => none }
def greedyMatchesReferenceRow : OpenClaim := { program := "ytaomlhhlefpdeaa", sum := "f5b2b43e7481a3d76a0a3785364665cb718ceb516d640fa6d5e865f12cbeb463", func := "foyer/foyerlaw24.GreedyMatchesReference", spec := "greedyMatchesReference", unfollowed := true, recurses := true, apart := false }
def GreedyMatchesReferenceSaid : Prop := greedyMatchesReferenceRow.holds Try.pinned (OpenSpec.ofChange greedyMatchesReferenceSpec)

/-- ITS FALSE NEIGHBOUR: 'it returns false'. Refute it at one input. -/
def greedyMatchesReferenceWrong : ChangeSpec := { name := "greedyMatchesReference", fn := fun _ => fun
  | [d] => { results := [.lit (.bool false)], args := [d] }
  | _ => none }
def GreedyMatchesReferenceWrongFalsely : Prop := greedyMatchesReferenceRow.holds Try.pinned (OpenSpec.ofChange greedyMatchesReferenceWrong)

/-- 'foyerlaw24.GreedyGroups': WHATEVER THE INPUT: true; the input reads as it did. -/
def greedyGroupsSpec : ChangeSpec := { name := "greedyGroups", fn := fun _ => fun
  | [d1, d2] => { results := [.lit (.bool true)], args := [d1, d2] }
  | _ => none }
def greedyGroupsRow : OpenClaim := { program := "ytaomlhhlefpdeaa", sum := "f5b2b43e7481a3d76a0a3785364665cb718ceb516d640fa6d5e865f12cbeb463", func := "foyer/foyerlaw24.GreedyGroups", spec := "greedyGroups", unfollowed := true, recurses := true, apart := false }
def GreedyGroupsSaid : Prop := greedyGroupsRow.holds Try.pinned (OpenSpec.ofChange greedyGroupsSpec)

/-- ITS FALSE NEIGHBOUR: 'it returns false'. Refute it at one input. -/
def greedyGroupsWrong : ChangeSpec := { name := "greedyGroups", fn := fun _ => fun
  | [d1, d2] => { results := [.lit (.bool false)], args := [d1, d2] }
  | _ => none }
def GreedyGroupsWrongFalsely : Prop := greedyGroupsRow.holds Try.pinned (OpenSpec.ofChange greedyGroupsWrong)

/-- 'foyerlaw24.GreedyRuns': WHATEVER THE INPUT: true; the input reads as it did. -/
def greedyRunsSpec : ChangeSpec := { name := "greedyRuns", fn := fun _ => fun
  | [d] => { results := [.lit (.bool true)], args := [d] }
  | _ => none }
def greedyRunsRow : OpenClaim := { program := "ytaomlhhlefpdeaa", sum := "f5b2b43e7481a3d76a0a3785364665cb718ceb516d640fa6d5e865f12cbeb463", func := "foyer/foyerlaw24.GreedyRuns", spec := "greedyRuns", unfollowed := true, recurses := true, apart := false }
def GreedyRunsSaid : Prop := greedyRunsRow.holds Try.pinned (OpenSpec.ofChange greedyRunsSpec)

/-- ITS FALSE NEIGHBOUR: 'it returns false'. Refute it at one input. -/
def greedyRunsWrong : ChangeSpec := { name := "greedyRuns", fn := fun _ => fun
  | [d] => { results := [.lit (.bool false)], args := [d] }
  | _ => none }
def GreedyRunsWrongFalsely : Prop := greedyRunsRow.holds Try.pinned (OpenSpec.ofChange greedyRunsWrong)

/-- 'foyerlaw24.GreedyLegal': WHATEVER THE INPUT: true; the input reads as it did. -/
def greedyLegalSpec : ChangeSpec := { name := "greedyLegal", fn := fun _ => fun
  | [d1, d2] => { results := [.lit (.bool true)], args := [d1, d2] }
  | _ => none }
def greedyLegalRow : OpenClaim := { program := "ytaomlhhlefpdeaa", sum := "f5b2b43e7481a3d76a0a3785364665cb718ceb516d640fa6d5e865f12cbeb463", func := "foyer/foyerlaw24.GreedyLegal", spec := "greedyLegal", unfollowed := true, recurses := true, apart := false }
def GreedyLegalSaid : Prop := greedyLegalRow.holds Try.pinned (OpenSpec.ofChange greedyLegalSpec)

/-- ITS FALSE NEIGHBOUR: 'it returns false'. Refute it at one input. -/
def greedyLegalWrong : ChangeSpec := { name := "greedyLegal", fn := fun _ => fun
  | [d1, d2] => { results := [.lit (.bool false)], args := [d1, d2] }
  | _ => none }
def GreedyLegalWrongFalsely : Prop := greedyLegalRow.holds Try.pinned (OpenSpec.ofChange greedyLegalWrong)

/-- 'foyerlaw24.GreedySeats': WHATEVER THE INPUT: true; the input reads as it did. -/
def greedySeatsSpec : ChangeSpec := { name := "greedySeats", fn := fun _ => fun
  | [d] => { results := [.lit (.bool true)], args := [d] }
  | _ => none }
def greedySeatsRow : OpenClaim := { program := "ytaomlhhlefpdeaa", sum := "f5b2b43e7481a3d76a0a3785364665cb718ceb516d640fa6d5e865f12cbeb463", func := "foyer/foyerlaw24.GreedySeats", spec := "greedySeats", unfollowed := true, recurses := true, apart := false }
def GreedySeatsSaid : Prop := greedySeatsRow.holds Try.pinned (OpenSpec.ofChange greedySeatsSpec)

/-- ITS FALSE NEIGHBOUR: 'it returns false'. Refute it at one input. -/
def greedySeatsWrong : ChangeSpec := { name := "greedySeats", fn := fun _ => fun
  | [d] => { results := [.lit (.bool false)], args := [d] }
  | _ => none }
def GreedySeatsWrongFalsely : Prop := greedySeatsRow.holds Try.pinned (OpenSpec.ofChange greedySeatsWrong)

/-- 'foyerlaw22.FitMatchesReference': WHATEVER THE INPUT: true; the input reads as it did. -/
def fitMatchesReferenceSpec : ChangeSpec := { name := "fitMatchesReference", fn := fun _ => fun
  | [d1, d2, d3] => { results := [.lit (.bool true)], args := [d1, d2, d3] }
  | _ => none }
def fitMatchesReferenceRow : OpenClaim := { program := "ytaomlhhlefpdeaa", sum := "f5b2b43e7481a3d76a0a3785364665cb718ceb516d640fa6d5e865f12cbeb463", func := "foyer/foyerlaw22.FitMatchesReference", spec := "fitMatchesReference", unfollowed := true, recurses := true, apart := false }
def FitMatchesReferenceSaid : Prop := fitMatchesReferenceRow.holds Try.pinned (OpenSpec.ofChange fitMatchesReferenceSpec)

/-- ITS FALSE NEIGHBOUR: 'it returns false'. Refute it at one input. -/
def fitMatchesReferenceWrong : ChangeSpec := { name := "fitMatchesReference", fn := fun _ => fun
  | [d1, d2, d3] => { results := [.lit (.bool false)], args := [d1, d2, d3] }
  | _ => none }
def FitMatchesReferenceWrongFalsely : Prop := fitMatchesReferenceRow.holds Try.pinned (OpenSpec.ofChange fitMatchesReferenceWrong)

/-- 'foyerlaw22.FitSums': WHATEVER THE INPUT: true; the input reads as it did. -/
def fitSumsSpec : ChangeSpec := { name := "fitSums", fn := fun _ => fun
  | [d1, d2] => { results := [.lit (.bool true)], args := [d1, d2] }
  | _ => none }
def fitSumsRow : OpenClaim := { program := "ytaomlhhlefpdeaa", sum := "f5b2b43e7481a3d76a0a3785364665cb718ceb516d640fa6d5e865f12cbeb463", func := "foyer/foyerlaw22.FitSums", spec := "fitSums", unfollowed := true, recurses := true, apart := false }
def FitSumsSaid : Prop := fitSumsRow.holds Try.pinned (OpenSpec.ofChange fitSumsSpec)

/-- ITS FALSE NEIGHBOUR: 'it returns false'. Refute it at one input. -/
def fitSumsWrong : ChangeSpec := { name := "fitSums", fn := fun _ => fun
  | [d1, d2] => { results := [.lit (.bool false)], args := [d1, d2] }
  | _ => none }
def FitSumsWrongFalsely : Prop := fitSumsRow.holds Try.pinned (OpenSpec.ofChange fitSumsWrong)

/-- 'foyerlaw22.FitBound': WHATEVER THE INPUT: true; the input reads as it did. -/
def fitBoundSpec : ChangeSpec := { name := "fitBound", fn := fun _ => fun
  | [d1, d2] => { results := [.lit (.bool true)], args := [d1, d2] }
  | _ => none }
def fitBoundRow : OpenClaim := { program := "ytaomlhhlefpdeaa", sum := "f5b2b43e7481a3d76a0a3785364665cb718ceb516d640fa6d5e865f12cbeb463", func := "foyer/foyerlaw22.FitBound", spec := "fitBound", unfollowed := true, recurses := true, apart := false }
def FitBoundSaid : Prop := fitBoundRow.holds Try.pinned (OpenSpec.ofChange fitBoundSpec)

/-- ITS FALSE NEIGHBOUR: 'it returns false'. Refute it at one input. -/
def fitBoundWrong : ChangeSpec := { name := "fitBound", fn := fun _ => fun
  | [d1, d2] => { results := [.lit (.bool false)], args := [d1, d2] }
  | _ => none }
def FitBoundWrongFalsely : Prop := fitBoundRow.holds Try.pinned (OpenSpec.ofChange fitBoundWrong)

/-- 'foyerlaw22.FitSound': WHATEVER THE INPUT: true; the input reads as it did. -/
def fitSoundSpec : ChangeSpec := { name := "fitSound", fn := fun _ => fun
  | [d1, d2, d3, d4] => { results := [.lit (.bool true)], args := [d1, d2, d3, d4] }
  | _ => none }
def fitSoundRow : OpenClaim := { program := "ytaomlhhlefpdeaa", sum := "f5b2b43e7481a3d76a0a3785364665cb718ceb516d640fa6d5e865f12cbeb463", func := "foyer/foyerlaw22.FitSound", spec := "fitSound", unfollowed := true, recurses := true, apart := false }
def FitSoundSaid : Prop := fitSoundRow.holds Try.pinned (OpenSpec.ofChange fitSoundSpec)

/-- ITS FALSE NEIGHBOUR: 'it returns false'. Refute it at one input. -/
def fitSoundWrong : ChangeSpec := { name := "fitSound", fn := fun _ => fun
  | [d1, d2, d3, d4] => { results := [.lit (.bool false)], args := [d1, d2, d3, d4] }
  | _ => none }
def FitSoundWrongFalsely : Prop := fitSoundRow.holds Try.pinned (OpenSpec.ofChange fitSoundWrong)

/-- 'foyerlaw22.FitExact': WHATEVER THE INPUT: true; the input reads as it did. -/
def fitExactSpec : ChangeSpec := { name := "fitExact", fn := fun _ => fun
  | [d1, d2, d3] => { results := [.lit (.bool true)], args := [d1, d2, d3] }
  | _ => none }
def fitExactRow : OpenClaim := { program := "ytaomlhhlefpdeaa", sum := "f5b2b43e7481a3d76a0a3785364665cb718ceb516d640fa6d5e865f12cbeb463", func := "foyer/foyerlaw22.FitExact", spec := "fitExact", unfollowed := true, recurses := true, apart := false }
def FitExactSaid : Prop := fitExactRow.holds Try.pinned (OpenSpec.ofChange fitExactSpec)

/-- ITS FALSE NEIGHBOUR: 'it returns false'. Refute it at one input. -/
def fitExactWrong : ChangeSpec := { name := "fitExact", fn := fun _ => fun
  | [d1, d2, d3] => { results := [.lit (.bool false)], args := [d1, d2, d3] }
  | _ => none }
def FitExactWrongFalsely : Prop := fitExactRow.holds Try.pinned (OpenSpec.ofChange fitExactWrong)

/-- 'foyerlaw22.FitFewer': WHATEVER THE INPUT: true; the input reads as it did. -/
def fitFewerSpec : ChangeSpec := { name := "fitFewer", fn := fun _ => fun
  | [d1, d2, d3, d4] => { results := [.lit (.bool true)], args := [d1, d2, d3, d4] }
  | _ => none }
def fitFewerRow : OpenClaim := { program := "ytaomlhhlefpdeaa", sum := "f5b2b43e7481a3d76a0a3785364665cb718ceb516d640fa6d5e865f12cbeb463", func := "foyer/foyerlaw22.FitFewer", spec := "fitFewer", unfollowed := true, recurses := true, apart := false }
def FitFewerSaid : Prop := fitFewerRow.holds Try.pinned (OpenSpec.ofChange fitFewerSpec)

/-- ITS FALSE NEIGHBOUR: 'it returns false'. Refute it at one input. -/
def fitFewerWrong : ChangeSpec := { name := "fitFewer", fn := fun _ => fun
  | [d1, d2, d3, d4] => { results := [.lit (.bool false)], args := [d1, d2, d3, d4] }
  | _ => none }
def FitFewerWrongFalsely : Prop := fitFewerRow.holds Try.pinned (OpenSpec.ofChange fitFewerWrong)

/-- 'foyerlaw22.FitTurned': WHATEVER THE INPUT: true; the input reads as it did. -/
def fitTurnedSpec : ChangeSpec := { name := "fitTurned", fn := fun _ => fun
  | [d1, d2] => { results := [.lit (.bool true)], args := [d1, d2] }
  | _ => none }
def fitTurnedRow : OpenClaim := { program := "ytaomlhhlefpdeaa", sum := "f5b2b43e7481a3d76a0a3785364665cb718ceb516d640fa6d5e865f12cbeb463", func := "foyer/foyerlaw22.FitTurned", spec := "fitTurned", unfollowed := true, recurses := true, apart := false }
def FitTurnedSaid : Prop := fitTurnedRow.holds Try.pinned (OpenSpec.ofChange fitTurnedSpec)

/-- ITS FALSE NEIGHBOUR: 'it returns false'. Refute it at one input. -/
def fitTurnedWrong : ChangeSpec := { name := "fitTurned", fn := fun _ => fun
  | [d1, d2] => { results := [.lit (.bool false)], args := [d1, d2] }
  | _ => none }
def FitTurnedWrongFalsely : Prop := fitTurnedRow.holds Try.pinned (OpenSpec.ofChange fitTurnedWrong)

/- THE SECOND FORM. 'bulk': how many values and letters a reading holds, each counted each time it is reached (what is shared counts as often as it is met; a slice's spare places count too). A statement '..UptoSaid' is the law's where the arguments, and the package variables that the reading takes, are together of bulk at most 1048576: NARROWER than '..Said'. Prove '..Said' where nothing that the law and all that it calls make is longer than what came in: it says more and counts as full. Else prove '..UptoSaid'. A law counts once. -/
mutual
def uptoBulk {H : Type} : DataW H → Nat
  | .lit (.string bytes) => bytes.length + 1
  | .lit _ => 1
  | .nil => 1
  | .ptr d => uptoBulk d + 1
  | .slice elems spare => uptoBulkAll elems + uptoBulkAll spare + 1
  | .agg parts => uptoBulkAll parts + 1
  | .iface _ d => uptoBulk d + 1
  | .map entries => uptoBulkEntries entries + 1
  | .held _ => 1
def uptoBulkAll {H : Type} : List (DataW H) → Nat
  | [] => 0
  | d :: r => uptoBulk d + uptoBulkAll r
def uptoBulkEntries {H : Type} : List (Lit × DataW H) → Nat
  | [] => 0
  | x :: r => uptoBulkEntry x + uptoBulkEntries r
def uptoBulkEntry {H : Type} : Lit × DataW H → Nat
  | (.string bytes, d) => bytes.length + uptoBulk d + 1
  | (_, d) => uptoBulk d + 1
 end
def uptoSmall : (H : Type) → List (DataW H) → Bool := fun _ ds => decide (uptoBulkAll ds ≤ 1048576)
def OpenSpec.upto (s : _root_.Go.ChangeSpec) : _root_.Go.OpenSpec := { _root_.Go.OpenSpec.ofChange s with cond := some uptoSmall }

/-- 'foyerlaw24.GreedyMatchesReference', WHERE WHAT IT READS IS OF BULK AT MOST 1048576: true; the input reads as it did. -/
def greedyMatchesReferenceUptoRow : OpenClaim := { program := "ytaomlhhlefpdeaa", sum := "f5b2b43e7481a3d76a0a3785364665cb718ceb516d640fa6d5e865f12cbeb463", func := "foyer/foyerlaw24.GreedyMatchesReference", spec := "greedyMatchesReference", unfollowed := true, recurses := true, apart := false, narrowed := true }
def GreedyMatchesReferenceUptoSaid : Prop := greedyMatchesReferenceUptoRow.holds Try.pinned (OpenSpec.upto greedyMatchesReferenceSpec)

/-- 'foyerlaw24.GreedyGroups', WHERE WHAT IT READS IS OF BULK AT MOST 1048576: true; the input reads as it did. -/
def greedyGroupsUptoRow : OpenClaim := { program := "ytaomlhhlefpdeaa", sum := "f5b2b43e7481a3d76a0a3785364665cb718ceb516d640fa6d5e865f12cbeb463", func := "foyer/foyerlaw24.GreedyGroups", spec := "greedyGroups", unfollowed := true, recurses := true, apart := false, narrowed := true }
def GreedyGroupsUptoSaid : Prop := greedyGroupsUptoRow.holds Try.pinned (OpenSpec.upto greedyGroupsSpec)

/-- 'foyerlaw24.GreedyRuns', WHERE WHAT IT READS IS OF BULK AT MOST 1048576: true; the input reads as it did. -/
def greedyRunsUptoRow : OpenClaim := { program := "ytaomlhhlefpdeaa", sum := "f5b2b43e7481a3d76a0a3785364665cb718ceb516d640fa6d5e865f12cbeb463", func := "foyer/foyerlaw24.GreedyRuns", spec := "greedyRuns", unfollowed := true, recurses := true, apart := false, narrowed := true }
def GreedyRunsUptoSaid : Prop := greedyRunsUptoRow.holds Try.pinned (OpenSpec.upto greedyRunsSpec)

/-- 'foyerlaw24.GreedyLegal', WHERE WHAT IT READS IS OF BULK AT MOST 1048576: true; the input reads as it did. -/
def greedyLegalUptoRow : OpenClaim := { program := "ytaomlhhlefpdeaa", sum := "f5b2b43e7481a3d76a0a3785364665cb718ceb516d640fa6d5e865f12cbeb463", func := "foyer/foyerlaw24.GreedyLegal", spec := "greedyLegal", unfollowed := true, recurses := true, apart := false, narrowed := true }
def GreedyLegalUptoSaid : Prop := greedyLegalUptoRow.holds Try.pinned (OpenSpec.upto greedyLegalSpec)

/-- 'foyerlaw24.GreedySeats', WHERE WHAT IT READS IS OF BULK AT MOST 1048576: true; the input reads as it did. -/
def greedySeatsUptoRow : OpenClaim := { program := "ytaomlhhlefpdeaa", sum := "f5b2b43e7481a3d76a0a3785364665cb718ceb516d640fa6d5e865f12cbeb463", func := "foyer/foyerlaw24.GreedySeats", spec := "greedySeats", unfollowed := true, recurses := true, apart := false, narrowed := true }
def GreedySeatsUptoSaid : Prop := greedySeatsUptoRow.holds Try.pinned (OpenSpec.upto greedySeatsSpec)

/-- 'foyerlaw22.FitMatchesReference', WHERE WHAT IT READS IS OF BULK AT MOST 1048576: true; the input reads as it did. -/
def fitMatchesReferenceUptoRow : OpenClaim := { program := "ytaomlhhlefpdeaa", sum := "f5b2b43e7481a3d76a0a3785364665cb718ceb516d640fa6d5e865f12cbeb463", func := "foyer/foyerlaw22.FitMatchesReference", spec := "fitMatchesReference", unfollowed := true, recurses := true, apart := false, narrowed := true }
def FitMatchesReferenceUptoSaid : Prop := fitMatchesReferenceUptoRow.holds Try.pinned (OpenSpec.upto fitMatchesReferenceSpec)

/-- 'foyerlaw22.FitSums', WHERE WHAT IT READS IS OF BULK AT MOST 1048576: true; the input reads as it did. -/
def fitSumsUptoRow : OpenClaim := { program := "ytaomlhhlefpdeaa", sum := "f5b2b43e7481a3d76a0a3785364665cb718ceb516d640fa6d5e865f12cbeb463", func := "foyer/foyerlaw22.FitSums", spec := "fitSums", unfollowed := true, recurses := true, apart := false, narrowed := true }
def FitSumsUptoSaid : Prop := fitSumsUptoRow.holds Try.pinned (OpenSpec.upto fitSumsSpec)

/-- 'foyerlaw22.FitBound', WHERE WHAT IT READS IS OF BULK AT MOST 1048576: true; the input reads as it did. -/
def fitBoundUptoRow : OpenClaim := { program := "ytaomlhhlefpdeaa", sum := "f5b2b43e7481a3d76a0a3785364665cb718ceb516d640fa6d5e865f12cbeb463", func := "foyer/foyerlaw22.FitBound", spec := "fitBound", unfollowed := true, recurses := true, apart := false, narrowed := true }
def FitBoundUptoSaid : Prop := fitBoundUptoRow.holds Try.pinned (OpenSpec.upto fitBoundSpec)

/-- 'foyerlaw22.FitSound', WHERE WHAT IT READS IS OF BULK AT MOST 1048576: true; the input reads as it did. -/
def fitSoundUptoRow : OpenClaim := { program := "ytaomlhhlefpdeaa", sum := "f5b2b43e7481a3d76a0a3785364665cb718ceb516d640fa6d5e865f12cbeb463", func := "foyer/foyerlaw22.FitSound", spec := "fitSound", unfollowed := true, recurses := true, apart := false, narrowed := true }
def FitSoundUptoSaid : Prop := fitSoundUptoRow.holds Try.pinned (OpenSpec.upto fitSoundSpec)

/-- 'foyerlaw22.FitExact', WHERE WHAT IT READS IS OF BULK AT MOST 1048576: true; the input reads as it did. -/
def fitExactUptoRow : OpenClaim := { program := "ytaomlhhlefpdeaa", sum := "f5b2b43e7481a3d76a0a3785364665cb718ceb516d640fa6d5e865f12cbeb463", func := "foyer/foyerlaw22.FitExact", spec := "fitExact", unfollowed := true, recurses := true, apart := false, narrowed := true }
def FitExactUptoSaid : Prop := fitExactUptoRow.holds Try.pinned (OpenSpec.upto fitExactSpec)

/-- 'foyerlaw22.FitFewer', WHERE WHAT IT READS IS OF BULK AT MOST 1048576: true; the input reads as it did. -/
def fitFewerUptoRow : OpenClaim := { program := "ytaomlhhlefpdeaa", sum := "f5b2b43e7481a3d76a0a3785364665cb718ceb516d640fa6d5e865f12cbeb463", func := "foyer/foyerlaw22.FitFewer", spec := "fitFewer", unfollowed := true, recurses := true, apart := false, narrowed := true }
def FitFewerUptoSaid : Prop := fitFewerUptoRow.holds Try.pinned (OpenSpec.upto fitFewerSpec)

/-- 'foyerlaw22.FitTurned', WHERE WHAT IT READS IS OF BULK AT MOST 1048576: true; the input reads as it did. -/
def fitTurnedUptoRow : OpenClaim := { program := "ytaomlhhlefpdeaa", sum := "f5b2b43e7481a3d76a0a3785364665cb718ceb516d640fa6d5e865f12cbeb463", func := "foyer/foyerlaw22.FitTurned", spec := "fitTurned", unfollowed := true, recurses := true, apart := false, narrowed := true }
def FitTurnedUptoSaid : Prop := fitTurnedUptoRow.holds Try.pinned (OpenSpec.upto fitTurnedSpec)

end Rows
end Go.Proofs.Ytaomlhhlefpdeaa
