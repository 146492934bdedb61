/-
  No cell of these rows narrows 'for every input' (looked for: loops, veiled, ifaces, maps, wideKeys, modest, calm, conditions, laid).
  DERIVED. THE GIVEN ROWS OF THIS SEAT. 6 by the template 'for every input the law returns true; each argument reads behind the call as it read before'; 0 by the template 'total and deterministic' (their statements: YtmcdhggnpfhlmaaTotals.lean).
  GIVEN WITH THE SEED: the statements are not yours to turn. If you find one false, say at which input.
  Laid BY PROGRAM, IN A SANDBOX (cutbox-rows.mjs): the forced cells as the released guide's own fill.sh prints them over the translation 578e71b1858e58ba… (all of the seat's roots in one cut). By AI agents, Wed Nov 11 2026. No macro, syntax, notation, axiom, sorry.
-/
import Derived.Test.YtmcdhggnpfhlmaaChecked
import GoSem.Claim
import GoSem.ClaimJoined
import GoSem.ClaimMapViews
import Derived.JoinedTies
import Derived.KernelRfl
namespace Go.Proofs.Ytmcdhggnpfhlmaa
/- THE CELL 'sum', in the pinned program and in every row, IS THE sha256 OF THE DUMP (.gsa) THAT YtmcdhggnpfhlmaaProg.lean LOADS. Nothing in Lean hashes anything: it is a label: what it is worth is what the hold of that sum in a sandbox is worth. -/
noncomputable def Try.pinned : Pinned := { name := "ytmcdhggnpfhlmaa", sum := "578e71b1858e58bac51852700e25f1bf0b7855ac58b8c8cc46f956863d7df866", checked := Try.checked }
namespace Rows
def none {H : Type} : Left H := { results := [], args := [] }

/-- 'foyerlaw10.HallPlaces': WHATEVER THE INPUT: true; the input reads as it did. -/
def hallPlacesSpec : ChangeSpec := { name := "hallPlaces", fn := fun _ => fun
  | [d] => { results := [.lit (.bool true)], args := [d] }
  | _ => none }
def hallPlacesRow : OpenClaim := { program := "ytmcdhggnpfhlmaa", sum := "578e71b1858e58bac51852700e25f1bf0b7855ac58b8c8cc46f956863d7df866", func := "foyer/foyerlaw10.HallPlaces", spec := "hallPlaces", unfollowed := true, recurses := true, plainKeys := false, apart := false }
def HallPlacesSaid : Prop := hallPlacesRow.holds Try.pinned (OpenSpec.ofChange hallPlacesSpec)

/-- ITS FALSE NEIGHBOUR: 'it returns false'. Refute it at one input. -/
def hallPlacesWrong : ChangeSpec := { name := "hallPlaces", fn := fun _ => fun
  | [d] => { results := [.lit (.bool false)], args := [d] }
  | _ => none }
def HallPlacesWrongFalsely : Prop := hallPlacesRow.holds Try.pinned (OpenSpec.ofChange hallPlacesWrong)

/-- 'foyerlaw10.HallCompanions': WHATEVER THE INPUT: true; the input reads as it did. -/
def hallCompanionsSpec : ChangeSpec := { name := "hallCompanions", fn := fun _ => fun
  | [d] => { results := [.lit (.bool true)], args := [d] }
  | _ => none }
def hallCompanionsRow : OpenClaim := { program := "ytmcdhggnpfhlmaa", sum := "578e71b1858e58bac51852700e25f1bf0b7855ac58b8c8cc46f956863d7df866", func := "foyer/foyerlaw10.HallCompanions", spec := "hallCompanions", unfollowed := true, recurses := true, plainKeys := false, apart := false }
def HallCompanionsSaid : Prop := hallCompanionsRow.holds Try.pinned (OpenSpec.ofChange hallCompanionsSpec)

/-- ITS FALSE NEIGHBOUR: 'it returns false'. Refute it at one input. -/
def hallCompanionsWrong : ChangeSpec := { name := "hallCompanions", fn := fun _ => fun
  | [d] => { results := [.lit (.bool false)], args := [d] }
  | _ => none }
def HallCompanionsWrongFalsely : Prop := hallCompanionsRow.holds Try.pinned (OpenSpec.ofChange hallCompanionsWrong)

/-- 'foyerlaw10.HallWays': WHATEVER THE INPUT: true; the input reads as it did. -/
def hallWaysSpec : ChangeSpec := { name := "hallWays", fn := fun _ => fun
  | [d1, d2, d3] => { results := [.lit (.bool true)], args := [d1, d2, d3] }
  | _ => none }
def hallWaysRow : OpenClaim := { program := "ytmcdhggnpfhlmaa", sum := "578e71b1858e58bac51852700e25f1bf0b7855ac58b8c8cc46f956863d7df866", func := "foyer/foyerlaw10.HallWays", spec := "hallWays", unfollowed := true, recurses := true, plainKeys := false, apart := false }
def HallWaysSaid : Prop := hallWaysRow.holds Try.pinned (OpenSpec.ofChange hallWaysSpec)

/-- ITS FALSE NEIGHBOUR: 'it returns false'. Refute it at one input. -/
def hallWaysWrong : ChangeSpec := { name := "hallWays", fn := fun _ => fun
  | [d1, d2, d3] => { results := [.lit (.bool false)], args := [d1, d2, d3] }
  | _ => none }
def HallWaysWrongFalsely : Prop := hallWaysRow.holds Try.pinned (OpenSpec.ofChange hallWaysWrong)

/-- 'foyerlaw10.HallNames': WHATEVER THE INPUT: true; the input reads as it did. -/
def hallNamesSpec : ChangeSpec := { name := "hallNames", fn := fun _ => fun
  | [d1, d2, d3] => { results := [.lit (.bool true)], args := [d1, d2, d3] }
  | _ => none }
def hallNamesRow : OpenClaim := { program := "ytmcdhggnpfhlmaa", sum := "578e71b1858e58bac51852700e25f1bf0b7855ac58b8c8cc46f956863d7df866", func := "foyer/foyerlaw10.HallNames", spec := "hallNames", unfollowed := true, recurses := true, plainKeys := false, apart := false }
def HallNamesSaid : Prop := hallNamesRow.holds Try.pinned (OpenSpec.ofChange hallNamesSpec)

/-- ITS FALSE NEIGHBOUR: 'it returns false'. Refute it at one input. -/
def hallNamesWrong : ChangeSpec := { name := "hallNames", fn := fun _ => fun
  | [d1, d2, d3] => { results := [.lit (.bool false)], args := [d1, d2, d3] }
  | _ => none }
def HallNamesWrongFalsely : Prop := hallNamesRow.holds Try.pinned (OpenSpec.ofChange hallNamesWrong)

/-- 'foyerlaw10.HallLevels': WHATEVER THE INPUT: true; the input reads as it did. -/
def hallLevelsSpec : ChangeSpec := { name := "hallLevels", fn := fun _ => fun
  | [d1, d2] => { results := [.lit (.bool true)], args := [d1, d2] }
  | _ => none }
def hallLevelsRow : OpenClaim := { program := "ytmcdhggnpfhlmaa", sum := "578e71b1858e58bac51852700e25f1bf0b7855ac58b8c8cc46f956863d7df866", func := "foyer/foyerlaw10.HallLevels", spec := "hallLevels", unfollowed := true, recurses := true, plainKeys := false, apart := false }
def HallLevelsSaid : Prop := hallLevelsRow.holds Try.pinned (OpenSpec.ofChange hallLevelsSpec)

/-- ITS FALSE NEIGHBOUR: 'it returns false'. Refute it at one input. -/
def hallLevelsWrong : ChangeSpec := { name := "hallLevels", fn := fun _ => fun
  | [d1, d2] => { results := [.lit (.bool false)], args := [d1, d2] }
  | _ => none }
def HallLevelsWrongFalsely : Prop := hallLevelsRow.holds Try.pinned (OpenSpec.ofChange hallLevelsWrong)

/-- 'foyerlaw10.HallGaps': WHATEVER THE INPUT: true; the input reads as it did. -/
def hallGapsSpec : ChangeSpec := { name := "hallGaps", fn := fun _ => fun
  | [d1, d2] => { results := [.lit (.bool true)], args := [d1, d2] }
  | _ => none }
def hallGapsRow : OpenClaim := { program := "ytmcdhggnpfhlmaa", sum := "578e71b1858e58bac51852700e25f1bf0b7855ac58b8c8cc46f956863d7df866", func := "foyer/foyerlaw10.HallGaps", spec := "hallGaps", unfollowed := true, recurses := true, plainKeys := false, apart := false }
def HallGapsSaid : Prop := hallGapsRow.holds Try.pinned (OpenSpec.ofChange hallGapsSpec)

/-- ITS FALSE NEIGHBOUR: 'it returns false'. Refute it at one input. -/
def hallGapsWrong : ChangeSpec := { name := "hallGaps", fn := fun _ => fun
  | [d1, d2] => { results := [.lit (.bool false)], args := [d1, d2] }
  | _ => none }
def HallGapsWrongFalsely : Prop := hallGapsRow.holds Try.pinned (OpenSpec.ofChange hallGapsWrong)

/- THE SECOND FORM. 'bulk': how many values and letters a reading holds, each counted each time it is reached (what is shared counts as often as it is met; a slice's spare places count too). A statement '..UptoSaid' is the law's where the arguments, and the package variables that the reading takes, are together of bulk at most 1048576: NARROWER than '..Said'. Prove '..Said' where nothing that the law and all that it calls make is longer than what came in: it says more and counts as full. Else prove '..UptoSaid'. A law counts once. -/
mutual
def uptoBulk {H : Type} : DataW H → Nat
  | .lit (.string bytes) => bytes.length + 1
  | .lit _ => 1
  | .nil => 1
  | .ptr d => uptoBulk d + 1
  | .slice elems spare => uptoBulkAll elems + uptoBulkAll spare + 1
  | .agg parts => uptoBulkAll parts + 1
  | .iface _ d => uptoBulk d + 1
  | .map entries => uptoBulkEntries entries + 1
  | .held _ => 1
def uptoBulkAll {H : Type} : List (DataW H) → Nat
  | [] => 0
  | d :: r => uptoBulk d + uptoBulkAll r
def uptoBulkEntries {H : Type} : List (Lit × DataW H) → Nat
  | [] => 0
  | x :: r => uptoBulkEntry x + uptoBulkEntries r
def uptoBulkEntry {H : Type} : Lit × DataW H → Nat
  | (.string bytes, d) => bytes.length + uptoBulk d + 1
  | (_, d) => uptoBulk d + 1
 end
def uptoSmall : (H : Type) → List (DataW H) → Bool := fun _ ds => decide (uptoBulkAll ds ≤ 1048576)
def OpenSpec.upto (s : _root_.Go.ChangeSpec) : _root_.Go.OpenSpec := { _root_.Go.OpenSpec.ofChange s with cond := some uptoSmall }

/-- 'foyerlaw10.HallPlaces', WHERE WHAT IT READS IS OF BULK AT MOST 1048576: true; the input reads as it did. -/
def hallPlacesUptoRow : OpenClaim := { program := "ytmcdhggnpfhlmaa", sum := "578e71b1858e58bac51852700e25f1bf0b7855ac58b8c8cc46f956863d7df866", func := "foyer/foyerlaw10.HallPlaces", spec := "hallPlaces", unfollowed := true, recurses := true, plainKeys := false, apart := false, narrowed := true }
def HallPlacesUptoSaid : Prop := hallPlacesUptoRow.holds Try.pinned (OpenSpec.upto hallPlacesSpec)

/-- 'foyerlaw10.HallCompanions', WHERE WHAT IT READS IS OF BULK AT MOST 1048576: true; the input reads as it did. -/
def hallCompanionsUptoRow : OpenClaim := { program := "ytmcdhggnpfhlmaa", sum := "578e71b1858e58bac51852700e25f1bf0b7855ac58b8c8cc46f956863d7df866", func := "foyer/foyerlaw10.HallCompanions", spec := "hallCompanions", unfollowed := true, recurses := true, plainKeys := false, apart := false, narrowed := true }
def HallCompanionsUptoSaid : Prop := hallCompanionsUptoRow.holds Try.pinned (OpenSpec.upto hallCompanionsSpec)

/-- 'foyerlaw10.HallWays', WHERE WHAT IT READS IS OF BULK AT MOST 1048576: true; the input reads as it did. -/
def hallWaysUptoRow : OpenClaim := { program := "ytmcdhggnpfhlmaa", sum := "578e71b1858e58bac51852700e25f1bf0b7855ac58b8c8cc46f956863d7df866", func := "foyer/foyerlaw10.HallWays", spec := "hallWays", unfollowed := true, recurses := true, plainKeys := false, apart := false, narrowed := true }
def HallWaysUptoSaid : Prop := hallWaysUptoRow.holds Try.pinned (OpenSpec.upto hallWaysSpec)

/-- 'foyerlaw10.HallNames', WHERE WHAT IT READS IS OF BULK AT MOST 1048576: true; the input reads as it did. -/
def hallNamesUptoRow : OpenClaim := { program := "ytmcdhggnpfhlmaa", sum := "578e71b1858e58bac51852700e25f1bf0b7855ac58b8c8cc46f956863d7df866", func := "foyer/foyerlaw10.HallNames", spec := "hallNames", unfollowed := true, recurses := true, plainKeys := false, apart := false, narrowed := true }
def HallNamesUptoSaid : Prop := hallNamesUptoRow.holds Try.pinned (OpenSpec.upto hallNamesSpec)

/-- 'foyerlaw10.HallLevels', WHERE WHAT IT READS IS OF BULK AT MOST 1048576: true; the input reads as it did. -/
def hallLevelsUptoRow : OpenClaim := { program := "ytmcdhggnpfhlmaa", sum := "578e71b1858e58bac51852700e25f1bf0b7855ac58b8c8cc46f956863d7df866", func := "foyer/foyerlaw10.HallLevels", spec := "hallLevels", unfollowed := true, recurses := true, plainKeys := false, apart := false, narrowed := true }
def HallLevelsUptoSaid : Prop := hallLevelsUptoRow.holds Try.pinned (OpenSpec.upto hallLevelsSpec)

/-- 'foyerlaw10.HallGaps', WHERE WHAT IT READS IS OF BULK AT MOST 1048576: true; the input reads as it did. -/
def hallGapsUptoRow : OpenClaim := { program := "ytmcdhggnpfhlmaa", sum := "578e71b1858e58bac51852700e25f1bf0b7855ac58b8c8cc46f956863d7df866", func := "foyer/foyerlaw10.HallGaps", spec := "hallGaps", unfollowed := true, recurses := true, plainKeys := false, apart := false, narrowed := true }
def HallGapsUptoSaid : Prop := hallGapsUptoRow.holds Try.pinned (OpenSpec.upto hallGapsSpec)

end Rows
end Go.Proofs.Ytmcdhggnpfhlmaa
