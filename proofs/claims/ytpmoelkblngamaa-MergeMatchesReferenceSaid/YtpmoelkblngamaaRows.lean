/-
  No cell of these rows narrows 'for every input' (looked for: loops, veiled, ifaces, maps, wideKeys, modest, calm, conditions, laid).
  DERIVED. THE GIVEN ROWS OF THIS SEAT. 7 by the template 'for every input the law returns true; each argument reads behind the call as it read before'; 0 by the template 'total and deterministic' (their statements: YtpmoelkblngamaaTotals.lean).
  GIVEN WITH THE SEED: the statements are not yours to turn. If you find one false, say at which input.
  Laid BY PROGRAM, IN A SANDBOX (cutbox-rows.mjs): the forced cells as the released guide's own fill.sh prints them over the translation 52468cb8093474ce… (all of the seat's roots in one cut). By AI agents, Wed Nov 11 2026. No macro, syntax, notation, axiom, sorry.
-/
import Derived.Test.YtpmoelkblngamaaChecked
import GoSem.Claim
import GoSem.ClaimJoined
import GoSem.ClaimMapViews
import Derived.JoinedTies
import Derived.KernelRfl
namespace Go.Proofs.Ytpmoelkblngamaa
/- THE CELL 'sum', in the pinned program and in every row, IS THE sha256 OF THE DUMP (.gsa) THAT YtpmoelkblngamaaProg.lean LOADS. Nothing in Lean hashes anything: it is a label: what it is worth is what the hold of that sum in a sandbox is worth. -/
noncomputable def Try.pinned : Pinned := { name := "ytpmoelkblngamaa", sum := "52468cb8093474ce3645f87071ab88223c0fff368a5f050aecbe8369dd43b533", checked := Try.checked }
namespace Rows
def none {H : Type} : Left H := { results := [], args := [] }

/-- 'foyerlaw38.MergeMatchesReference': WHATEVER THE INPUT: true; the input reads as it did. -/
def mergeMatchesReferenceSpec : ChangeSpec := { name := "mergeMatchesReference", fn := fun _ => fun
  | [d1, d2, d3, d4] => { results := [.lit (.bool true)], args := [d1, d2, d3, d4] }
  | _ => none }
def mergeMatchesReferenceRow : OpenClaim := { program := "ytpmoelkblngamaa", sum := "52468cb8093474ce3645f87071ab88223c0fff368a5f050aecbe8369dd43b533", func := "foyer/foyerlaw38.MergeMatchesReference", spec := "mergeMatchesReference", unfollowed := true, recurses := true, apart := false }
def MergeMatchesReferenceSaid : Prop := mergeMatchesReferenceRow.holds Try.pinned (OpenSpec.ofChange mergeMatchesReferenceSpec)

/-- ITS FALSE NEIGHBOUR: 'it returns false'. Refute it at one input. -/
def mergeMatchesReferenceWrong : ChangeSpec := { name := "mergeMatchesReference", fn := fun _ => fun
  | [d1, d2, d3, d4] => { results := [.lit (.bool false)], args := [d1, d2, d3, d4] }
  | _ => none }
def MergeMatchesReferenceWrongFalsely : Prop := mergeMatchesReferenceRow.holds Try.pinned (OpenSpec.ofChange mergeMatchesReferenceWrong)

/-- 'foyerlaw38.MergeSets': WHATEVER THE INPUT: true; the input reads as it did. -/
def mergeSetsSpec : ChangeSpec := { name := "mergeSets", fn := fun _ => fun
  | [d1, d2, d3, d4] => { results := [.lit (.bool true)], args := [d1, d2, d3, d4] }
  | _ => none }
def mergeSetsRow : OpenClaim := { program := "ytpmoelkblngamaa", sum := "52468cb8093474ce3645f87071ab88223c0fff368a5f050aecbe8369dd43b533", func := "foyer/foyerlaw38.MergeSets", spec := "mergeSets", unfollowed := true, recurses := true, apart := false }
def MergeSetsSaid : Prop := mergeSetsRow.holds Try.pinned (OpenSpec.ofChange mergeSetsSpec)

/-- ITS FALSE NEIGHBOUR: 'it returns false'. Refute it at one input. -/
def mergeSetsWrong : ChangeSpec := { name := "mergeSets", fn := fun _ => fun
  | [d1, d2, d3, d4] => { results := [.lit (.bool false)], args := [d1, d2, d3, d4] }
  | _ => none }
def MergeSetsWrongFalsely : Prop := mergeSetsRow.holds Try.pinned (OpenSpec.ofChange mergeSetsWrong)

/-- 'foyerlaw38.MergeHonest': WHATEVER THE INPUT: true; the input reads as it did. -/
def mergeHonestSpec : ChangeSpec := { name := "mergeHonest", fn := fun _ => fun
  | [d] => { results := [.lit (.bool true)], args := [d] }
  | _ => none }
def mergeHonestRow : OpenClaim := { program := "ytpmoelkblngamaa", sum := "52468cb8093474ce3645f87071ab88223c0fff368a5f050aecbe8369dd43b533", func := "foyer/foyerlaw38.MergeHonest", spec := "mergeHonest", unfollowed := true, recurses := true, apart := false }
def MergeHonestSaid : Prop := mergeHonestRow.holds Try.pinned (OpenSpec.ofChange mergeHonestSpec)

/-- ITS FALSE NEIGHBOUR: 'it returns false'. Refute it at one input. -/
def mergeHonestWrong : ChangeSpec := { name := "mergeHonest", fn := fun _ => fun
  | [d] => { results := [.lit (.bool false)], args := [d] }
  | _ => none }
def MergeHonestWrongFalsely : Prop := mergeHonestRow.holds Try.pinned (OpenSpec.ofChange mergeHonestWrong)

/-- 'foyerlaw38.MergeCopies': WHATEVER THE INPUT: true; the input reads as it did. -/
def mergeCopiesSpec : ChangeSpec := { name := "mergeCopies", fn := fun _ => fun
  | [d1, d2] => { results := [.lit (.bool true)], args := [d1, d2] }
  | _ => none }
def mergeCopiesRow : OpenClaim := { program := "ytpmoelkblngamaa", sum := "52468cb8093474ce3645f87071ab88223c0fff368a5f050aecbe8369dd43b533", func := "foyer/foyerlaw38.MergeCopies", spec := "mergeCopies", unfollowed := true, recurses := true, apart := false }
def MergeCopiesSaid : Prop := mergeCopiesRow.holds Try.pinned (OpenSpec.ofChange mergeCopiesSpec)

/-- ITS FALSE NEIGHBOUR: 'it returns false'. Refute it at one input. -/
def mergeCopiesWrong : ChangeSpec := { name := "mergeCopies", fn := fun _ => fun
  | [d1, d2] => { results := [.lit (.bool false)], args := [d1, d2] }
  | _ => none }
def MergeCopiesWrongFalsely : Prop := mergeCopiesRow.holds Try.pinned (OpenSpec.ofChange mergeCopiesWrong)

/-- 'foyerlaw38.MergeLies': WHATEVER THE INPUT: true; the input reads as it did. -/
def mergeLiesSpec : ChangeSpec := { name := "mergeLies", fn := fun _ => fun
  | [d1, d2, d3] => { results := [.lit (.bool true)], args := [d1, d2, d3] }
  | _ => none }
def mergeLiesRow : OpenClaim := { program := "ytpmoelkblngamaa", sum := "52468cb8093474ce3645f87071ab88223c0fff368a5f050aecbe8369dd43b533", func := "foyer/foyerlaw38.MergeLies", spec := "mergeLies", unfollowed := true, recurses := true, apart := false }
def MergeLiesSaid : Prop := mergeLiesRow.holds Try.pinned (OpenSpec.ofChange mergeLiesSpec)

/-- ITS FALSE NEIGHBOUR: 'it returns false'. Refute it at one input. -/
def mergeLiesWrong : ChangeSpec := { name := "mergeLies", fn := fun _ => fun
  | [d1, d2, d3] => { results := [.lit (.bool false)], args := [d1, d2, d3] }
  | _ => none }
def MergeLiesWrongFalsely : Prop := mergeLiesRow.holds Try.pinned (OpenSpec.ofChange mergeLiesWrong)

/-- 'foyerlaw38.MergeStale': WHATEVER THE INPUT: true; the input reads as it did. -/
def mergeStaleSpec : ChangeSpec := { name := "mergeStale", fn := fun _ => fun
  | [d1, d2, d3] => { results := [.lit (.bool true)], args := [d1, d2, d3] }
  | _ => none }
def mergeStaleRow : OpenClaim := { program := "ytpmoelkblngamaa", sum := "52468cb8093474ce3645f87071ab88223c0fff368a5f050aecbe8369dd43b533", func := "foyer/foyerlaw38.MergeStale", spec := "mergeStale", unfollowed := true, recurses := true, apart := false }
def MergeStaleSaid : Prop := mergeStaleRow.holds Try.pinned (OpenSpec.ofChange mergeStaleSpec)

/-- ITS FALSE NEIGHBOUR: 'it returns false'. Refute it at one input. -/
def mergeStaleWrong : ChangeSpec := { name := "mergeStale", fn := fun _ => fun
  | [d1, d2, d3] => { results := [.lit (.bool false)], args := [d1, d2, d3] }
  | _ => none }
def MergeStaleWrongFalsely : Prop := mergeStaleRow.holds Try.pinned (OpenSpec.ofChange mergeStaleWrong)

/-- 'foyerlaw38.MergeInside': WHATEVER THE INPUT: true; the input reads as it did. -/
def mergeInsideSpec : ChangeSpec := { name := "mergeInside", fn := fun _ => fun
  | [d1, d2] => { results := [.lit (.bool true)], args := [d1, d2] }
  | _ => none }
def mergeInsideRow : OpenClaim := { program := "ytpmoelkblngamaa", sum := "52468cb8093474ce3645f87071ab88223c0fff368a5f050aecbe8369dd43b533", func := "foyer/foyerlaw38.MergeInside", spec := "mergeInside", unfollowed := true, recurses := true, apart := false }
def MergeInsideSaid : Prop := mergeInsideRow.holds Try.pinned (OpenSpec.ofChange mergeInsideSpec)

/-- ITS FALSE NEIGHBOUR: 'it returns false'. Refute it at one input. -/
def mergeInsideWrong : ChangeSpec := { name := "mergeInside", fn := fun _ => fun
  | [d1, d2] => { results := [.lit (.bool false)], args := [d1, d2] }
  | _ => none }
def MergeInsideWrongFalsely : Prop := mergeInsideRow.holds Try.pinned (OpenSpec.ofChange mergeInsideWrong)

/- THE SECOND FORM. 'bulk': how many values and letters a reading holds, each counted each time it is reached (what is shared counts as often as it is met; a slice's spare places count too). A statement '..UptoSaid' is the law's where the arguments, and the package variables that the reading takes, are together of bulk at most 1048576: NARROWER than '..Said'. Prove '..Said' where nothing that the law and all that it calls make is longer than what came in: it says more and counts as full. Else prove '..UptoSaid'. A law counts once. -/
mutual
def uptoBulk {H : Type} : DataW H → Nat
  | .lit (.string bytes) => bytes.length + 1
  | .lit _ => 1
  | .nil => 1
  | .ptr d => uptoBulk d + 1
  | .slice elems spare => uptoBulkAll elems + uptoBulkAll spare + 1
  | .agg parts => uptoBulkAll parts + 1
  | .iface _ d => uptoBulk d + 1
  | .map entries => uptoBulkEntries entries + 1
  | .held _ => 1
def uptoBulkAll {H : Type} : List (DataW H) → Nat
  | [] => 0
  | d :: r => uptoBulk d + uptoBulkAll r
def uptoBulkEntries {H : Type} : List (Lit × DataW H) → Nat
  | [] => 0
  | x :: r => uptoBulkEntry x + uptoBulkEntries r
def uptoBulkEntry {H : Type} : Lit × DataW H → Nat
  | (.string bytes, d) => bytes.length + uptoBulk d + 1
  | (_, d) => uptoBulk d + 1
 end
def uptoSmall : (H : Type) → List (DataW H) → Bool := fun _ ds => decide (uptoBulkAll ds ≤ 1048576)
def OpenSpec.upto (s : _root_.Go.ChangeSpec) : _root_.Go.OpenSpec := { _root_.Go.OpenSpec.ofChange s with cond := some uptoSmall }

/-- 'foyerlaw38.MergeMatchesReference', WHERE WHAT IT READS IS OF BULK AT MOST 1048576: true; the input reads as it did. -/
def mergeMatchesReferenceUptoRow : OpenClaim := { program := "ytpmoelkblngamaa", sum := "52468cb8093474ce3645f87071ab88223c0fff368a5f050aecbe8369dd43b533", func := "foyer/foyerlaw38.MergeMatchesReference", spec := "mergeMatchesReference", unfollowed := true, recurses := true, apart := false, narrowed := true }
def MergeMatchesReferenceUptoSaid : Prop := mergeMatchesReferenceUptoRow.holds Try.pinned (OpenSpec.upto mergeMatchesReferenceSpec)

/-- 'foyerlaw38.MergeSets', WHERE WHAT IT READS IS OF BULK AT MOST 1048576: true; the input reads as it did. -/
def mergeSetsUptoRow : OpenClaim := { program := "ytpmoelkblngamaa", sum := "52468cb8093474ce3645f87071ab88223c0fff368a5f050aecbe8369dd43b533", func := "foyer/foyerlaw38.MergeSets", spec := "mergeSets", unfollowed := true, recurses := true, apart := false, narrowed := true }
def MergeSetsUptoSaid : Prop := mergeSetsUptoRow.holds Try.pinned (OpenSpec.upto mergeSetsSpec)

/-- 'foyerlaw38.MergeHonest', WHERE WHAT IT READS IS OF BULK AT MOST 1048576: true; the input reads as it did. -/
def mergeHonestUptoRow : OpenClaim := { program := "ytpmoelkblngamaa", sum := "52468cb8093474ce3645f87071ab88223c0fff368a5f050aecbe8369dd43b533", func := "foyer/foyerlaw38.MergeHonest", spec := "mergeHonest", unfollowed := true, recurses := true, apart := false, narrowed := true }
def MergeHonestUptoSaid : Prop := mergeHonestUptoRow.holds Try.pinned (OpenSpec.upto mergeHonestSpec)

/-- 'foyerlaw38.MergeCopies', WHERE WHAT IT READS IS OF BULK AT MOST 1048576: true; the input reads as it did. -/
def mergeCopiesUptoRow : OpenClaim := { program := "ytpmoelkblngamaa", sum := "52468cb8093474ce3645f87071ab88223c0fff368a5f050aecbe8369dd43b533", func := "foyer/foyerlaw38.MergeCopies", spec := "mergeCopies", unfollowed := true, recurses := true, apart := false, narrowed := true }
def MergeCopiesUptoSaid : Prop := mergeCopiesUptoRow.holds Try.pinned (OpenSpec.upto mergeCopiesSpec)

/-- 'foyerlaw38.MergeLies', WHERE WHAT IT READS IS OF BULK AT MOST 1048576: true; the input reads as it did. -/
def mergeLiesUptoRow : OpenClaim := { program := "ytpmoelkblngamaa", sum := "52468cb8093474ce3645f87071ab88223c0fff368a5f050aecbe8369dd43b533", func := "foyer/foyerlaw38.MergeLies", spec := "mergeLies", unfollowed := true, recurses := true, apart := false, narrowed := true }
def MergeLiesUptoSaid : Prop := mergeLiesUptoRow.holds Try.pinned (OpenSpec.upto mergeLiesSpec)

/-- 'foyerlaw38.MergeStale', WHERE WHAT IT READS IS OF BULK AT MOST 1048576: true; the input reads as it did. -/
def mergeStaleUptoRow : OpenClaim := { program := "ytpmoelkblngamaa", sum := "52468cb8093474ce3645f87071ab88223c0fff368a5f050aecbe8369dd43b533", func := "foyer/foyerlaw38.MergeStale", spec := "mergeStale", unfollowed := true, recurses := true, apart := false, narrowed := true }
def MergeStaleUptoSaid : Prop := mergeStaleUptoRow.holds Try.pinned (OpenSpec.upto mergeStaleSpec)

/-- 'foyerlaw38.MergeInside', WHERE WHAT IT READS IS OF BULK AT MOST 1048576: true; the input reads as it did. -/
def mergeInsideUptoRow : OpenClaim := { program := "ytpmoelkblngamaa", sum := "52468cb8093474ce3645f87071ab88223c0fff368a5f050aecbe8369dd43b533", func := "foyer/foyerlaw38.MergeInside", spec := "mergeInside", unfollowed := true, recurses := true, apart := false, narrowed := true }
def MergeInsideUptoSaid : Prop := mergeInsideUptoRow.holds Try.pinned (OpenSpec.upto mergeInsideSpec)

end Rows
end Go.Proofs.Ytpmoelkblngamaa
