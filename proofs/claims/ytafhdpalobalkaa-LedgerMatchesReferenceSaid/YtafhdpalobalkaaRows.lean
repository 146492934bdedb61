/-
  No cell of these rows narrows 'for every input' (looked for: loops, veiled, ifaces, maps, wideKeys, modest, calm, conditions, laid).
  DERIVED. THE GIVEN ROWS OF THIS SEAT. 5 by the template 'for every input the law returns true; each argument reads behind the call as it read before'; 0 by the template 'total and deterministic' (their statements: YtafhdpalobalkaaTotals.lean).
  GIVEN WITH THE SEED: the statements are not yours to turn. If you find one false, say at which input.
  Laid BY PROGRAM, IN A SANDBOX (cutbox-rows.mjs): the forced cells as the released guide's own fill.sh prints them over the translation bd49ac4b35236650… (all of the seat's roots in one cut). By AI agents, Wed Nov 11 2026. No macro, syntax, notation, axiom, sorry.
-/
import Derived.Test.YtafhdpalobalkaaChecked
import GoSem.Claim
import GoSem.ClaimJoined
import GoSem.ClaimMapViews
import Derived.JoinedTies
import Derived.KernelRfl
namespace Go.Proofs.Ytafhdpalobalkaa
/- THE CELL 'sum', in the pinned program and in every row, IS THE sha256 OF THE DUMP (.gsa) THAT YtafhdpalobalkaaProg.lean LOADS. Nothing in Lean hashes anything: it is a label: what it is worth is what the hold of that sum in a sandbox is worth. -/
noncomputable def Try.pinned : Pinned := { name := "ytafhdpalobalkaa", sum := "bd49ac4b3523665020e8daf03c8dab06fc99d728cc8acd0cca5114f85b167123", checked := Try.checked }
namespace Rows
def none {H : Type} : Left H := { results := [], args := [] }

/-- 'foyerlaw27.LedgerMatchesReference': WHATEVER THE INPUT: true; the input reads as it did. -/
def ledgerMatchesReferenceSpec : ChangeSpec := { name := "ledgerMatchesReference", fn := fun _ => fun
  | [d1, d2] => { results := [.lit (.bool true)], args := [d1, d2] }
  | _ => none }
def ledgerMatchesReferenceRow : OpenClaim := { program := "ytafhdpalobalkaa", sum := "bd49ac4b3523665020e8daf03c8dab06fc99d728cc8acd0cca5114f85b167123", func := "foyer/foyerlaw27.LedgerMatchesReference", spec := "ledgerMatchesReference", inPlace := ["maps.clone"], unfollowed := true, recurses := true, plainKeys := false, apart := false }
def LedgerMatchesReferenceSaid : Prop := ledgerMatchesReferenceRow.holds Try.pinned (OpenSpec.ofChange ledgerMatchesReferenceSpec)

/-- ITS FALSE NEIGHBOUR: 'it returns false'. Refute it at one input. -/
def ledgerMatchesReferenceWrong : ChangeSpec := { name := "ledgerMatchesReference", fn := fun _ => fun
  | [d1, d2] => { results := [.lit (.bool false)], args := [d1, d2] }
  | _ => none }
def LedgerMatchesReferenceWrongFalsely : Prop := ledgerMatchesReferenceRow.holds Try.pinned (OpenSpec.ofChange ledgerMatchesReferenceWrong)

/-- 'foyerlaw27.LedgerZero': WHATEVER THE INPUT: true; the input reads as it did. -/
def ledgerZeroSpec : ChangeSpec := { name := "ledgerZero", fn := fun _ => fun
  | [d] => { results := [.lit (.bool true)], args := [d] }
  | _ => none }
def ledgerZeroRow : OpenClaim := { program := "ytafhdpalobalkaa", sum := "bd49ac4b3523665020e8daf03c8dab06fc99d728cc8acd0cca5114f85b167123", func := "foyer/foyerlaw27.LedgerZero", spec := "ledgerZero", inPlace := ["maps.clone"], unfollowed := true, recurses := true, plainKeys := false, apart := false }
def LedgerZeroSaid : Prop := ledgerZeroRow.holds Try.pinned (OpenSpec.ofChange ledgerZeroSpec)

/-- ITS FALSE NEIGHBOUR: 'it returns false'. Refute it at one input. -/
def ledgerZeroWrong : ChangeSpec := { name := "ledgerZero", fn := fun _ => fun
  | [d] => { results := [.lit (.bool false)], args := [d] }
  | _ => none }
def LedgerZeroWrongFalsely : Prop := ledgerZeroRow.holds Try.pinned (OpenSpec.ofChange ledgerZeroWrong)

/-- 'foyerlaw27.LedgerAtomic': WHATEVER THE INPUT: true; the input reads as it did. -/
def ledgerAtomicSpec : ChangeSpec := { name := "ledgerAtomic", fn := fun _ => fun
  | [d1, d2] => { results := [.lit (.bool true)], args := [d1, d2] }
  | _ => none }
def ledgerAtomicRow : OpenClaim := { program := "ytafhdpalobalkaa", sum := "bd49ac4b3523665020e8daf03c8dab06fc99d728cc8acd0cca5114f85b167123", func := "foyer/foyerlaw27.LedgerAtomic", spec := "ledgerAtomic", inPlace := ["maps.clone"], unfollowed := true, recurses := true, plainKeys := false, apart := false }
def LedgerAtomicSaid : Prop := ledgerAtomicRow.holds Try.pinned (OpenSpec.ofChange ledgerAtomicSpec)

/-- ITS FALSE NEIGHBOUR: 'it returns false'. Refute it at one input. -/
def ledgerAtomicWrong : ChangeSpec := { name := "ledgerAtomic", fn := fun _ => fun
  | [d1, d2] => { results := [.lit (.bool false)], args := [d1, d2] }
  | _ => none }
def LedgerAtomicWrongFalsely : Prop := ledgerAtomicRow.holds Try.pinned (OpenSpec.ofChange ledgerAtomicWrong)

/-- 'foyerlaw27.LedgerOrder': WHATEVER THE INPUT: true; the input reads as it did. -/
def ledgerOrderSpec : ChangeSpec := { name := "ledgerOrder", fn := fun _ => fun
  | [d] => { results := [.lit (.bool true)], args := [d] }
  | _ => none }
def ledgerOrderRow : OpenClaim := { program := "ytafhdpalobalkaa", sum := "bd49ac4b3523665020e8daf03c8dab06fc99d728cc8acd0cca5114f85b167123", func := "foyer/foyerlaw27.LedgerOrder", spec := "ledgerOrder", inPlace := ["maps.clone"], unfollowed := true, recurses := true, plainKeys := false, apart := false }
def LedgerOrderSaid : Prop := ledgerOrderRow.holds Try.pinned (OpenSpec.ofChange ledgerOrderSpec)

/-- ITS FALSE NEIGHBOUR: 'it returns false'. Refute it at one input. -/
def ledgerOrderWrong : ChangeSpec := { name := "ledgerOrder", fn := fun _ => fun
  | [d] => { results := [.lit (.bool false)], args := [d] }
  | _ => none }
def LedgerOrderWrongFalsely : Prop := ledgerOrderRow.holds Try.pinned (OpenSpec.ofChange ledgerOrderWrong)

/-- 'foyerlaw27.LedgerReverses': WHATEVER THE INPUT: true; the input reads as it did. -/
def ledgerReversesSpec : ChangeSpec := { name := "ledgerReverses", fn := fun _ => fun
  | [d1, d2] => { results := [.lit (.bool true)], args := [d1, d2] }
  | _ => none }
def ledgerReversesRow : OpenClaim := { program := "ytafhdpalobalkaa", sum := "bd49ac4b3523665020e8daf03c8dab06fc99d728cc8acd0cca5114f85b167123", func := "foyer/foyerlaw27.LedgerReverses", spec := "ledgerReverses", inPlace := ["maps.clone"], unfollowed := true, recurses := true, plainKeys := false, apart := false }
def LedgerReversesSaid : Prop := ledgerReversesRow.holds Try.pinned (OpenSpec.ofChange ledgerReversesSpec)

/-- ITS FALSE NEIGHBOUR: 'it returns false'. Refute it at one input. -/
def ledgerReversesWrong : ChangeSpec := { name := "ledgerReverses", fn := fun _ => fun
  | [d1, d2] => { results := [.lit (.bool false)], args := [d1, d2] }
  | _ => none }
def LedgerReversesWrongFalsely : Prop := ledgerReversesRow.holds Try.pinned (OpenSpec.ofChange ledgerReversesWrong)

/- THE SECOND FORM. 'bulk': how many values and letters a reading holds, each counted each time it is reached (what is shared counts as often as it is met; a slice's spare places count too). A statement '..UptoSaid' is the law's where the arguments, and the package variables that the reading takes, are together of bulk at most 1048576: NARROWER than '..Said'. Prove '..Said' where nothing that the law and all that it calls make is longer than what came in: it says more and counts as full. Else prove '..UptoSaid'. A law counts once. -/
mutual
def uptoBulk {H : Type} : DataW H → Nat
  | .lit (.string bytes) => bytes.length + 1
  | .lit _ => 1
  | .nil => 1
  | .ptr d => uptoBulk d + 1
  | .slice elems spare => uptoBulkAll elems + uptoBulkAll spare + 1
  | .agg parts => uptoBulkAll parts + 1
  | .iface _ d => uptoBulk d + 1
  | .map entries => uptoBulkEntries entries + 1
  | .held _ => 1
def uptoBulkAll {H : Type} : List (DataW H) → Nat
  | [] => 0
  | d :: r => uptoBulk d + uptoBulkAll r
def uptoBulkEntries {H : Type} : List (Lit × DataW H) → Nat
  | [] => 0
  | x :: r => uptoBulkEntry x + uptoBulkEntries r
def uptoBulkEntry {H : Type} : Lit × DataW H → Nat
  | (.string bytes, d) => bytes.length + uptoBulk d + 1
  | (_, d) => uptoBulk d + 1
 end
def uptoSmall : (H : Type) → List (DataW H) → Bool := fun _ ds => decide (uptoBulkAll ds ≤ 1048576)
def OpenSpec.upto (s : _root_.Go.ChangeSpec) : _root_.Go.OpenSpec := { _root_.Go.OpenSpec.ofChange s with cond := some uptoSmall }

/-- 'foyerlaw27.LedgerMatchesReference', WHERE WHAT IT READS IS OF BULK AT MOST 1048576: true; the input reads as it did. -/
def ledgerMatchesReferenceUptoRow : OpenClaim := { program := "ytafhdpalobalkaa", sum := "bd49ac4b3523665020e8daf03c8dab06fc99d728cc8acd0cca5114f85b167123", func := "foyer/foyerlaw27.LedgerMatchesReference", spec := "ledgerMatchesReference", inPlace := ["maps.clone"], unfollowed := true, recurses := true, plainKeys := false, apart := false, narrowed := true }
def LedgerMatchesReferenceUptoSaid : Prop := ledgerMatchesReferenceUptoRow.holds Try.pinned (OpenSpec.upto ledgerMatchesReferenceSpec)

/-- 'foyerlaw27.LedgerZero', WHERE WHAT IT READS IS OF BULK AT MOST 1048576: true; the input reads as it did. -/
def ledgerZeroUptoRow : OpenClaim := { program := "ytafhdpalobalkaa", sum := "bd49ac4b3523665020e8daf03c8dab06fc99d728cc8acd0cca5114f85b167123", func := "foyer/foyerlaw27.LedgerZero", spec := "ledgerZero", inPlace := ["maps.clone"], unfollowed := true, recurses := true, plainKeys := false, apart := false, narrowed := true }
def LedgerZeroUptoSaid : Prop := ledgerZeroUptoRow.holds Try.pinned (OpenSpec.upto ledgerZeroSpec)

/-- 'foyerlaw27.LedgerAtomic', WHERE WHAT IT READS IS OF BULK AT MOST 1048576: true; the input reads as it did. -/
def ledgerAtomicUptoRow : OpenClaim := { program := "ytafhdpalobalkaa", sum := "bd49ac4b3523665020e8daf03c8dab06fc99d728cc8acd0cca5114f85b167123", func := "foyer/foyerlaw27.LedgerAtomic", spec := "ledgerAtomic", inPlace := ["maps.clone"], unfollowed := true, recurses := true, plainKeys := false, apart := false, narrowed := true }
def LedgerAtomicUptoSaid : Prop := ledgerAtomicUptoRow.holds Try.pinned (OpenSpec.upto ledgerAtomicSpec)

/-- 'foyerlaw27.LedgerOrder', WHERE WHAT IT READS IS OF BULK AT MOST 1048576: true; the input reads as it did. -/
def ledgerOrderUptoRow : OpenClaim := { program := "ytafhdpalobalkaa", sum := "bd49ac4b3523665020e8daf03c8dab06fc99d728cc8acd0cca5114f85b167123", func := "foyer/foyerlaw27.LedgerOrder", spec := "ledgerOrder", inPlace := ["maps.clone"], unfollowed := true, recurses := true, plainKeys := false, apart := false, narrowed := true }
def LedgerOrderUptoSaid : Prop := ledgerOrderUptoRow.holds Try.pinned (OpenSpec.upto ledgerOrderSpec)

/-- 'foyerlaw27.LedgerReverses', WHERE WHAT IT READS IS OF BULK AT MOST 1048576: true; the input reads as it did. -/
def ledgerReversesUptoRow : OpenClaim := { program := "ytafhdpalobalkaa", sum := "bd49ac4b3523665020e8daf03c8dab06fc99d728cc8acd0cca5114f85b167123", func := "foyer/foyerlaw27.LedgerReverses", spec := "ledgerReverses", inPlace := ["maps.clone"], unfollowed := true, recurses := true, plainKeys := false, apart := false, narrowed := true }
def LedgerReversesUptoSaid : Prop := ledgerReversesUptoRow.holds Try.pinned (OpenSpec.upto ledgerReversesSpec)

end Rows
end Go.Proofs.Ytafhdpalobalkaa
