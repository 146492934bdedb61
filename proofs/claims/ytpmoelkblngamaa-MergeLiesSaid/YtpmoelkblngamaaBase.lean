/- Words that the walks share: a list's entry behind a name, a slice that reads as a list. -/
import Derived.WalkKit
import Derived.LoopTactic
import Derived.Deep.QuietTactic
import Derived.BigQuiet
import Derived.Outline
import Derived.Lib.Hide
import Derived.WalkSmall
namespace Go.Proofs.Ytpmoelkblngamaa
open Go.RowKit

/-- An entry of a list of integers, behind a name that simp does not open. -/
def ix (l : List Int) (i : Nat) : Int := l.getD i 0

/-- The address and length read as the integers xs. -/
def Ints (w : World) (ra : Option Addr) (n : Nat) (xs : List Int) : Prop :=
  xs.length = n ∧ ∀ k, k < n → ∃ b o, ra = some ⟨b, o, none⟩ ∧ w.cell? ⟨b, o + k, none⟩ = some (.int .i64 (ix xs k))

theorem cell_lt {w : World} {b o : Nat} {v : Value} (h : w.cell? ⟨b, o, none⟩ = some v) : b < w.heap.size :=
  World.block_lt_of_cell? w ⟨b, o, none⟩ h

theorem Below.cell_of {w w' : World} {b o : Nat} {v : Value} (hb : Below w.heap.size w w') (h : w.cell? ⟨b, o, none⟩ = some v) : w'.cell? ⟨b, o, none⟩ = some v :=
  (hb.cell (p := ⟨b, o, none⟩) (cell_lt h)).trans h

theorem Ints.below {w w' : World} {ra : Option Addr} {n : Nat} {xs : List Int} (h : Ints w ra n xs) (hb : Below w.heap.size w w') : Ints w' ra n xs :=
  ⟨h.1, fun k hk => let ⟨b, o, e, c⟩ := h.2 k hk; ⟨b, o, e, Below.cell_of hb c⟩⟩

end Go.Proofs.Ytpmoelkblngamaa
