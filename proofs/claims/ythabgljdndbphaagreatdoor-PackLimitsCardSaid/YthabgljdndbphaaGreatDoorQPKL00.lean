/- Words that the walks share: a list's entry behind a name, a slice that reads as a list; A block of cells that holds integers: its cells read, are not frozen, and can be stored into. -/
import Derived.WalkKit
import Derived.LoopTactic
import Derived.Deep.QuietTactic
import Derived.BigQuiet
import Derived.Outline
import Derived.Lib.Hide
import Derived.WalkSmall
import Derived.BigRegion

set_option linter.unusedVariables false
set_option linter.unusedSimpArgs false
namespace Go.Proofs.YthabgljdndbphaaGreatDoor
open Go.RowKit

/-- An entry of a list of integers, behind a name that simp does not open. -/
def ix (l : List Int) (i : Nat) : Int := l.getD i 0

/-- The address and length read as the integers xs. -/
def Ints (w : World) (ra : Option Addr) (n : Nat) (xs : List Int) : Prop :=
 xs.length = n ∧ ∀ k, k < n → ∃ b o, ra = some ⟨b, o, none⟩ ∧ w.cell? ⟨b, o + k, none⟩ = some (.int .i64 (ix xs k))

theorem cell_lt {w : World} {b o : Nat} {v : Value} (h : w.cell? ⟨b, o, none⟩ = some v) : b < w.heap.size :=
 World.block_lt_of_cell? w ⟨b, o, none⟩ h

theorem Below.cell_of {w w' : World} {b o : Nat} {v : Value} (hb : Below w.heap.size w w') (h : w.cell? ⟨b, o, none⟩ = some v) : w'.cell? ⟨b, o, none⟩ = some v :=
 (hb.cell (p := ⟨b, o, none⟩) (cell_lt h)).trans h

theorem Ints.below {w w' : World} {ra : Option Addr} {n : Nat} {xs : List Int} (h : Ints w ra n xs) (hb : Below w.heap.size w w') : Ints w' ra n xs :=
 ⟨h.1, fun k hk => let ⟨b, o, e, c⟩ := h.2 k hk; ⟨b, o, e, Below.cell_of hb c⟩⟩

end Go.Proofs.YthabgljdndbphaaGreatDoor

namespace Go.Proofs.YthabgljdndbphaaGreatDoor
open Go.RowKit

def IntRow (w : World) (g : Nat) (T : TypeId) (D : List Int) : Prop :=
 ∃ arr : Array Value, w.heap[g]? = some (.cells arr T (0, 0)) ∧ D.length ≤ arr.size ∧ ∀ k, k < D.length → arr[k]? = some (.int .i64 (ix D k))

theorem IntRow.lt {w : World} {g : Nat} {T : TypeId} {D : List Int} (h : IntRow w g T D) : g < w.heap.size :=
 let ⟨_, e, _⟩ := h; lt_of_block e

theorem IntRow.cell {w : World} {g : Nat} {T : TypeId} {D : List Int} (h : IntRow w g T D) (k : Nat) (hk : k < D.length) : w.cell? ⟨g, k, none⟩ = some (.int .i64 (ix D k)) := by
 obtain ⟨arr, e, _, c⟩ := h
 simp only [World.cell?, e]
 exact c k hk

theorem IntRow.free {w : World} {g : Nat} {T : TypeId} {D : List Int} (h : IntRow w g T D) (k : Nat) : w.frozen? ⟨g, k, none⟩ = false := by
 obtain ⟨arr, e, _, c⟩ := h
 simp only [World.frozen?, e]
 simp

theorem ix_set (D : List Int) (i j : Nat) (v : Int) (hi : i < D.length) : ix (D.set i v) j = if i = j then v else ix D j := by
 unfold ix
 simp only [List.getD_eq_getElem?_getD, List.getElem?_set, hi, if_true]
 split <;> rfl

theorem IntRow.set {w : World} {g : Nat} {T : TypeId} {D : List Int} (h : IntRow w g T D) (i : Nat) (hi : i < D.length) (v : Int) : IntRow (w.setCell ⟨g, i, none⟩ (.int .i64 v)) g T (D.set i v) := by
 obtain ⟨arr, e, s, c⟩ := h
 refine ⟨arr.setIfInBounds i (.int .i64 v), ?_, by simpa using s, fun k hk => ?_⟩
 ·
  simp [World.setCell, Array.getElem?_modify, e]
 ·
  rw [List.length_set] at hk
  rw [Array.getElem?_setIfInBounds, ix_set _ _ _ _ hi]
  by_cases hik : i = k
  ·
   rw [if_pos hik, if_pos hik, if_pos (by omega)]
  ·
   rw [if_neg hik, if_neg hik]; exact c k hk

theorem grown_setCell (w : World) (g i : Nat) (v : Value) : w.grownBy (w.setCell ⟨g, i, none⟩ v) (some g) :=
 ⟨rfl, rfl, rfl, by simp [World.setCell], fun k _ hne => Below.heap_setCell _ _ _ _ (fun e => hne (by rw [e]))⟩

theorem grown_refl (w : World) (r : Option Nat) : w.grownBy w r := ⟨rfl, rfl, rfl, Nat.le_refl _, fun _ _ _ => rfl⟩

theorem grown_trans {a b c : World} {r : Option Nat} (h : a.grownBy b r) (k : b.grownBy c r) : a.grownBy c r :=
 ⟨k.os.trans h.os, k.tape.trans h.tape, k.output.trans h.output, Nat.le_trans h.size k.size, fun i hi hn => (k.block i (Nat.lt_of_lt_of_le hi h.size) hn).trans (h.block i hi hn)⟩

theorem grown_below {w w' : World} (h : Below w.heap.size w w') (r : Option Nat) : w.grownBy w' r :=
 ⟨h.os, h.tape, h.output, h.size, fun k hk _ => h.block k hk⟩

theorem grown_drew (w : World) (n : Nat) (r : Option Nat) : w.grownBy (w.drewN n) r := ⟨rfl, rfl, rfl, Nat.le_refl _, fun _ _ _ => rfl⟩

theorem grown_drew1 (w : World) (r : Option Nat) : w.grownBy w.drew r := ⟨rfl, rfl, rfl, Nat.le_refl _, fun _ _ _ => rfl⟩

theorem IntRow.below {w w' : World} {g : Nat} {T : TypeId} {D : List Int} (h : IntRow w g T D) (hb : Below w.heap.size w w') : IntRow w' g T D := by
 obtain ⟨arr, e, r⟩ := h
 exact ⟨arr, (hb.block g (lt_of_block e)).trans e, r⟩

theorem IntRow.drewN {w : World} {g : Nat} {T : TypeId} {D : List Int} (h : IntRow w g T D) (n : Nat) : IntRow (w.drewN n) g T D := h

theorem IntRow.drew1 {w : World} {g : Nat} {T : TypeId} {D : List Int} (h : IntRow w g T D) : IntRow w.drew g T D := h

/-- The list with two entries exchanged. -/
def swp (D : List Int) (i j : Nat) : List Int := (D.set i (ix D j)).set j (ix D i)

theorem swp_length (D : List Int) (i j : Nat) : (swp D i j).length = D.length := by simp [swp]

theorem ix_swp (D : List Int) (i j k : Nat) (hi : i < D.length) (hj : j < D.length) : ix (swp D i j) k = if j = k then ix D i else if i = k then ix D j else ix D k := by
 rw [swp, ix_set _ _ _ _ (by simpa using hj), ix_set _ _ _ _ hi]

theorem IntRow.swp {w : World} {g : Nat} {T : TypeId} {D : List Int} (h : IntRow w g T D) (i j : Nat) (hi : i < D.length) (hj : j < D.length) :
  IntRow ((w.setCell ⟨g, i, none⟩ (.int .i64 (ix D j))).setCell ⟨g, j, none⟩ (.int .i64 (ix D i))) g T (swp D i j) :=
 (h.set i hi (ix D j)).set j (by simpa using hj) (ix D i)

theorem list_ext_ix {A B : List Int} (hl : A.length = B.length) (h : ∀ k, k < A.length → ix A k = ix B k) : A = B := by
 apply List.ext_getElem hl
 intro k h1 h2
 have := h k h1
 simpa [ix, List.getD_eq_getElem?_getD, h1, h2] using this

theorem ix_append (A B : List Int) (k : Nat) : ix (A ++ B) k = if k < A.length then ix A k else ix B (k - A.length) := by
 unfold ix
 simp only [List.getD_eq_getElem?_getD, List.getElem?_append]
 split <;> rfl

end Go.Proofs.YthabgljdndbphaaGreatDoor
