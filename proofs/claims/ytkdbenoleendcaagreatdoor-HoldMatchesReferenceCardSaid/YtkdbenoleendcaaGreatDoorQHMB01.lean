/- maps.Keys and slices.Sorted at this program: laid; Words that the walks share: a list's entry behind a name, a slice that reads as a list; A block of cells that holds integers: its cells read, are not frozen, and can be stored into. -/
import Derived.Test.YtkdbenoleendcaaGreatDoorQHMB00
import Derived.Shelf.SlIterI.Nil
import Derived.WalkKit
import Derived.LoopTactic
import Derived.Deep.QuietTactic
import Derived.BigQuiet
import Derived.Outline
import Derived.Lib.Hide
import Derived.WalkSmall
import Derived.BigRegion

namespace Go.Proofs.YtkdbenoleendcaaGreatDoor
open Go.Shelf Go.Proofs

def Tryz.keysH_ren : Go.Shelf.Ren := ⟨fun | 7 => 36 | 10 => 49 | n => n, fun | 23 => 54 | 26 => 3 | 3 => 51 | 28 => 67 | 0 => 0 | 27 => 66 | 33 => 71 | 4 => 4 | n => n, fun | n => n⟩
theorem Tryz.keysH : Go.Proofs.SlLaysZI.n7 Tryz.prog Tryz.keysH_ren where
  mixed := by kernel_rfl
  f7 := ⟨"maps.Keys[map[int]foyer/api.Hold,int,foyer/api.Hold]", by decide, Tryz.func36.trans (congrArg some (by kernel_rfl))⟩
  f10 := ⟨"maps.Keys[map[int]foyer/api.Hold,int,foyer/api.Hold]$1", by decide, Tryz.func49.trans (congrArg some (by kernel_rfl))⟩
  t0 := Tryz.underlying0
  a0 := Tryz.isAgg0
  z0 := Tryz.sizeOf0
  v0 := Tryz.zeroValue0
  t4 := Tryz.underlying4
  a4 := Tryz.isAgg4
  z4 := Tryz.sizeOf4
  v4 := Tryz.zeroValue4
  t23 := Tryz.underlying54
  a23 := Tryz.isAgg54
  z23 := Tryz.sizeOf54
  v23 := Tryz.zeroValue54
  t26 := Tryz.underlying3
  a26 := Tryz.isAgg3
  z26 := Tryz.sizeOf3
  v26 := Tryz.zeroValue3
  t27 := Tryz.underlying66
  a27 := Tryz.isAgg66
  z27 := Tryz.sizeOf66
  v27 := Tryz.zeroValue66
  t28 := Tryz.underlying67
  a28 := Tryz.isAgg67
  z28 := Tryz.sizeOf67
  v28 := Tryz.zeroValue67
  t33 := Tryz.underlying71
  a33 := Tryz.isAgg71
  z33 := Tryz.sizeOf71
  v33 := Tryz.zeroValue71
def Tryz.sortedH_ren : Go.Shelf.Ren := ⟨fun | 6 => 35 | 8 => 48 | 9 => 43 | 11 => 55 | 13 => 53 | 12 => 52 | 23 => 66 | 24 => 67 | 14 => 57 | 15 => 58 | 16 => 59 | 17 => 60 | 18 => 61 | 19 => 62 | 20 => 63 | 21 => 64 | 22 => 65 | 25 => 72 | 26 => 73 | 27 => 74 | 28 => 75 | 29 => 76 | 30 => 77 | 31 => 81 | n => n, fun | 26 => 3 | 28 => 67 | 24 => 29 | 0 => 0 | 3 => 3 | 37 => 87 | 48 => 103 | 50 => 105 | 4 => 4 | 40 => 95 | 39 => 94 | 45 => 100 | 5 => 5 | 9 => 9 | 51 => 114 | 55 => 118 | 57 => 122 | 58 => 123 | 33 => 71 | n => n, fun | n => n⟩
theorem Tryz.sortedH : Go.Proofs.SlLaysZI.n6 Tryz.prog Tryz.sortedH_ren where
  mixed := by kernel_rfl
  f6 := ⟨"slices.Sorted[int]", by decide, Tryz.func35.trans (congrArg some (by kernel_rfl))⟩
  f8 := ⟨"slices.Collect[int]", by decide, Tryz.func48.trans (congrArg some (by kernel_rfl))⟩
  f11 := ⟨"slices.AppendSeq[[]int,int]", by decide, Tryz.func55.trans (congrArg some (by kernel_rfl))⟩
  t0 := Tryz.underlying0
  a0 := Tryz.isAgg0
  z0 := Tryz.sizeOf0
  v0 := Tryz.zeroValue0
  t24 := Tryz.underlying29
  a24 := Tryz.isAgg29
  z24 := Tryz.sizeOf29
  v24 := Tryz.zeroValue29
  t26 := Tryz.underlying3
  a26 := Tryz.isAgg3
  z26 := Tryz.sizeOf3
  v26 := Tryz.zeroValue3
  t28 := Tryz.underlying67
  a28 := Tryz.isAgg67
  z28 := Tryz.sizeOf67
  v28 := Tryz.zeroValue67
  i26 := by kernel_rfl
end Go.Proofs.YtkdbenoleendcaaGreatDoor

namespace Go.Proofs.YtkdbenoleendcaaGreatDoor
open Go.RowKit

/-- An entry of a list of integers, behind a name that simp does not open. -/
def ix (l : List Int) (i : Nat) : Int := l.getD i 0

/-- The address and length read as the integers xs. -/
def Ints (w : World) (ra : Option Addr) (n : Nat) (xs : List Int) : Prop :=
  xs.length = n ∧ ∀ k, k < n → ∃ b o, ra = some ⟨b, o, none⟩ ∧ w.cell? ⟨b, o + k, none⟩ = some (.int .i64 (ix xs k))

theorem cell_lt {w : World} {b o : Nat} {v : Value} (h : w.cell? ⟨b, o, none⟩ = some v) : b < w.heap.size :=
  World.block_lt_of_cell? w ⟨b, o, none⟩ h

theorem Below.cell_of {w w' : World} {b o : Nat} {v : Value} (hb : Below w.heap.size w w') (h : w.cell? ⟨b, o, none⟩ = some v) : w'.cell? ⟨b, o, none⟩ = some v :=
  (hb.cell (p := ⟨b, o, none⟩) (cell_lt h)).trans h

theorem Ints.below {w w' : World} {ra : Option Addr} {n : Nat} {xs : List Int} (h : Ints w ra n xs) (hb : Below w.heap.size w w') : Ints w' ra n xs :=
  ⟨h.1, fun k hk => let ⟨b, o, e, c⟩ := h.2 k hk; ⟨b, o, e, Below.cell_of hb c⟩⟩

end Go.Proofs.YtkdbenoleendcaaGreatDoor

namespace Go.Proofs.YtkdbenoleendcaaGreatDoor
open Go.RowKit

def IntRow (w : World) (g : Nat) (T : TypeId) (D : List Int) : Prop :=
  ∃ arr : Array Value, w.heap[g]? = some (.cells arr T (0, 0)) ∧ D.length ≤ arr.size ∧ ∀ k, k < D.length → arr[k]? = some (.int .i64 (ix D k))

theorem IntRow.lt {w : World} {g : Nat} {T : TypeId} {D : List Int} (h : IntRow w g T D) : g < w.heap.size :=
  let ⟨_, e, _⟩ := h; lt_of_block e

theorem IntRow.cell {w : World} {g : Nat} {T : TypeId} {D : List Int} (h : IntRow w g T D) (k : Nat) (hk : k < D.length) : w.cell? ⟨g, k, none⟩ = some (.int .i64 (ix D k)) := by
  obtain ⟨arr, e, _, c⟩ := h
  simp only [World.cell?, e]
  exact c k hk

theorem IntRow.free {w : World} {g : Nat} {T : TypeId} {D : List Int} (h : IntRow w g T D) (k : Nat) : w.frozen? ⟨g, k, none⟩ = false := by
  obtain ⟨arr, e, _, c⟩ := h
  simp only [World.frozen?, e]
  simp

theorem ix_set (D : List Int) (i j : Nat) (v : Int) (hi : i < D.length) : ix (D.set i v) j = if i = j then v else ix D j := by
  unfold ix
  simp only [List.getD_eq_getElem?_getD, List.getElem?_set, hi, if_true]
  split <;> rfl

theorem IntRow.set {w : World} {g : Nat} {T : TypeId} {D : List Int} (h : IntRow w g T D) (i : Nat) (hi : i < D.length) (v : Int) : IntRow (w.setCell ⟨g, i, none⟩ (.int .i64 v)) g T (D.set i v) := by
  obtain ⟨arr, e, s, c⟩ := h
  refine ⟨arr.setIfInBounds i (.int .i64 v), ?_, by simpa using s, fun k hk => ?_⟩
  · simp [World.setCell, Array.getElem?_modify, e]
  · rw [List.length_set] at hk
    rw [Array.getElem?_setIfInBounds, ix_set _ _ _ _ hi]
    by_cases hik : i = k
    · rw [if_pos hik, if_pos hik, if_pos (by omega)]
    · rw [if_neg hik, if_neg hik]; exact c k hk

theorem grown_setCell (w : World) (g i : Nat) (v : Value) : w.grownBy (w.setCell ⟨g, i, none⟩ v) (some g) :=
  ⟨rfl, rfl, rfl, by simp [World.setCell], fun k _ hne => Below.heap_setCell _ _ _ _ (fun e => hne (by rw [e]))⟩

theorem grown_refl (w : World) (r : Option Nat) : w.grownBy w r := ⟨rfl, rfl, rfl, Nat.le_refl _, fun _ _ _ => rfl⟩

theorem grown_trans {a b c : World} {r : Option Nat} (h : a.grownBy b r) (k : b.grownBy c r) : a.grownBy c r :=
  ⟨k.os.trans h.os, k.tape.trans h.tape, k.output.trans h.output, Nat.le_trans h.size k.size, fun i hi hn => (k.block i (Nat.lt_of_lt_of_le hi h.size) hn).trans (h.block i hi hn)⟩

theorem grown_below {w w' : World} (h : Below w.heap.size w w') (r : Option Nat) : w.grownBy w' r :=
  ⟨h.os, h.tape, h.output, h.size, fun k hk _ => h.block k hk⟩

theorem grown_drew (w : World) (n : Nat) (r : Option Nat) : w.grownBy (w.drewN n) r := ⟨rfl, rfl, rfl, Nat.le_refl _, fun _ _ _ => rfl⟩

theorem grown_drew1 (w : World) (r : Option Nat) : w.grownBy w.drew r := ⟨rfl, rfl, rfl, Nat.le_refl _, fun _ _ _ => rfl⟩

theorem IntRow.below {w w' : World} {g : Nat} {T : TypeId} {D : List Int} (h : IntRow w g T D) (hb : Below w.heap.size w w') : IntRow w' g T D := by
  obtain ⟨arr, e, r⟩ := h
  exact ⟨arr, (hb.block g (lt_of_block e)).trans e, r⟩

theorem IntRow.drewN {w : World} {g : Nat} {T : TypeId} {D : List Int} (h : IntRow w g T D) (n : Nat) : IntRow (w.drewN n) g T D := h

theorem IntRow.drew1 {w : World} {g : Nat} {T : TypeId} {D : List Int} (h : IntRow w g T D) : IntRow w.drew g T D := h

/-- The list with two entries exchanged. -/
def swp (D : List Int) (i j : Nat) : List Int := (D.set i (ix D j)).set j (ix D i)

theorem swp_length (D : List Int) (i j : Nat) : (swp D i j).length = D.length := by simp [swp]

theorem ix_swp (D : List Int) (i j k : Nat) (hi : i < D.length) (hj : j < D.length) : ix (swp D i j) k = if j = k then ix D i else if i = k then ix D j else ix D k := by
  rw [swp, ix_set _ _ _ _ (by simpa using hj), ix_set _ _ _ _ hi]

theorem IntRow.swp {w : World} {g : Nat} {T : TypeId} {D : List Int} (h : IntRow w g T D) (i j : Nat) (hi : i < D.length) (hj : j < D.length) :
    IntRow ((w.setCell ⟨g, i, none⟩ (.int .i64 (ix D j))).setCell ⟨g, j, none⟩ (.int .i64 (ix D i))) g T (swp D i j) :=
  (h.set i hi (ix D j)).set j (by simpa using hj) (ix D i)

theorem list_ext_ix {A B : List Int} (hl : A.length = B.length) (h : ∀ k, k < A.length → ix A k = ix B k) : A = B := by
  apply List.ext_getElem hl
  intro k h1 h2
  have := h k h1
  simpa [ix, List.getD_eq_getElem?_getD, h1, h2] using this

theorem ix_append (A B : List Int) (k : Nat) : ix (A ++ B) k = if k < A.length then ix A k else ix B (k - A.length) := by
  unfold ix
  simp only [List.getD_eq_getElem?_getD, List.getElem?_append]
  split <;> rfl

end Go.Proofs.YtkdbenoleendcaaGreatDoor
