/- A block of cells that holds bools. -/
import Derived.Test.YtpmoelkblngamaaProg
import Derived.Test.YtpmoelkblngamaaRow
import Derived.Deep.OwnRows
namespace Go.Proofs.Ytpmoelkblngamaa
open Go.RowKit

/-- An entry of a list of bools, behind a name that simp does not open. -/
def bx (l : List Bool) (i : Nat) : Bool := l.getD i false

/-- The address and length read as the bools xs. -/
def Bools (w : World) (ra : Option Addr) (n : Nat) (xs : List Bool) : Prop :=
  xs.length = n ∧ ∀ k, k < n → ∃ b o, ra = some ⟨b, o, none⟩ ∧ w.cell? ⟨b, o + k, none⟩ = some (.bool (bx xs k))

theorem Bools.below {w w' : World} {ra : Option Addr} {n : Nat} {xs : List Bool} (h : Bools w ra n xs) (hb : Below w.heap.size w w') : Bools w' ra n xs :=
  ⟨h.1, fun k hk => let ⟨b, o, e, c⟩ := h.2 k hk; ⟨b, o, e, Below.cell_of hb c⟩⟩

def BoolRow (w : World) (g : Nat) (T : TypeId) (D : List Bool) : Prop :=
  ∃ arr : Array Value, w.heap[g]? = some (.cells arr T (0, 0)) ∧ D.length ≤ arr.size ∧ ∀ k, k < D.length → arr[k]? = some (.bool (bx D k))

theorem BoolRow.lt {w : World} {g : Nat} {T : TypeId} {D : List Bool} (h : BoolRow w g T D) : g < w.heap.size :=
  let ⟨_, e, _⟩ := h; lt_of_block e

theorem BoolRow.cell {w : World} {g : Nat} {T : TypeId} {D : List Bool} (h : BoolRow w g T D) (k : Nat) (hk : k < D.length) : w.cell? ⟨g, k, none⟩ = some (.bool (bx D k)) := by
  obtain ⟨arr, e, _, c⟩ := h
  simp only [World.cell?, e]
  exact c k hk

theorem BoolRow.free {w : World} {g : Nat} {T : TypeId} {D : List Bool} (h : BoolRow w g T D) (k : Nat) : w.frozen? ⟨g, k, none⟩ = false := by
  obtain ⟨arr, e, _, c⟩ := h
  simp only [World.frozen?, e]
  simp

theorem bx_set (D : List Bool) (i j : Nat) (v : Bool) (hi : i < D.length) : bx (D.set i v) j = if i = j then v else bx D j := by
  unfold bx
  simp only [List.getD_eq_getElem?_getD, List.getElem?_set, hi, if_true]
  split <;> rfl

theorem BoolRow.set {w : World} {g : Nat} {T : TypeId} {D : List Bool} (h : BoolRow w g T D) (i : Nat) (hi : i < D.length) (v : Bool) : BoolRow (w.setCell ⟨g, i, none⟩ (.bool v)) g T (D.set i v) := by
  obtain ⟨arr, e, s, c⟩ := h
  refine ⟨arr.setIfInBounds i (.bool v), ?_, by simpa using s, fun k hk => ?_⟩
  · simp [World.setCell, Array.getElem?_modify, e]
  · rw [List.length_set] at hk
    rw [Array.getElem?_setIfInBounds, bx_set _ _ _ _ hi]
    by_cases hik : i = k
    · rw [if_pos hik, if_pos hik, if_pos (by omega)]
    · rw [if_neg hik, if_neg hik]; exact c k hk


theorem BoolRow.of_heap {w w' : World} {g : Nat} {T : TypeId} {S : List Bool} (h : BoolRow w g T S) (e : w'.heap[g]? = w.heap[g]?) : BoolRow w' g T S := by
  obtain ⟨arr, e1, r⟩ := h
  exact ⟨arr, e.trans e1, r⟩

theorem BoolRow.bools {w : World} {g : Nat} {T : TypeId} {D : List Bool} (h : BoolRow w g T D) : Bools w (some ⟨g, 0, none⟩) D.length D :=
  ⟨rfl, fun k hk => ⟨g, 0, rfl, by rw [Nat.zero_add]; exact h.cell k hk⟩⟩

theorem BoolRow.made {w : World} {arr : Array Value} {T : TypeId} {n g : Nat} (hg : g = w.heap.size) (hs : arr.size = n) (hz : ∀ k, k < n → arr[k]? = some (.bool false)) : BoolRow (w.alloc (.cells arr T)) g T (List.replicate n false) := by
  subst hg
  refine ⟨arr, ?_, by simp [hs], fun k hk => ?_⟩
  · show (w.heap.push _)[w.heap.size]? = _
    simp
  · rw [List.length_replicate] at hk
    rw [hz k hk]
    simp [bx, List.getD_eq_getElem?_getD, hk]

theorem make_bools (n : Nat) (hn : n ≤ 4000) : ∃ arr : Array Value, arr.size = n ∧ (∀ k, k < n → arr[k]? = some (.bool false)) ∧
    ∀ w : World, (Instr.makeSlice 88 (.int .i64 (n : Int)) (.int .i64 (n : Int))).run Try.prog w = .ok (.slice (some ⟨w.heap.size, 0, none⟩) n n) (w.alloc (.cells arr 4)) := by
  refine ⟨madeCells #[.bool false] n, size_madeCells _ _, fun k hk => ?_, fun w => ?_⟩
  · simp [madeCells, hk, Nat.mod_one]
  · exact run_make_row' 88 4 (.bool false) 1 Try.underlying88 (by kernel_rfl) rfl .i64 .i64 n (by omega) (by omega) w

end Go.Proofs.Ytpmoelkblngamaa
