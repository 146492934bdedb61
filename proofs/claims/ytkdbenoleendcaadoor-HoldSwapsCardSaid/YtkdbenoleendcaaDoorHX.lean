/- hold: the laws' example. -/
import Derived.Test.YtkdbenoleendcaaDoorHW
namespace Go.Proofs.YtkdbenoleendcaaDoor
open Go.RowKit Go.IntWalk Go.Maps Go.WideMaps

/-- A Holds of the call's own. -/
structure Hd (w wx : World) (g M sb : Nat) (st : St) : Prop where
  below : Below w.heap.size w wx
  hs : HS wx g M sb st
  own : ∀ i, Own3 g M sb i → w.heap.size ≤ i

section
variable {w wx w' : World} {g M sb : Nat} {st st' : St}
theorem Hd.step (h : Hd w wx g M sb st) (hh : HS w' g M sb st') (hu : Upd (Own3 g M sb) wx w') : Hd w w' g M sb st' := ⟨Upd.below h.below hu h.own, hh, h.own⟩
theorem Hd.next (h : Hd w wx g M sb st) (hb : Below wx.heap.size wx w') : Hd w w' g M sb st := ⟨h.below.trans (hb.mono h.below.size), h.hs.below hb, h.own⟩

theorem IntRow.ints {b : Nat} {L : List Int} (h : IntRow w b 3 L) : Ints w (some ⟨b, 0, none⟩) L.length L := ⟨rfl, fun k hk => ⟨b, 0, rfl, by rw [Nat.zero_add]; exact h.cell k hk⟩⟩

theorem row_own {b : Nat} {L : List Int} (h : IntRow w b 3 L) (hs : HS w g M sb st) : ∀ wx, Upd (Own3 g M sb) w wx → Ints wx (some ⟨b, 0, none⟩) L.length L := fun wx hu => by
  obtain ⟨arr, ha, r⟩ := h
  exact IntRow.ints (IntRow.keep ⟨arr, ha, r⟩ hu (hs.not_own ha (by decide) (by decide)))

theorem row_new (w : World) (L : List Int) : IntRow (w.alloc (.cells ((L.map (Value.int .i64)).toArray) 3)) w.heap.size 3 L := by
  refine ⟨_, World.alloc_heap_new w _, by simp, fun k hk => ?_⟩
  simp [ix, List.getD_eq_getElem?_getD, hk]
end

theorem end_nil (id : Int) (s : SpT) (w : World) : Calls Tryd.prog 35 #[.pointer none, .int .i64 id, .agg #[.int .i64 s.1, .int .i64 s.2]] w fun e w' => e = .returned (.tuple #[.slice none 0 0, .int .i64 1]) ∧ Below w.heap.size w w' := by
  go_enter Tryd.func35, Tryd.ntmps35
  go_wp2_with fail
  go_ret2
  exact ⟨rfl, Joins.below_alloc1 _ _⟩

theorem sell_nil (id : Int) (w : World) : Calls Tryd.prog 28 #[.pointer none, .int .i64 id] w fun e w' => e = .returned (.tuple #[.slice none 0 0, .int .i64 1]) ∧ Below w.heap.size w w' := by
  have HC := Lib.hid (end_nil id (2, id) w)
  go_enter Tryd.func28, Tryd.ntmps28
  go_wp2_with fail
  refine HC.out.mono ?_
  rintro e w' ⟨rfl, hb⟩
  have HB := Lib.hid hb
  clear hb HC
  go_wp2_with fail
  go_ret2
  exact ⟨rfl, HB.out⟩

def nmAnn : NmT := [97, 110, 110]
def nmBob : NmT := [98, 111, 98]
def nmCarl : NmT := [99, 97, 114, 108]

def sX1 : St := ⟨[(1, 1), (1, 1), (0, 0), (0, 0), (0, 0)], 1, [(1, nmAnn, [0, 1], 10, 0)]⟩
def sX2 : St := ⟨[(1, 1), (1, 1), (1, 2), (0, 0), (0, 0)], 2, [(1, nmAnn, [0, 1], 10, 0), (2, nmBob, [2], 20, 3)]⟩
def sX3 : St := ⟨[(1, 1), (1, 1), (0, 0), (1, 2), (1, 2)], 2, [(1, nmAnn, [0, 1], 10, 0), (2, nmBob, [3, 4], 20, 3)]⟩
def sX4 : St := ⟨[(0, 0), (0, 0), (0, 0), (1, 2), (1, 2)], 2, [(2, nmBob, [3, 4], 20, 3)]⟩
def sX5 : St := ⟨[(1, 3), (0, 0), (0, 0), (1, 2), (1, 2)], 3, [(2, nmBob, [3, 4], 20, 3), (3, nmCarl, [0], 30, 0)]⟩
def sX6 : St := ⟨[(2, 3), (0, 0), (0, 0), (1, 2), (1, 2)], 3, [(2, nmBob, [3, 4], 20, 3)]⟩
def sX7 : St := ⟨[(0, 0), (0, 0), (0, 0), (1, 2), (1, 2)], 3, [(2, nmBob, [3, 4], 20, 3)]⟩

theorem ex1 : takeS (newS 5) (nameS nmAnn) nmAnn [0, 1] 10 0 = ((1, 0), sX1) := by kernel_rfl
theorem ex1b : takeS sX1 (nameS nmBob) nmBob [1, 2] 20 0 = ((0, 16), sX1) := by kernel_rfl
theorem ex2 : takeS sX1 (nameS nmBob) nmBob [2] 20 3 = ((2, 0), sX2) := by kernel_rfl
theorem ex3 : swapS sX2 2 [3, 4] = (0, sX3) := by kernel_rfl
theorem ex4 : expireS sX3 11 = ([1], sX4) := by kernel_rfl
theorem ex5 : takeS sX4 (nameS nmCarl) nmCarl [0] 30 0 = ((3, 0), sX5) := by kernel_rfl
theorem ex6 : endS sX5 3 (2, 3) = (([0], 0), sX6) := by kernel_rfl
theorem ex7 : freeS sX6 0 = (0, sX7) := by kernel_rfl
theorem ex7b : freeS sX7 0 = (12, sX7) := by kernel_rfl
end Go.Proofs.YtkdbenoleendcaaDoor
