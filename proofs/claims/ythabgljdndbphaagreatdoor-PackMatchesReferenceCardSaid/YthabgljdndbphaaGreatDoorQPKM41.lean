/- foyerlaw23.PackRoom: the walk. -/
import Derived.Test.YthabgljdndbphaaGreatDoorQPKM40

set_option linter.unusedVariables false
set_option linter.unusedSimpArgs false
namespace Go.Proofs.YthabgljdndbphaaGreatDoor
open Go.RowKit Go.IntWalk Go.Maps Go.WideMaps
set_option linter.unusedSimpArgs false
set_option linter.unusedVariables false

theorem ints_recs {w : World} {ra : Option Addr} {n : Nat} {R : List Int} (h : Ints w ra n R) : Recs IntE w ra n R :=
 ⟨h.1, fun i hi => by
  obtain ⟨b, o, e, c⟩ := h.2 i hi
  refine ⟨b, o, e, fun j hj => ?_⟩
  obtain rfl : j = 0 := by omega
  have hi2 : i < R.length := by rw [h.1]; exact hi
  rw [rc_eq _ _ hi2, Nat.mul_one, Nat.add_zero, c, ix_get hi2]
  rfl⟩
theorem recs_ints {w : World} {ra : Option Addr} {n : Nat} {R : List Int} (h : Recs IntE w ra n R) : Ints w ra n R :=
 ⟨h.1, fun i hi => by
  obtain ⟨b, o, e, c⟩ := h.2 i hi
  have hi2 : i < R.length := by rw [h.1]; exact hi
  have c0 := c 0 (by omega)
  rw [rc_eq _ _ hi2, Nat.mul_one, Nat.add_zero] at c0
  refine ⟨b, o, e, ?_⟩
  rw [c0, ix_get hi2]
  rfl⟩
theorem ints_rcs {w : World} {ra : Option Addr} {c : Nat} {R : List Int} (h : Ints w ra R.length R) (hc : ra = none → c = 0) : Rcs IntE w (.slice ra R.length c) R := ⟨ra, c, rfl, ints_recs h, hc⟩
theorem own_cap {w : World} {B k n lc : Nat} {T : TypeId} {la : Option Addr} {xs : List Value} (h : w.ownsRow B T k (.slice la n lc) n xs) : n ≤ lc := by
 rcases h.2 with ⟨_, h0⟩ | ⟨g, cap, cur, e, _, _, hc, _⟩
 ·
  omega
 ·
  cases e
  exact hc
structure GgAt (w : World) (gg : Nat) (a b : Int) : Prop where
 box : w.heap[gg]? = some (.cells #[.int .i64 a, .int .i64 b] 49 (0, 0))
theorem GgAt.below {w w' : World} {gg : Nat} {a b : Int} (h : GgAt w gg a b) (hb : Below w.heap.size w w') : GgAt w' gg a b := ⟨(hb.block _ (lt_of_block h.box)).trans h.box⟩
theorem introw_of {w : World} {g : Nat} {T : TypeId} {D : List Int} (h : RecRow IntE w g T D) : IntRow w g T D := by
 obtain ⟨arr, e, hs, hc⟩ := h
 refine ⟨arr, e, by omega, fun k hk => ?_⟩
 have h0 := hc k 0 hk (by omega)
 rw [rc_eq _ _ hk, Nat.mul_one, Nat.add_zero] at h0
 rw [h0, ix_get hk]
 rfl
end Go.Proofs.YthabgljdndbphaaGreatDoor
