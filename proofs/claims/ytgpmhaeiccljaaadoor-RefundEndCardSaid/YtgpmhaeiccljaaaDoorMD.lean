/- money.within, Valid: the walks. -/
import Derived.Test.YtgpmhaeiccljaaaDoorProg
import Derived.Test.YtgpmhaeiccljaaaDoorRow
import Derived.Test.YtgpmhaeiccljaaaDoorMC
import Derived.IntWalk
import Derived.Deep.DeepCutAuto
namespace Go.Proofs.YtgpmhaeiccljaaaDoor
open Go.RowKit Go.IntWalk

def inB (n lo hi : Int) : Bool := decide (lo ≤ n) && decide (n ≤ hi)

def amtB (n : Int) : Bool := inB n (-1000000000) 1000000000

theorem amtB_iff (n : Int) : amtB n = true ↔ Amt n := by unfold amtB inB Amt; simp

theorem within_any (n lo hi : Int) (w : World) : Calls Tryd.prog 47 #[.int .i64 n, .int .i64 lo, .int .i64 hi] w fun e w' => e = .returned (.bool (inB n lo hi)) ∧ w = w' := by
  have HI : Hid (inB n lo hi = (decide (lo ≤ n) && decide (n ≤ hi))) := rfl
  obtain ⟨b1, h1⟩ : ∃ b, decide (lo ≤ n) = b := ⟨_, rfl⟩
  obtain ⟨b2, h2⟩ : ∃ b, decide (n ≤ hi) = b := ⟨_, rfl⟩
  rw [h1, h2] at HI
  cases b1
  all_goals
    go_enter Tryd.func47, Tryd.ntmps47
    go_wp2_with fail
    go_ret
    exact ⟨by rw [HI.out]; rfl, rfl⟩

theorem mvalid_any (n : Int) (w : World) : Calls Tryd.prog 38 #[.int .i64 n] w fun e w' => e = .returned (.bool (amtB n)) ∧ w = w' := by
  have HI : Hid (amtB n = inB n (-1000000000) 1000000000) := rfl
  go_enter Tryd.func38, Tryd.ntmps38
  go_wp2_with fail
  refine (within_any n _ _ w).mono ?_
  rintro e w' ⟨rfl, rfl⟩
  rw [← HI.out]
  go_wp2_with fail
  go_ret
  exact ⟨rfl, rfl⟩
end Go.Proofs.YtgpmhaeiccljaaaDoor
