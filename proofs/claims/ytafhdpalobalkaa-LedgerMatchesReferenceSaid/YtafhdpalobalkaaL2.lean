/- ledger: accounts and amounts, the walks. -/
import Derived.Test.YtafhdpalobalkaaL1
import Derived.RangeFuncRecord
import Derived.Lib.SmallJoins
namespace Go.Proofs.Ytafhdpalobalkaa
open Go.RowKit Go.IntWalk

/-- An account is valid. -/
def accS (a : AccT) : Bool := if 1 ≤ a.1 ∧ a.1 ≤ 3 then a.2.isEmpty else if 4 ≤ a.1 ∧ a.1 ≤ 6 then nameS a.2 else false

/-- A box of two cells. -/
def Boxed2 (W : World) (b : Nat) (u v : Value) (T : TypeId) : Prop := W.heap[b]? = some (.cells #[u, v] T (0, 0))
theorem Boxed2.c0 {W : World} {b : Nat} {u v : Value} {T : TypeId} (h : Boxed2 W b u v T) : W.cell? ⟨b, 0, none⟩ = some u := by rw [cell_of_row _ _ _ _ _ _ h]; rfl
theorem Boxed2.c1 {W : World} {b : Nat} {u v : Value} {T : TypeId} (h : Boxed2 W b u v T) : W.cell? ⟨b, 1, none⟩ = some v := by rw [cell_of_row _ _ _ _ _ _ h]; rfl
theorem Boxed2.step {W W' : World} {b : Nat} {u v : Value} {T : TypeId} (h : Boxed2 W b u v T) (hb : Below W.heap.size W W') : Boxed2 W' b u v T := (hb.block b (lt_of_block h)).trans h

theorem empty_bs (t : Name) : (bs t).toList.isEmpty = t.isEmpty := by rw [bs_toList]

set_option maxRecDepth 10000 in
set_option maxHeartbeats 800000 in
theorem valid_any (k : Int) (t : Name) (hlen : t.length ≤ 9223372036854775807) (w : World) : Calls Try.prog 47 #[.agg #[.int .i64 k, .string (bs t)]] w fun e w' => e = .returned (.bool (accS (k, t))) ∧ Below w.heap.size w w' := by
  have HB : Hid (Below w.heap.size w (w.alloc (.cells #[.int .i64 k, .string (bs t)] 39))) := Joins.below_alloc1 w _
  have HX : Hid (Boxed2 (w.alloc (.cells #[.int .i64 k, .string (bs t)] 39)) w.heap.size (.int .i64 k) (.string (bs t)) 39) := World.alloc_heap_new w _
  have HV : Hid (accS (k, t) = if 1 ≤ k ∧ k ≤ 3 then t.isEmpty else if 4 ≤ k ∧ k ≤ 6 then nameS t else false) := rfl
  have he := empty_bs t
  go_enter Try.func47, Try.ntmps47
  go_upto_region 1 with fail
  generalize w.alloc (.cells #[.int .i64 k, .string (bs t)] 39) = w1 at *
  have x0 := HX.out.c0
  have x1 := HX.out.c1
  by_cases h3 : 1 ≤ k ∧ k ≤ 3
  · rw [if_pos h3] at HV
    have h : k = 1 ∨ k = 2 ∨ k = 3 := by omega
    cases hz : t.isEmpty
    all_goals
      rw [hz] at he HV
      rcases h with rfl | rfl | rfl
      all_goals
        go_wp2_with fail
        go_ret
        exact ⟨by rw [HV.out]; rfl, HB.out⟩
  · rw [if_neg h3] at HV
    by_cases h6 : 4 ≤ k ∧ k ≤ 6
    · rw [if_pos h6] at HV
      have h : k = 4 ∨ k = 5 ∨ k = 6 := by omega
      rcases h with rfl | rfl | rfl
      all_goals
        go_wp2_with fail
        refine (lname_any t hlen w1).mono ?_
        rintro e w2 ⟨rfl, rfl⟩
        go_wp2_with fail
        go_ret
        exact ⟨by rw [HV.out]; rfl, HB.out⟩
    · rw [if_neg h6] at HV
      have e1 : (k == 1) = false := by simp; omega
      have e2 : (k == 2) = false := by simp; omega
      have e3 : (k == 3) = false := by simp; omega
      have e4 : (k == 4) = false := by simp; omega
      have e5 : (k == 5) = false := by simp; omega
      have e6 : (k == 6) = false := by simp; omega
      clear h3 h6
      go_wp2_with fail
      go_ret
      exact ⟨by rw [HV.out]; rfl, HB.out⟩

set_option maxRecDepth 10000 in
set_option maxHeartbeats 800000 in
theorem account_any (k : Int) (t : Name) (hlen : t.length ≤ 9223372036854775807) (w : World) : Calls Try.prog 43 #[.agg #[.int .i64 k, .string (bs t)]] w fun e w' => e = .returned (.bool (accS (k, t))) ∧ Below w.heap.size w w' := by
  have HB : Hid (Below w.heap.size w (w.alloc (.cells #[.int .i64 k, .string (bs t)] 39))) := Joins.below_alloc1 w _
  have HX : Hid (Boxed2 (w.alloc (.cells #[.int .i64 k, .string (bs t)] 39)) w.heap.size (.int .i64 k) (.string (bs t)) 39) := World.alloc_heap_new w _
  have HV : Hid (accS (k, t) = if 1 ≤ k ∧ k ≤ 3 then t.isEmpty else if 4 ≤ k ∧ k ≤ 6 then nameS t else false) := rfl
  have he := empty_bs t
  go_enter Try.func43, Try.ntmps43
  go_upto_region 1 with fail
  generalize w.alloc (.cells #[.int .i64 k, .string (bs t)] 39) = w1 at *
  have x0 := HX.out.c0
  have x1 := HX.out.c1
  by_cases h3 : 1 ≤ k ∧ k ≤ 3
  · rw [if_pos h3] at HV
    have a1 : decide (1 ≤ k) = true := by simp; omega
    have a2 : decide (k ≤ 3) = true := by simp; omega
    cases hz : t.isEmpty
    all_goals
      rw [hz] at he HV
      go_wp2_with fail
      go_ret
      exact ⟨by rw [HV.out]; rfl, HB.out⟩
  · rw [if_neg h3] at HV
    by_cases h6 : 4 ≤ k ∧ k ≤ 6
    · rw [if_pos h6] at HV
      have a1 : decide (1 ≤ k) = true := by simp; omega
      have a2 : decide (k ≤ 3) = false := by simp; omega
      have a3 : decide (4 ≤ k) = true := by simp; omega
      have a4 : decide (k ≤ 6) = true := by simp; omega
      clear h3 h6
      go_wp2_with fail
      refine (rname_any t hlen w1).mono ?_
      rintro e w2 ⟨rfl, rfl⟩
      go_wp2_with fail
      go_ret
      exact ⟨by rw [HV.out]; rfl, HB.out⟩
    · rw [if_neg h6] at HV
      by_cases h1 : 1 ≤ k
      · have a1 : decide (1 ≤ k) = true := by simp; omega
        have a2 : decide (k ≤ 3) = false := by simp; omega
        have a3 : decide (4 ≤ k) = true := by simp; omega
        have a4 : decide (k ≤ 6) = false := by simp; omega
        clear h3 h6
        go_wp2_with fail
        go_ret
        exact ⟨by rw [HV.out]; rfl, HB.out⟩
      · have a1 : decide (1 ≤ k) = false := by simp; omega
        have a3 : decide (4 ≤ k) = false := by simp; omega
        clear h3 h6
        go_wp2_with fail
        go_ret
        exact ⟨by rw [HV.out]; rfl, HB.out⟩

/-! ### Amounts -/
def inB (n lo hi : Int) : Bool := decide (lo ≤ n) && decide (n ≤ hi)
def amtB (n : Int) : Bool := inB n (-1000000000) 1000000000

theorem amtB_iff (n : Int) : amtB n = true ↔ -1000000000 ≤ n ∧ n ≤ 1000000000 := by unfold amtB inB; simp

theorem within_any (n lo hi : Int) (w : World) : Calls Try.prog 57 #[.int .i64 n, .int .i64 lo, .int .i64 hi] w fun e w' => e = .returned (.bool (inB n lo hi)) ∧ w = w' := by
  have HI : Hid (inB n lo hi = (decide (lo ≤ n) && decide (n ≤ hi))) := rfl
  obtain ⟨b1, h1⟩ : ∃ b, decide (lo ≤ n) = b := ⟨_, rfl⟩
  obtain ⟨b2, h2⟩ : ∃ b, decide (n ≤ hi) = b := ⟨_, rfl⟩
  rw [h1, h2] at HI
  cases b1
  all_goals
    go_enter Try.func57, Try.ntmps57
    go_wp2_with fail
    go_ret
    exact ⟨by rw [HI.out]; rfl, rfl⟩

theorem mvalid_any (n : Int) (w : World) : Calls Try.prog 48 #[.int .i64 n] w fun e w' => e = .returned (.bool (amtB n)) ∧ w = w' := by
  have HI : Hid (amtB n = inB n (-1000000000) 1000000000) := rfl
  go_enter Try.func48, Try.ntmps48
  go_wp2_with fail
  refine (within_any n _ _ w).mono ?_
  rintro e w' ⟨rfl, rfl⟩
  rw [← HI.out]
  go_wp2_with fail
  go_ret
  exact ⟨rfl, rfl⟩

theorem rvalid_any (n : Int) (w : World) : Calls Try.prog 44 #[.int .i64 n] w fun e w' => e = .returned (.bool (amtB n)) ∧ w = w' := by
  have HI : Hid (amtB n = (decide (-1000000000 ≤ n) && decide (n ≤ 1000000000))) := rfl
  obtain ⟨b1, h1⟩ : ∃ b, decide (-1000000000 ≤ n) = b := ⟨_, rfl⟩
  obtain ⟨b2, h2⟩ : ∃ b, decide (n ≤ 1000000000) = b := ⟨_, rfl⟩
  rw [h1, h2] at HI
  cases b1
  all_goals
    go_enter Try.func44, Try.ntmps44
    go_wp2_with fail
    go_ret
    exact ⟨by rw [HI.out]; rfl, rfl⟩
end Go.Proofs.Ytafhdpalobalkaa
