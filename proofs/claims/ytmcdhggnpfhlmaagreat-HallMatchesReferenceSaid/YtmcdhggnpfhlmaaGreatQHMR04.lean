/- hall: rectangles, coordinates; hall: box; what an alloc lays; A block of cells that holds bools. -/
import Derived.Test.YtmcdhggnpfhlmaaGreatQHMR00
import Derived.Test.YtmcdhggnpfhlmaaGreatQHMR03
import Derived.Test.YtmcdhggnpfhlmaaGreatProg
import Derived.Deep.OwnRows

set_option linter.unusedVariables false
set_option linter.unusedSimpArgs false
namespace Go.Proofs.YtmcdhggnpfhlmaaGreat
open Go.RowKit Go.IntWalk
set_option linter.unusedSimpArgs false
set_option linter.unusedVariables false

set_option maxRecDepth 100000 in
set_option maxHeartbeats 8000000 in
theorem inside_any (w : World) (b : BoxR) (x y : Int) :
  Calls Tryz.prog 32 #[.agg #[.int .i64 b.x, .int .i64 b.y, .int .i64 b.x2, .int .i64 b.y2], .int .i64 x, .int .i64 y] w fun e w' => e = .returned (.bool (insideB b x y)) ∧ Below w.heap.size w w' := by
 obtain ⟨b0, b1, b2, b3⟩ := b
 unfold insideB
 dsimp only
 refine enter_fr (N := 29) [.agg #[.int .i64 b0, .int .i64 b1, .int .i64 b2, .int .i64 b3], .int .i64 x, .int .i64 y] (Tryz.func32) rfl Tryz.ntmps32 (by rfl) (fun a hF => ?_);replace hF := hF.kp [0, 1, 2] rfl;refine wp_seq_k (fun K hK => ?_);refine region_seq (l := [0, 1]) (by kernel_rfl) ?_;refine seq_one ?_;revert hF;refine qe1 fun a hF => ?_;revert hF;refine zre 1 [2] [1, 2, 3] fun a hF => ?_;refine hK _ _ ?_;clear hK
 have HB := Lib.hid (Joins.below_alloc1 w (.cells #[.int .i64 b0, .int .i64 b1, .int .i64 b2, .int .i64 b3] 59))
 have hN : (w.alloc (.cells #[.int .i64 b0, .int .i64 b1, .int .i64 b2, .int .i64 b3] 59)).heap[w.heap.size]? = some (.cells #[.int .i64 b0, .int .i64 b1, .int .i64 b2, .int .i64 b3] 59 (0, 0)) := World.alloc_heap_new w _
 generalize w.alloc (.cells #[.int .i64 b0, .int .i64 b1, .int .i64 b2, .int .i64 b3] 59) = w1 at *
 generalize w.heap.size = g at *
 have c0 := cell_of_row (j := 0) _ _ _ _ _ hN
 have c1 := cell_of_row (j := 1) _ _ _ _ _ hN
 have c2 := cell_of_row (j := 2) _ _ _ _ _ hN
 have c3 := cell_of_row (j := 3) _ _ _ _ _ hN
 clear hN
 by_cases h1 : b0 ≤ x
 rotate_left
 ·
  have bh1 : decide (b0 ≤ x) = false := decide_eq_false h1
  revert hF;refine zrs [4, 4, 1, 5, 1, 0, 0, 0, 0, 5, 1, 0, 0, 0, 0, 5, 1, 0, 0, 0, 0, 5, 2] [6] fun a hF => ?_;refine wp_ret ?_;(try simp only [then_ret, block_ret, goto_ret]);revert hF;refine zq ?_
  exact ⟨by simp [tupF, h1], HB.out⟩
 have bh1 : decide (b0 ≤ x) = true := decide_eq_true h1
 by_cases h2 : x ≤ b2
 rotate_left
 ·
  have bh2 : decide (x ≤ b2) = false := decide_eq_false h2
  revert hF;refine zrs [4, 4, 1, 5, 1, 1, 4, 4, 5, 5, 1, 0, 0, 0, 0, 5, 1, 0, 0, 0, 0, 5, 2] [6] fun a hF => ?_;refine wp_ret ?_;(try simp only [then_ret, block_ret, goto_ret]);revert hF;refine zq ?_
  exact ⟨by simp [tupF, h1, h2], HB.out⟩
 have bh2 : decide (x ≤ b2) = true := decide_eq_true h2
 by_cases h3 : b1 ≤ y
 rotate_left
 ·
  have bh3 : decide (b1 ≤ y) = false := decide_eq_false h3
  revert hF;refine zrs [4, 4, 1, 5, 1, 1, 4, 4, 5, 5, 1, 4, 4, 1, 5, 5, 1, 0, 0, 0, 0, 5, 2] [6] fun a hF => ?_;refine wp_ret ?_;(try simp only [then_ret, block_ret, goto_ret]);revert hF;refine zq ?_
  exact ⟨by simp [tupF, h1, h2, h3], HB.out⟩
 have bh3 : decide (b1 ≤ y) = true := decide_eq_true h3
 revert hF;refine zrs [4, 4, 1, 5, 1, 1, 4, 4, 5, 5, 1, 4, 4, 1, 5, 5, 1, 1, 4, 4, 5, 5, 2] [6] fun a hF => ?_;refine wp_ret ?_;(try simp only [then_ret, block_ret, goto_ret]);revert hF;refine zq ?_
 exact ⟨by simp [tupF, h1, h2, h3], HB.out⟩

set_option maxRecDepth 100000 in
set_option maxHeartbeats 8000000 in
theorem rin_any (w : World) (b : BoxR) (x y : Int) :
  Calls Tryz.prog 33 #[.int .i64 x, .int .i64 y, .agg #[.int .i64 b.x, .int .i64 b.y, .int .i64 b.x2, .int .i64 b.y2]] w fun e w' => e = .returned (.bool (insideB b x y)) ∧ Below w.heap.size w w' := by
 obtain ⟨b0, b1, b2, b3⟩ := b
 unfold insideB
 dsimp only
 refine enter_fr (N := 29) [.int .i64 x, .int .i64 y, .agg #[.int .i64 b0, .int .i64 b1, .int .i64 b2, .int .i64 b3]] (Tryz.func33) rfl Tryz.ntmps33 (by rfl) (fun a hF => ?_);replace hF := hF.kp [0, 1, 2] rfl;refine wp_seq_k (fun K hK => ?_);refine region_seq (l := [0, 1]) (by kernel_rfl) ?_;refine seq_one ?_;revert hF;refine qe1 fun a hF => ?_;revert hF;refine zre 1 [2] [0, 1, 5] fun a hF => ?_;refine hK _ _ ?_;clear hK
 have HB := Lib.hid (Joins.below_alloc1 w (.cells #[.int .i64 b0, .int .i64 b1, .int .i64 b2, .int .i64 b3] 59))
 have hN : (w.alloc (.cells #[.int .i64 b0, .int .i64 b1, .int .i64 b2, .int .i64 b3] 59)).heap[w.heap.size]? = some (.cells #[.int .i64 b0, .int .i64 b1, .int .i64 b2, .int .i64 b3] 59 (0, 0)) := World.alloc_heap_new w _
 generalize w.alloc (.cells #[.int .i64 b0, .int .i64 b1, .int .i64 b2, .int .i64 b3] 59) = w1 at *
 generalize w.heap.size = g at *
 have c0 := cell_of_row (j := 0) _ _ _ _ _ hN
 have c1 := cell_of_row (j := 1) _ _ _ _ _ hN
 have c2 := cell_of_row (j := 2) _ _ _ _ _ hN
 have c3 := cell_of_row (j := 3) _ _ _ _ _ hN
 clear hN
 by_cases h1 : b0 ≤ x
 rotate_left
 ·
  have bh1 : decide (b0 ≤ x) = false := decide_eq_false h1
  revert hF;refine zrs [1, 4, 4, 5, 1, 0, 0, 0, 0, 5, 1, 0, 0, 0, 0, 5, 1, 0, 0, 0, 0, 5, 2] [6] fun a hF => ?_;refine wp_ret ?_;(try simp only [then_ret, block_ret, goto_ret]);revert hF;refine zq ?_
  exact ⟨by simp [tupF, h1], HB.out⟩
 have bh1 : decide (b0 ≤ x) = true := decide_eq_true h1
 by_cases h2 : x ≤ b2
 rotate_left
 ·
  have bh2 : decide (x ≤ b2) = false := decide_eq_false h2
  revert hF;refine zrs [1, 4, 4, 5, 1, 1, 4, 4, 5, 5, 1, 0, 0, 0, 0, 5, 1, 0, 0, 0, 0, 5, 2] [6] fun a hF => ?_;refine wp_ret ?_;(try simp only [then_ret, block_ret, goto_ret]);revert hF;refine zq ?_
  exact ⟨by simp [tupF, h1, h2], HB.out⟩
 have bh2 : decide (x ≤ b2) = true := decide_eq_true h2
 by_cases h3 : b1 ≤ y
 rotate_left
 ·
  have bh3 : decide (b1 ≤ y) = false := decide_eq_false h3
  revert hF;refine zrs [1, 4, 4, 5, 1, 1, 4, 4, 5, 5, 1, 1, 4, 4, 5, 5, 1, 0, 0, 0, 0, 5, 2] [6] fun a hF => ?_;refine wp_ret ?_;(try simp only [then_ret, block_ret, goto_ret]);revert hF;refine zq ?_
  exact ⟨by simp [tupF, h1, h2, h3], HB.out⟩
 have bh3 : decide (b1 ≤ y) = true := decide_eq_true h3
 revert hF;refine zrs [1, 4, 4, 5, 1, 1, 4, 4, 5, 5, 1, 1, 4, 4, 5, 5, 1, 1, 4, 4, 5, 5, 2] [6] fun a hF => ?_;refine wp_ret ?_;(try simp only [then_ret, block_ret, goto_ret]);revert hF;refine zq ?_
 exact ⟨by simp [tupF, h1, h2, h3], HB.out⟩

set_option maxRecDepth 100000 in
set_option maxHeartbeats 8000000 in
theorem meet_any (w : World) (a b : BoxR) :
  Calls Tryz.prog 29 #[.agg #[.int .i64 a.x, .int .i64 a.y, .int .i64 a.x2, .int .i64 a.y2], .agg #[.int .i64 b.x, .int .i64 b.y, .int .i64 b.x2, .int .i64 b.y2]] w fun e w' => e = .returned (.bool (meetB a b)) ∧ Below w.heap.size w w' := by
 obtain ⟨a0, a1, a2, a3⟩ := a
 obtain ⟨b0, b1, b2, b3⟩ := b
 unfold meetB
 dsimp only
 obtain ⟨m1, q1⟩ : ∃ m, (if a0 < b0 then b0 else a0) = m := ⟨_, rfl⟩
 have u1 : max a0 b0 = m1 := by
  rw [← q1]
  split <;> omega
 obtain ⟨n1, q2⟩ : ∃ m, (if b2 < a2 then b2 else a2) = m := ⟨_, rfl⟩
 have u2 : min a2 b2 = n1 := by
  rw [← q2]
  split <;> omega
 obtain ⟨m2, q3⟩ : ∃ m, (if a1 < b1 then b1 else a1) = m := ⟨_, rfl⟩
 have u3 : max a1 b1 = m2 := by
  rw [← q3]
  split <;> omega
 obtain ⟨n2, q4⟩ : ∃ m, (if b3 < a3 then b3 else a3) = m := ⟨_, rfl⟩
 have u4 : min a3 b3 = n2 := by
  rw [← q4]
  split <;> omega
 rw [u1, u2, u3, u4]
 clear u1 u2 u3 u4
 refine enter_fr (N := 29) [.agg #[.int .i64 a0, .int .i64 a1, .int .i64 a2, .int .i64 a3], .agg #[.int .i64 b0, .int .i64 b1, .int .i64 b2, .int .i64 b3]] (Tryz.func29) rfl Tryz.ntmps29 (by rfl) (fun a hF => ?_);replace hF := hF.kp [0, 1] rfl;refine wp_seq_k (fun K hK => ?_);refine region_seq (l := [0, 1, 2]) (by kernel_rfl) ?_;refine seq_one ?_;revert hF;refine qe1 fun a hF => ?_
 have HB1 := Lib.hid (Joins.below_alloc1 w (.cells #[.int .i64 a0, .int .i64 a1, .int .i64 a2, .int .i64 a3] 59))
 have hN : (w.alloc (.cells #[.int .i64 a0, .int .i64 a1, .int .i64 a2, .int .i64 a3] 59)).heap[w.heap.size]? = some (.cells #[.int .i64 a0, .int .i64 a1, .int .i64 a2, .int .i64 a3] 59 (0, 0)) := World.alloc_heap_new w _
 generalize w.alloc (.cells #[.int .i64 a0, .int .i64 a1, .int .i64 a2, .int .i64 a3] 59) = w1 at *
 generalize w.heap.size = g1 at *
 have c0 := cell_of_row (j := 0) _ _ _ _ _ hN
 have c1 := cell_of_row (j := 1) _ _ _ _ _ hN
 have c2 := cell_of_row (j := 2) _ _ _ _ _ hN
 have c3 := cell_of_row (j := 3) _ _ _ _ _ hN
 clear hN
 refine seq_one ?_;revert hF;refine qe1 fun a hF => ?_
 have HB2 := Lib.hid (Joins.below_alloc1 w1 (.cells #[.int .i64 b0, .int .i64 b1, .int .i64 b2, .int .i64 b3] 59))
 have hsz : g1 ≤ w1.heap.size := by
  have := cell_lt c0
  omega
 have d0 := Below.cell_of HB2.out c0
 have d1 := Below.cell_of HB2.out c1
 have d2 := Below.cell_of HB2.out c2
 have d3 := Below.cell_of HB2.out c3
 have HB : Hid (Below g1 w (w1.alloc (.cells #[.int .i64 b0, .int .i64 b1, .int .i64 b2, .int .i64 b3] 59))) := HB1.out.trans (HB2.out.mono hsz)
 clear HB1 HB2 c0 c1 c2 c3
 have hN : (w1.alloc (.cells #[.int .i64 b0, .int .i64 b1, .int .i64 b2, .int .i64 b3] 59)).heap[w1.heap.size]? = some (.cells #[.int .i64 b0, .int .i64 b1, .int .i64 b2, .int .i64 b3] 59 (0, 0)) := World.alloc_heap_new w1 _
 generalize w1.alloc (.cells #[.int .i64 b0, .int .i64 b1, .int .i64 b2, .int .i64 b3] 59) = w2 at *
 generalize w1.heap.size = g2 at *
 have e0 := cell_of_row (j := 0) _ _ _ _ _ hN
 have e1 := cell_of_row (j := 1) _ _ _ _ _ hN
 have e2 := cell_of_row (j := 2) _ _ _ _ _ hN
 have e3 := cell_of_row (j := 3) _ _ _ _ _ hN
 clear hN
 revert hF;refine zre 2 [2] [2, 3] fun a hF => ?_;refine hK _ _ ?_;clear hK
 by_cases h1 : m1 ≤ n1
 rotate_left
 ·
  have bh1 : decide (m1 ≤ n1) = false := decide_eq_false h1
  revert hF;refine zrs [4, 4, 4, 4, 5, 4, 4, 4, 4, 5, 5, 1, 0, 0, 0, 0, 0, 0, 0, 0, 0, 0, 0, 5, 2] [4] fun a hF => ?_;refine wp_ret ?_;(try simp only [then_ret, block_ret, goto_ret]);revert hF;refine zq ?_
  exact ⟨by simp [tupF, h1], HB.out⟩
 have bh1 : decide (m1 ≤ n1) = true := decide_eq_true h1
 revert hF;refine zrs [4, 4, 4, 4, 5, 4, 4, 4, 4, 5, 5, 1, 4, 4, 4, 4, 5, 4, 4, 4, 4, 5, 5, 5, 2] [4] fun a hF => ?_;refine wp_ret ?_;(try simp only [then_ret, block_ret, goto_ret]);revert hF;refine zq ?_
 exact ⟨by simp [tupF, h1], HB.out⟩

set_option maxRecDepth 100000 in
set_option maxHeartbeats 8000000 in
theorem rmeet_any (w : World) (a b : BoxR) :
  Calls Tryz.prog 34 #[.agg #[.int .i64 a.x, .int .i64 a.y, .int .i64 a.x2, .int .i64 a.y2], .agg #[.int .i64 b.x, .int .i64 b.y, .int .i64 b.x2, .int .i64 b.y2]] w fun e w' => e = .returned (.bool (meetB a b)) ∧ Below w.heap.size w w' := by
 obtain ⟨a0, a1, a2, a3⟩ := a
 obtain ⟨b0, b1, b2, b3⟩ := b
 unfold meetB
 dsimp only
 obtain ⟨m1, q1⟩ : ∃ m, (if a0 < b0 then b0 else a0) = m := ⟨_, rfl⟩
 have u1 : max a0 b0 = m1 := by
  rw [← q1]
  split <;> omega
 obtain ⟨n1, q2⟩ : ∃ m, (if b2 < a2 then b2 else a2) = m := ⟨_, rfl⟩
 have u2 : min a2 b2 = n1 := by
  rw [← q2]
  split <;> omega
 obtain ⟨m2, q3⟩ : ∃ m, (if a1 < b1 then b1 else a1) = m := ⟨_, rfl⟩
 have u3 : max a1 b1 = m2 := by
  rw [← q3]
  split <;> omega
 obtain ⟨n2, q4⟩ : ∃ m, (if b3 < a3 then b3 else a3) = m := ⟨_, rfl⟩
 have u4 : min a3 b3 = n2 := by
  rw [← q4]
  split <;> omega
 rw [u1, u2, u3, u4]
 clear u1 u2 u3 u4
 refine enter_fr (N := 29) [.agg #[.int .i64 a0, .int .i64 a1, .int .i64 a2, .int .i64 a3], .agg #[.int .i64 b0, .int .i64 b1, .int .i64 b2, .int .i64 b3]] (Tryz.func34) rfl Tryz.ntmps34 (by rfl) (fun a hF => ?_);replace hF := hF.kp [0, 1] rfl;refine wp_seq_k (fun K hK => ?_);refine region_seq (l := [0, 1, 2]) (by kernel_rfl) ?_;refine seq_one ?_;revert hF;refine qe1 fun a hF => ?_
 have HB1 := Lib.hid (Joins.below_alloc1 w (.cells #[.int .i64 a0, .int .i64 a1, .int .i64 a2, .int .i64 a3] 59))
 have hN : (w.alloc (.cells #[.int .i64 a0, .int .i64 a1, .int .i64 a2, .int .i64 a3] 59)).heap[w.heap.size]? = some (.cells #[.int .i64 a0, .int .i64 a1, .int .i64 a2, .int .i64 a3] 59 (0, 0)) := World.alloc_heap_new w _
 generalize w.alloc (.cells #[.int .i64 a0, .int .i64 a1, .int .i64 a2, .int .i64 a3] 59) = w1 at *
 generalize w.heap.size = g1 at *
 have c0 := cell_of_row (j := 0) _ _ _ _ _ hN
 have c1 := cell_of_row (j := 1) _ _ _ _ _ hN
 have c2 := cell_of_row (j := 2) _ _ _ _ _ hN
 have c3 := cell_of_row (j := 3) _ _ _ _ _ hN
 clear hN
 refine seq_one ?_;revert hF;refine qe1 fun a hF => ?_
 have HB2 := Lib.hid (Joins.below_alloc1 w1 (.cells #[.int .i64 b0, .int .i64 b1, .int .i64 b2, .int .i64 b3] 59))
 have hsz : g1 ≤ w1.heap.size := by
  have := cell_lt c0
  omega
 have d0 := Below.cell_of HB2.out c0
 have d1 := Below.cell_of HB2.out c1
 have d2 := Below.cell_of HB2.out c2
 have d3 := Below.cell_of HB2.out c3
 have HB : Hid (Below g1 w (w1.alloc (.cells #[.int .i64 b0, .int .i64 b1, .int .i64 b2, .int .i64 b3] 59))) := HB1.out.trans (HB2.out.mono hsz)
 clear HB1 HB2 c0 c1 c2 c3
 have hN : (w1.alloc (.cells #[.int .i64 b0, .int .i64 b1, .int .i64 b2, .int .i64 b3] 59)).heap[w1.heap.size]? = some (.cells #[.int .i64 b0, .int .i64 b1, .int .i64 b2, .int .i64 b3] 59 (0, 0)) := World.alloc_heap_new w1 _
 generalize w1.alloc (.cells #[.int .i64 b0, .int .i64 b1, .int .i64 b2, .int .i64 b3] 59) = w2 at *
 generalize w1.heap.size = g2 at *
 have e0 := cell_of_row (j := 0) _ _ _ _ _ hN
 have e1 := cell_of_row (j := 1) _ _ _ _ _ hN
 have e2 := cell_of_row (j := 2) _ _ _ _ _ hN
 have e3 := cell_of_row (j := 3) _ _ _ _ _ hN
 clear hN
 revert hF;refine zre 2 [2] [2, 3] fun a hF => ?_;refine hK _ _ ?_;clear hK
 by_cases h1 : m1 ≤ n1
 rotate_left
 ·
  have bh1 : decide (m1 ≤ n1) = false := decide_eq_false h1
  revert hF;refine zrs [4, 4, 4, 4, 5, 4, 4, 4, 4, 5, 5, 1, 0, 0, 0, 0, 0, 0, 0, 0, 0, 0, 0, 5, 2] [4] fun a hF => ?_;refine wp_ret ?_;(try simp only [then_ret, block_ret, goto_ret]);revert hF;refine zq ?_
  exact ⟨by simp [tupF, h1], HB.out⟩
 have bh1 : decide (m1 ≤ n1) = true := decide_eq_true h1
 revert hF;refine zrs [4, 4, 4, 4, 5, 4, 4, 4, 4, 5, 5, 1, 4, 4, 4, 4, 5, 4, 4, 4, 4, 5, 5, 5, 2] [4] fun a hF => ?_;refine wp_ret ?_;(try simp only [then_ret, block_ret, goto_ret]);revert hF;refine zq ?_
 exact ⟨by simp [tupF, h1], HB.out⟩

set_option maxRecDepth 100000 in
set_option maxHeartbeats 8000000 in
theorem coord1_any (w : World) (n : Int) :
  Calls Tryz.prog 53 #[.int .i64 n] w fun e w' => e = .returned (.bool (!coordB n)) ∧ Below w.heap.size w w' := by
 unfold coordB
 refine enter_fr (N := 9) [.int .i64 n] (Tryz.func53) rfl Tryz.ntmps53 (by rfl) (fun a hF => ?_);replace hF := hF.kp [0] rfl;revert hF;refine zrs [2] [0] fun a hF => ?_
 by_cases h1 : n < 0
 ·
  have hb1 : decide (n < 0) = true := decide_eq_true h1
  revert hF;refine zrs [1, 4, 1, 0, 0, 5, 2] [2] fun a hF => ?_;refine wp_ret ?_;(try simp only [then_ret, block_ret, goto_ret]);revert hF;refine zq ?_
  refine ⟨?_, Below.refl _ _⟩
  have h2 : ¬ 0 ≤ n := by omega
  simp [tupF, h2]
 have hb1 : decide (n < 0) = false := decide_eq_false h1
 revert hF;refine zrs [1, 4, 1, 1, 4, 5, 2] [2] fun a hF => ?_;refine wp_ret ?_;(try simp only [then_ret, block_ret, goto_ret]);revert hF;refine zq ?_
 refine ⟨?_, Below.refl _ _⟩
 have h2 : 0 ≤ n := by omega
 have h3 : decide (10000 < n) = !decide (n ≤ 10000) := by
  by_cases h : n ≤ 10000 <;> simp [h] <;> omega
 simp [tupF, h2, h3]

set_option maxRecDepth 100000 in
set_option maxHeartbeats 8000000 in
theorem coords_any (w : World) (ra : Option Addr) (n c : Nat) (xs : List Int) (h : Recs IntE w ra n xs) (hn : n ≤ 9223372036854775807) :
  Calls Tryz.prog 20 #[.slice ra n c] w fun e w' => e = .returned (.bool (xs.all coordB)) ∧ Below w.heap.size w w' := by
 have HC := Lib.hid (contains_int w ra n c xs h hn 53 [] (fun n => !coordB n) (by kernel_rfl) (fun wx _ i hi => coord1_any wx xs[i]))
 have HE : Hid ((!xs.any fun n => !coordB n) = xs.all coordB) := by
  show (!xs.any fun n => !coordB n) = xs.all coordB
  rw [List.not_any_eq_all_not]
  simp
 clear h
 generalize (xs.any fun n => !coordB n) = y at *
 refine enter_fr (N := 6) [.slice ra n c] (Tryz.func20) rfl Tryz.ntmps20 (by rfl) (fun a hF => ?_);replace hF := hF.kp [0] rfl;revert hF;refine zrs [2] [0] fun a hF => ?_;refine wp_seq_k (fun K hK => ?_);revert hF;refine zrp [1] [1, 2, 3] fun a hF => ?_;revert hF;refine zos fun K hK => ?_
 refine HC.out.mono ?_
 rintro e w' ⟨rfl, hb⟩
 clear HC
 refine hK _ _ (fun a hF => ?_);clear hK K;revert hF;refine zre 2 [4, 2] [2] fun a hF => ?_;refine hK _ _ ?_;clear hK;refine wp_ret ?_;(try simp only [then_ret, block_ret, goto_ret]);revert hF;refine zq ?_
 exact ⟨by rw [← HE.out]; rfl, hb⟩

end Go.Proofs.YtmcdhggnpfhlmaaGreat
namespace Go.Proofs.YtmcdhggnpfhlmaaGreat
open Go.RowKit Go.IntWalk
set_option linter.unusedSimpArgs false
set_option linter.unusedVariables false

/-- A block that has just been made reads as records. -/
theorem recs_alloc {α : Type} {k : Nat} (E : Enc α k) (w : World) (T : TypeId) (xs : List α) (arr : Array Value) (h : arr.toList = flat E xs) : Recs E (w.alloc (.cells arr T)) (some ⟨w.heap.size, 0, none⟩) xs.length xs := by
 refine ⟨rfl, fun i hi => ⟨_, _, rfl, fun j hj => ?_⟩⟩
 have hN := World.alloc_heap_new w (.cells arr T)
 rw [cell_of_row (j := 0 + i * k + j) _ _ _ _ _ hN]
 have := flat_get (E := E) xs i j hi hj
 rw [Nat.zero_add, ← this, ← h]
 simp

/-- A struct in a block of its own: its cells. -/
theorem boxed_cell {w : World} {g j : Nat} {arr : Array Value} {T : TypeId} {v : Value} (h : w.heap[g]? = some (.cells arr T (0, 0))) (hj : arr[j]? = some v) : w.cell? ⟨g, j, none⟩ = some v := by
 rw [cell_of_row (j := j) _ _ _ _ _ h]
 exact hj

set_option maxRecDepth 100000 in
set_option maxHeartbeats 8000000 in
theorem box_any (w : World) (b : BoxR) :
  Calls Tryz.prog 40 #[.agg #[.int .i64 b.x, .int .i64 b.y, .int .i64 b.x2, .int .i64 b.y2]] w fun e w' => e = .returned (.bool (boxB b)) ∧ Below w.heap.size w w' := by
 obtain ⟨b0, b1, b2, b3⟩ := b
 unfold boxB
 dsimp only
 refine enter_fr (N := 27) [.agg #[.int .i64 b0, .int .i64 b1, .int .i64 b2, .int .i64 b3]] (Tryz.func40) rfl Tryz.ntmps40 (by rfl) (fun a hF => ?_);replace hF := hF.kp [0] rfl;refine wp_seq_k (fun K hK => ?_);refine region_seq (l := [0, 1]) (by kernel_rfl) ?_;refine seq_one ?_;revert hF;refine qe1 fun a hF => ?_;revert hF;refine zre 1 [2] [1] fun a hF => ?_;refine hK _ _ ?_;clear hK
 have HB1 := Lib.hid (Joins.below_alloc1 w (.cells #[.int .i64 b0, .int .i64 b1, .int .i64 b2, .int .i64 b3] 59))
 have hN : (w.alloc (.cells #[.int .i64 b0, .int .i64 b1, .int .i64 b2, .int .i64 b3] 59)).heap[w.heap.size]? = some (.cells #[.int .i64 b0, .int .i64 b1, .int .i64 b2, .int .i64 b3] 59 (0, 0)) := World.alloc_heap_new w _
 generalize w.alloc (.cells #[.int .i64 b0, .int .i64 b1, .int .i64 b2, .int .i64 b3] 59) = w1 at *
 generalize w.heap.size = g at *
 have c0 := cell_of_row (j := 0) _ _ _ _ _ hN
 have c1 := cell_of_row (j := 1) _ _ _ _ _ hN
 have c2 := cell_of_row (j := 2) _ _ _ _ _ hN
 have c3 := cell_of_row (j := 3) _ _ _ _ _ hN
 have hgl : g < w1.heap.size := cell_lt c0
 clear hN
 refine wp_seq_k (fun K hK => ?_);revert hF;refine zrp [4, 4, 4, 4, 4, 4, 4, 4] [8, 9, 10, 11, 12, 13, 14, 15, 16, 17, 18, 19, 20, 21, 22, 23, 24] fun a hF => ?_;refine seq_one ?_;refine op_eff (v := ?_) (w' := ?_) rfl rfl rfl hF rfl ?_ ?_
 rotate_left 2
 ·
  intro a hF
  have s4 := hF.slot 4 _ rfl
  have s6 := hF.slot 6 _ rfl
  have s8 := hF.slot 8 _ rfl
  have s10 := hF.slot 10 _ rfl
  clear hF
  go_simp <;> first | with_reducible rfl | (constructor <;> with_reducible rfl)
 clear hF;refine fun a hF => ?_
 have HR := Lib.hid (recs_alloc IntE w1 3 [b0, b1, b2, b3] #[.int .i64 b0, .int .i64 b1, .int .i64 b2, .int .i64 b3] rfl)
 have HB2 := Lib.hid (Joins.below_alloc1 w1 (.cells #[.int .i64 b0, .int .i64 b1, .int .i64 b2, .int .i64 b3] 3))
 have HC := Lib.hid (coords_any _ _ _ 4 _ HR.out (by simp))
 generalize w1.alloc (.cells #[.int .i64 b0, .int .i64 b1, .int .i64 b2, .int .i64 b3] 3) = w2 at *
 revert hF;refine zos fun K hK => ?_
 refine HC.out.mono ?_
 rintro e w3 ⟨rfl, hb3⟩
 have HB23 : Hid (Below w1.heap.size w1 w3) := HB2.out.trans (hb3.mono HB2.out.size)
 have HB : Hid (Below g w w3) := HB1.out.trans (HB23.out.mono (by omega))
 have d0 := Below.cell_of HB23.out c0
 have d1 := Below.cell_of HB23.out c1
 have d2 := Below.cell_of HB23.out c2
 have d3 := Below.cell_of HB23.out c3
 clear c0 c1 c2 c3 HB1 HB2 HB23 HR HC hb3
 have HE : Hid ([b0, b1, b2, b3].all coordB = (coordB b0 && coordB b1 && coordB b2 && coordB b3)) := by
  simp [Hid, Bool.and_assoc]
 generalize [b0, b1, b2, b3].all coordB = y at *
 have HE2 : Hid ((coordB b0 && coordB b1 && coordB b2 && coordB b3) = y) := HE.out.symm
 clear HE
 cases y
 ·
  refine hK _ _ (fun a hF => ?_);clear hK K;revert hF;refine zre 10 [1, 0, 0, 0, 0, 0, 5, 1, 0, 0, 0, 0, 0, 5, 2] [2] fun a hF => ?_;refine hK _ _ ?_;clear hK;refine wp_ret ?_;(try simp only [then_ret, block_ret, goto_ret]);revert hF;refine zq ?_
  exact ⟨by rw [HE2.out]; rfl, HB.out⟩
 by_cases h1 : b0 ≤ b2
 rotate_left
 ·
  have hb1 : decide (b0 ≤ b2) = false := decide_eq_false h1
  refine hK _ _ (fun a hF => ?_);clear hK K;revert hF;refine zre 10 [1, 4, 4, 4, 4, 5, 5, 1, 0, 0, 0, 0, 0, 5, 2] [2] fun a hF => ?_;refine hK _ _ ?_;clear hK;refine wp_ret ?_;(try simp only [then_ret, block_ret, goto_ret]);revert hF;refine zq ?_
  exact ⟨by rw [HE2.out, hb1]; rfl, HB.out⟩
 have hb1 : decide (b0 ≤ b2) = true := decide_eq_true h1
 refine hK _ _ (fun a hF => ?_);clear hK K;revert hF;refine zre 10 [1, 4, 4, 4, 4, 5, 5, 1, 4, 4, 4, 4, 5, 5, 2] [2] fun a hF => ?_;refine hK _ _ ?_;clear hK;refine wp_ret ?_;(try simp only [then_ret, block_ret, goto_ret]);revert hF;refine zq ?_
 exact ⟨by rw [HE2.out, hb1]; rfl, HB.out⟩
end Go.Proofs.YtmcdhggnpfhlmaaGreat

namespace Go.Proofs.YtmcdhggnpfhlmaaGreat
open Go.RowKit

/-- An entry of a list of bools, behind a name that simp does not open. -/
def bx (l : List Bool) (i : Nat) : Bool := l.getD i false

/-- The address and length read as the bools xs. -/
def Bools (w : World) (ra : Option Addr) (n : Nat) (xs : List Bool) : Prop :=
 xs.length = n ∧ ∀ k, k < n → ∃ b o, ra = some ⟨b, o, none⟩ ∧ w.cell? ⟨b, o + k, none⟩ = some (.bool (bx xs k))

theorem Bools.below {w w' : World} {ra : Option Addr} {n : Nat} {xs : List Bool} (h : Bools w ra n xs) (hb : Below w.heap.size w w') : Bools w' ra n xs :=
 ⟨h.1, fun k hk => let ⟨b, o, e, c⟩ := h.2 k hk; ⟨b, o, e, Below.cell_of hb c⟩⟩

def BoolRow (w : World) (g : Nat) (T : TypeId) (D : List Bool) : Prop :=
 ∃ arr : Array Value, w.heap[g]? = some (.cells arr T (0, 0)) ∧ D.length ≤ arr.size ∧ ∀ k, k < D.length → arr[k]? = some (.bool (bx D k))

theorem BoolRow.lt {w : World} {g : Nat} {T : TypeId} {D : List Bool} (h : BoolRow w g T D) : g < w.heap.size :=
 let ⟨_, e, _⟩ := h; lt_of_block e

theorem BoolRow.cell {w : World} {g : Nat} {T : TypeId} {D : List Bool} (h : BoolRow w g T D) (k : Nat) (hk : k < D.length) : w.cell? ⟨g, k, none⟩ = some (.bool (bx D k)) := by
 obtain ⟨arr, e, _, c⟩ := h
 simp only [World.cell?, e]
 exact c k hk

theorem BoolRow.free {w : World} {g : Nat} {T : TypeId} {D : List Bool} (h : BoolRow w g T D) (k : Nat) : w.frozen? ⟨g, k, none⟩ = false := by
 obtain ⟨arr, e, _, c⟩ := h
 simp only [World.frozen?, e]
 simp

theorem bx_set (D : List Bool) (i j : Nat) (v : Bool) (hi : i < D.length) : bx (D.set i v) j = if i = j then v else bx D j := by
 unfold bx
 simp only [List.getD_eq_getElem?_getD, List.getElem?_set, hi, if_true]
 split <;> rfl

theorem BoolRow.set {w : World} {g : Nat} {T : TypeId} {D : List Bool} (h : BoolRow w g T D) (i : Nat) (hi : i < D.length) (v : Bool) : BoolRow (w.setCell ⟨g, i, none⟩ (.bool v)) g T (D.set i v) := by
 obtain ⟨arr, e, s, c⟩ := h
 refine ⟨arr.setIfInBounds i (.bool v), ?_, by simpa using s, fun k hk => ?_⟩
 ·
  simp [World.setCell, Array.getElem?_modify, e]
 ·
  rw [List.length_set] at hk
  rw [Array.getElem?_setIfInBounds, bx_set _ _ _ _ hi]
  by_cases hik : i = k
  ·
   rw [if_pos hik, if_pos hik, if_pos (by omega)]
  ·
   rw [if_neg hik, if_neg hik]; exact c k hk


theorem BoolRow.of_heap {w w' : World} {g : Nat} {T : TypeId} {S : List Bool} (h : BoolRow w g T S) (e : w'.heap[g]? = w.heap[g]?) : BoolRow w' g T S := by
 obtain ⟨arr, e1, r⟩ := h
 exact ⟨arr, e.trans e1, r⟩

theorem BoolRow.bools {w : World} {g : Nat} {T : TypeId} {D : List Bool} (h : BoolRow w g T D) : Bools w (some ⟨g, 0, none⟩) D.length D :=
 ⟨rfl, fun k hk => ⟨g, 0, rfl, by rw [Nat.zero_add]; exact h.cell k hk⟩⟩

theorem BoolRow.made {w : World} {arr : Array Value} {T : TypeId} {n g : Nat} (hg : g = w.heap.size) (hs : arr.size = n) (hz : ∀ k, k < n → arr[k]? = some (.bool false)) : BoolRow (w.alloc (.cells arr T)) g T (List.replicate n false) := by
 subst hg
 refine ⟨arr, ?_, by simp [hs], fun k hk => ?_⟩
 ·
  show (w.heap.push _)[w.heap.size]? = _
  simp
 ·
  rw [List.length_replicate] at hk
  rw [hz k hk]
  simp [bx, List.getD_eq_getElem?_getD, hk]

theorem make_bools (n : Nat) (hn : n ≤ 4000) : ∃ arr : Array Value, arr.size = n ∧ (∀ k, k < n → arr[k]? = some (.bool false)) ∧
  ∀ w : World, (Instr.makeSlice 39 (.int .i64 (n : Int)) (.int .i64 (n : Int))).run Tryz.prog w = .ok (.slice (some ⟨w.heap.size, 0, none⟩) n n) (w.alloc (.cells arr 4)) := by
 refine ⟨madeCells #[.bool false] n, size_madeCells _ _, fun k hk => ?_, fun w => ?_⟩
 ·
  simp [madeCells, hk, Nat.mod_one]
 ·
  exact run_make_row' 39 4 (.bool false) 1 Tryz.underlying39 (by kernel_rfl) rfl .i64 .i64 n (by omega) (by omega) w

end Go.Proofs.YtmcdhggnpfhlmaaGreat
