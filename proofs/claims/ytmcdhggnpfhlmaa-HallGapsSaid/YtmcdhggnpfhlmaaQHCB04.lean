/- hall: rectangles, coordinates. -/
import Derived.Test.YtmcdhggnpfhlmaaQHCB03

namespace Go.Proofs.Ytmcdhggnpfhlmaa
open Go.RowKit Go.IntWalk
set_option linter.unusedSimpArgs false
set_option linter.unusedVariables false

set_option maxRecDepth 100000 in
set_option maxHeartbeats 8000000 in
theorem inside_any (w : World) (b : BoxR) (x y : Int) :
    Calls Try.prog 36 #[.agg #[.int .i64 b.x, .int .i64 b.y, .int .i64 b.x2, .int .i64 b.y2], .int .i64 x, .int .i64 y] w fun e w' => e = .returned (.bool (insideB b x y)) ∧ Below w.heap.size w w' := by
  obtain ⟨b0, b1, b2, b3⟩ := b
  unfold insideB
  dsimp only
  refine enter_fr (N := 29) [.agg #[.int .i64 b0, .int .i64 b1, .int .i64 b2, .int .i64 b3], .int .i64 x, .int .i64 y] (Try.func36) rfl Try.ntmps36 (by rfl) (fun a hF => ?_);replace hF := hF.kp [0, 1, 2] rfl;refine wp_seq_k (fun K hK => ?_);refine region_seq (l := [0, 1]) (by kernel_rfl) ?_;refine seq_one ?_;refine ze1 0 rfl rfl rfl hF rfl rfl ?_;clear hF;refine fun a hF => ?_;refine seq_ck [1] [] hF fun C hC => ?_;clear hF;refine za rfl rfl rfl ?_;refine hC _ (fun a hF => ?_);clear hC C;refine seq_end ?_;replace hF := hF.kp [1, 2, 3] rfl;refine hK _ _ ?_;clear hK;(try clear K)
  have HB := Lib.hid (Joins.below_alloc1 w (.cells #[.int .i64 b0, .int .i64 b1, .int .i64 b2, .int .i64 b3] 46))
  have hN : (w.alloc (.cells #[.int .i64 b0, .int .i64 b1, .int .i64 b2, .int .i64 b3] 46)).heap[w.heap.size]? = some (.cells #[.int .i64 b0, .int .i64 b1, .int .i64 b2, .int .i64 b3] 46 (0, 0)) := World.alloc_heap_new w _
  generalize w.alloc (.cells #[.int .i64 b0, .int .i64 b1, .int .i64 b2, .int .i64 b3] 46) = w1 at *
  generalize w.heap.size = g at *
  have c0 := cell_of_row (j := 0) _ _ _ _ _ hN
  have c1 := cell_of_row (j := 1) _ _ _ _ _ hN
  have c2 := cell_of_row (j := 2) _ _ _ _ _ hN
  have c3 := cell_of_row (j := 3) _ _ _ _ _ hN
  clear hN
  refine wp_seq_k (fun K hK => ?_)
  by_cases h1 : b0 ≤ x
  rotate_left
  · have bh1 : decide (b0 ≤ x) = false := decide_eq_false h1
    refine region_sk [0, 1, 2, 3, 4, 5, 6, 7, 8, 9, 10, 11, 12, 13, 14, 15, 16, 17, 18, 19, 20, 21, 22] [] hF fun C hC => ?_;clear hF;refine zs1 3 rfl rfl ?_;refine zs1 7 rfl rfl ?_;refine zm rfl rfl rfl ?_;refine zs2 8 9 rfl rfl rfl ?_;refine zm rfl rfl rfl ?_;refine zx rfl ?_;refine zx rfl ?_;refine zx rfl ?_;refine zx rfl ?_;refine zs2 11 15 rfl rfl rfl ?_;refine zm rfl rfl rfl ?_;refine zx rfl ?_;refine zx rfl ?_;refine zx rfl ?_;refine zx rfl ?_;refine zs2 17 21 rfl rfl rfl ?_;refine zm rfl rfl rfl ?_;refine zx rfl ?_;refine zx rfl ?_;refine zx rfl ?_;refine zx rfl ?_;refine zs2 23 27 rfl rfl rfl ?_;refine za rfl rfl rfl ?_;refine hC _ (fun a hF => ?_);clear hC C;refine seq_end ?_;replace hF := hF.kp [6] rfl;refine hK _ _ ?_;clear hK;(try clear K);refine wp_ret ?_;(try simp only [then_ret, block_ret, goto_ret]);refine ret_fr (fn := Try.f36) (rs := [.tmp 6]) rfl [_] hF ⟨rfl, trivial⟩ ?_
    exact ⟨by simp [tupF, h1], HB.out⟩
  have bh1 : decide (b0 ≤ x) = true := decide_eq_true h1
  by_cases h2 : x ≤ b2
  rotate_left
  · have bh2 : decide (x ≤ b2) = false := decide_eq_false h2
    refine region_sk [0, 1, 2, 3, 4, 5, 6, 7, 8, 9, 10, 11, 12, 13, 14, 15, 16, 17, 18, 19, 20, 21, 22] [] hF fun C hC => ?_;clear hF;refine zs1 3 rfl rfl ?_;refine zs1 7 rfl rfl ?_;refine zm rfl rfl rfl ?_;refine zs2 8 9 rfl rfl rfl ?_;refine zm rfl rfl rfl ?_;refine zm rfl rfl rfl ?_;refine zs1 3 rfl rfl ?_;refine zs1 13 rfl rfl ?_;refine zs2 12 14 rfl rfl rfl ?_;refine zs2 11 15 rfl rfl rfl ?_;refine zm rfl rfl rfl ?_;refine zx rfl ?_;refine zx rfl ?_;refine zx rfl ?_;refine zx rfl ?_;refine zs2 17 21 rfl rfl rfl ?_;refine zm rfl rfl rfl ?_;refine zx rfl ?_;refine zx rfl ?_;refine zx rfl ?_;refine zx rfl ?_;refine zs2 23 27 rfl rfl rfl ?_;refine za rfl rfl rfl ?_;refine hC _ (fun a hF => ?_);clear hC C;refine seq_end ?_;replace hF := hF.kp [6] rfl;refine hK _ _ ?_;clear hK;(try clear K);refine wp_ret ?_;(try simp only [then_ret, block_ret, goto_ret]);refine ret_fr (fn := Try.f36) (rs := [.tmp 6]) rfl [_] hF ⟨rfl, trivial⟩ ?_
    exact ⟨by simp [tupF, h1, h2], HB.out⟩
  have bh2 : decide (x ≤ b2) = true := decide_eq_true h2
  by_cases h3 : b1 ≤ y
  rotate_left
  · have bh3 : decide (b1 ≤ y) = false := decide_eq_false h3
    refine region_sk [0, 1, 2, 3, 4, 5, 6, 7, 8, 9, 10, 11, 12, 13, 14, 15, 16, 17, 18, 19, 20, 21, 22] [] hF fun C hC => ?_;clear hF;refine zs1 3 rfl rfl ?_;refine zs1 7 rfl rfl ?_;refine zm rfl rfl rfl ?_;refine zs2 8 9 rfl rfl rfl ?_;refine zm rfl rfl rfl ?_;refine zm rfl rfl rfl ?_;refine zs1 3 rfl rfl ?_;refine zs1 13 rfl rfl ?_;refine zs2 12 14 rfl rfl rfl ?_;refine zs2 11 15 rfl rfl rfl ?_;refine zm rfl rfl rfl ?_;refine zs1 3 rfl rfl ?_;refine zs1 18 rfl rfl ?_;refine zm rfl rfl rfl ?_;refine zs2 19 20 rfl rfl rfl ?_;refine zs2 17 21 rfl rfl rfl ?_;refine zm rfl rfl rfl ?_;refine zx rfl ?_;refine zx rfl ?_;refine zx rfl ?_;refine zx rfl ?_;refine zs2 23 27 rfl rfl rfl ?_;refine za rfl rfl rfl ?_;refine hC _ (fun a hF => ?_);clear hC C;refine seq_end ?_;replace hF := hF.kp [6] rfl;refine hK _ _ ?_;clear hK;(try clear K);refine wp_ret ?_;(try simp only [then_ret, block_ret, goto_ret]);refine ret_fr (fn := Try.f36) (rs := [.tmp 6]) rfl [_] hF ⟨rfl, trivial⟩ ?_
    exact ⟨by simp [tupF, h1, h2, h3], HB.out⟩
  have bh3 : decide (b1 ≤ y) = true := decide_eq_true h3
  refine region_sk [0, 1, 2, 3, 4, 5, 6, 7, 8, 9, 10, 11, 12, 13, 14, 15, 16, 17, 18, 19, 20, 21, 22] [] hF fun C hC => ?_;clear hF;refine zs1 3 rfl rfl ?_;refine zs1 7 rfl rfl ?_;refine zm rfl rfl rfl ?_;refine zs2 8 9 rfl rfl rfl ?_;refine zm rfl rfl rfl ?_;refine zm rfl rfl rfl ?_;refine zs1 3 rfl rfl ?_;refine zs1 13 rfl rfl ?_;refine zs2 12 14 rfl rfl rfl ?_;refine zs2 11 15 rfl rfl rfl ?_;refine zm rfl rfl rfl ?_;refine zs1 3 rfl rfl ?_;refine zs1 18 rfl rfl ?_;refine zm rfl rfl rfl ?_;refine zs2 19 20 rfl rfl rfl ?_;refine zs2 17 21 rfl rfl rfl ?_;refine zm rfl rfl rfl ?_;refine zm rfl rfl rfl ?_;refine zs1 3 rfl rfl ?_;refine zs1 25 rfl rfl ?_;refine zs2 24 26 rfl rfl rfl ?_;refine zs2 23 27 rfl rfl rfl ?_;refine za rfl rfl rfl ?_;refine hC _ (fun a hF => ?_);clear hC C;refine seq_end ?_;replace hF := hF.kp [6] rfl;refine hK _ _ ?_;clear hK;(try clear K);refine wp_ret ?_;(try simp only [then_ret, block_ret, goto_ret]);refine ret_fr (fn := Try.f36) (rs := [.tmp 6]) rfl [_] hF ⟨rfl, trivial⟩ ?_
  exact ⟨by simp [tupF, h1, h2, h3], HB.out⟩

set_option maxRecDepth 100000 in
set_option maxHeartbeats 8000000 in
theorem rin_any (w : World) (b : BoxR) (x y : Int) :
    Calls Try.prog 13 #[.int .i64 x, .int .i64 y, .agg #[.int .i64 b.x, .int .i64 b.y, .int .i64 b.x2, .int .i64 b.y2]] w fun e w' => e = .returned (.bool (insideB b x y)) ∧ Below w.heap.size w w' := by
  obtain ⟨b0, b1, b2, b3⟩ := b
  unfold insideB
  dsimp only
  refine enter_fr (N := 29) [.int .i64 x, .int .i64 y, .agg #[.int .i64 b0, .int .i64 b1, .int .i64 b2, .int .i64 b3]] (Try.func13) rfl Try.ntmps13 (by rfl) (fun a hF => ?_);replace hF := hF.kp [0, 1, 2] rfl;refine wp_seq_k (fun K hK => ?_);refine region_seq (l := [0, 1]) (by kernel_rfl) ?_;refine seq_one ?_;refine ze1 2 rfl rfl rfl hF rfl rfl ?_;clear hF;refine fun a hF => ?_;refine seq_ck [1] [] hF fun C hC => ?_;clear hF;refine za rfl rfl rfl ?_;refine hC _ (fun a hF => ?_);clear hC C;refine seq_end ?_;replace hF := hF.kp [0, 1, 5] rfl;refine hK _ _ ?_;clear hK;(try clear K)
  have HB := Lib.hid (Joins.below_alloc1 w (.cells #[.int .i64 b0, .int .i64 b1, .int .i64 b2, .int .i64 b3] 46))
  have hN : (w.alloc (.cells #[.int .i64 b0, .int .i64 b1, .int .i64 b2, .int .i64 b3] 46)).heap[w.heap.size]? = some (.cells #[.int .i64 b0, .int .i64 b1, .int .i64 b2, .int .i64 b3] 46 (0, 0)) := World.alloc_heap_new w _
  generalize w.alloc (.cells #[.int .i64 b0, .int .i64 b1, .int .i64 b2, .int .i64 b3] 46) = w1 at *
  generalize w.heap.size = g at *
  have c0 := cell_of_row (j := 0) _ _ _ _ _ hN
  have c1 := cell_of_row (j := 1) _ _ _ _ _ hN
  have c2 := cell_of_row (j := 2) _ _ _ _ _ hN
  have c3 := cell_of_row (j := 3) _ _ _ _ _ hN
  clear hN
  refine wp_seq_k (fun K hK => ?_)
  by_cases h1 : b0 ≤ x
  rotate_left
  · have bh1 : decide (b0 ≤ x) = false := decide_eq_false h1
    refine region_sk [0, 1, 2, 3, 4, 5, 6, 7, 8, 9, 10, 11, 12, 13, 14, 15, 16, 17, 18, 19, 20, 21, 22] [] hF fun C hC => ?_;clear hF;refine zm rfl rfl rfl ?_;refine zs1 5 rfl rfl ?_;refine zs1 8 rfl rfl ?_;refine zs2 7 9 rfl rfl rfl ?_;refine zm rfl rfl rfl ?_;refine zx rfl ?_;refine zx rfl ?_;refine zx rfl ?_;refine zx rfl ?_;refine zs2 11 15 rfl rfl rfl ?_;refine zm rfl rfl rfl ?_;refine zx rfl ?_;refine zx rfl ?_;refine zx rfl ?_;refine zx rfl ?_;refine zs2 17 21 rfl rfl rfl ?_;refine zm rfl rfl rfl ?_;refine zx rfl ?_;refine zx rfl ?_;refine zx rfl ?_;refine zx rfl ?_;refine zs2 23 27 rfl rfl rfl ?_;refine za rfl rfl rfl ?_;refine hC _ (fun a hF => ?_);clear hC C;refine seq_end ?_;replace hF := hF.kp [6] rfl;refine hK _ _ ?_;clear hK;(try clear K);refine wp_ret ?_;(try simp only [then_ret, block_ret, goto_ret]);refine ret_fr (fn := Try.f13) (rs := [.tmp 6]) rfl [_] hF ⟨rfl, trivial⟩ ?_
    exact ⟨by simp [tupF, h1], HB.out⟩
  have bh1 : decide (b0 ≤ x) = true := decide_eq_true h1
  by_cases h2 : x ≤ b2
  rotate_left
  · have bh2 : decide (x ≤ b2) = false := decide_eq_false h2
    refine region_sk [0, 1, 2, 3, 4, 5, 6, 7, 8, 9, 10, 11, 12, 13, 14, 15, 16, 17, 18, 19, 20, 21, 22] [] hF fun C hC => ?_;clear hF;refine zm rfl rfl rfl ?_;refine zs1 5 rfl rfl ?_;refine zs1 8 rfl rfl ?_;refine zs2 7 9 rfl rfl rfl ?_;refine zm rfl rfl rfl ?_;refine zm rfl rfl rfl ?_;refine zs1 5 rfl rfl ?_;refine zs1 13 rfl rfl ?_;refine zs2 12 14 rfl rfl rfl ?_;refine zs2 11 15 rfl rfl rfl ?_;refine zm rfl rfl rfl ?_;refine zx rfl ?_;refine zx rfl ?_;refine zx rfl ?_;refine zx rfl ?_;refine zs2 17 21 rfl rfl rfl ?_;refine zm rfl rfl rfl ?_;refine zx rfl ?_;refine zx rfl ?_;refine zx rfl ?_;refine zx rfl ?_;refine zs2 23 27 rfl rfl rfl ?_;refine za rfl rfl rfl ?_;refine hC _ (fun a hF => ?_);clear hC C;refine seq_end ?_;replace hF := hF.kp [6] rfl;refine hK _ _ ?_;clear hK;(try clear K);refine wp_ret ?_;(try simp only [then_ret, block_ret, goto_ret]);refine ret_fr (fn := Try.f13) (rs := [.tmp 6]) rfl [_] hF ⟨rfl, trivial⟩ ?_
    exact ⟨by simp [tupF, h1, h2], HB.out⟩
  have bh2 : decide (x ≤ b2) = true := decide_eq_true h2
  by_cases h3 : b1 ≤ y
  rotate_left
  · have bh3 : decide (b1 ≤ y) = false := decide_eq_false h3
    refine region_sk [0, 1, 2, 3, 4, 5, 6, 7, 8, 9, 10, 11, 12, 13, 14, 15, 16, 17, 18, 19, 20, 21, 22] [] hF fun C hC => ?_;clear hF;refine zm rfl rfl rfl ?_;refine zs1 5 rfl rfl ?_;refine zs1 8 rfl rfl ?_;refine zs2 7 9 rfl rfl rfl ?_;refine zm rfl rfl rfl ?_;refine zm rfl rfl rfl ?_;refine zs1 5 rfl rfl ?_;refine zs1 13 rfl rfl ?_;refine zs2 12 14 rfl rfl rfl ?_;refine zs2 11 15 rfl rfl rfl ?_;refine zm rfl rfl rfl ?_;refine zm rfl rfl rfl ?_;refine zs1 5 rfl rfl ?_;refine zs1 19 rfl rfl ?_;refine zs2 18 20 rfl rfl rfl ?_;refine zs2 17 21 rfl rfl rfl ?_;refine zm rfl rfl rfl ?_;refine zx rfl ?_;refine zx rfl ?_;refine zx rfl ?_;refine zx rfl ?_;refine zs2 23 27 rfl rfl rfl ?_;refine za rfl rfl rfl ?_;refine hC _ (fun a hF => ?_);clear hC C;refine seq_end ?_;replace hF := hF.kp [6] rfl;refine hK _ _ ?_;clear hK;(try clear K);refine wp_ret ?_;(try simp only [then_ret, block_ret, goto_ret]);refine ret_fr (fn := Try.f13) (rs := [.tmp 6]) rfl [_] hF ⟨rfl, trivial⟩ ?_
    exact ⟨by simp [tupF, h1, h2, h3], HB.out⟩
  have bh3 : decide (b1 ≤ y) = true := decide_eq_true h3
  refine region_sk [0, 1, 2, 3, 4, 5, 6, 7, 8, 9, 10, 11, 12, 13, 14, 15, 16, 17, 18, 19, 20, 21, 22] [] hF fun C hC => ?_;clear hF;refine zm rfl rfl rfl ?_;refine zs1 5 rfl rfl ?_;refine zs1 8 rfl rfl ?_;refine zs2 7 9 rfl rfl rfl ?_;refine zm rfl rfl rfl ?_;refine zm rfl rfl rfl ?_;refine zs1 5 rfl rfl ?_;refine zs1 13 rfl rfl ?_;refine zs2 12 14 rfl rfl rfl ?_;refine zs2 11 15 rfl rfl rfl ?_;refine zm rfl rfl rfl ?_;refine zm rfl rfl rfl ?_;refine zs1 5 rfl rfl ?_;refine zs1 19 rfl rfl ?_;refine zs2 18 20 rfl rfl rfl ?_;refine zs2 17 21 rfl rfl rfl ?_;refine zm rfl rfl rfl ?_;refine zm rfl rfl rfl ?_;refine zs1 5 rfl rfl ?_;refine zs1 25 rfl rfl ?_;refine zs2 24 26 rfl rfl rfl ?_;refine zs2 23 27 rfl rfl rfl ?_;refine za rfl rfl rfl ?_;refine hC _ (fun a hF => ?_);clear hC C;refine seq_end ?_;replace hF := hF.kp [6] rfl;refine hK _ _ ?_;clear hK;(try clear K);refine wp_ret ?_;(try simp only [then_ret, block_ret, goto_ret]);refine ret_fr (fn := Try.f13) (rs := [.tmp 6]) rfl [_] hF ⟨rfl, trivial⟩ ?_
  exact ⟨by simp [tupF, h1, h2, h3], HB.out⟩

set_option maxRecDepth 100000 in
set_option maxHeartbeats 8000000 in
theorem meet_any (w : World) (a b : BoxR) :
    Calls Try.prog 33 #[.agg #[.int .i64 a.x, .int .i64 a.y, .int .i64 a.x2, .int .i64 a.y2], .agg #[.int .i64 b.x, .int .i64 b.y, .int .i64 b.x2, .int .i64 b.y2]] w fun e w' => e = .returned (.bool (meetB a b)) ∧ Below w.heap.size w w' := by
  obtain ⟨a0, a1, a2, a3⟩ := a
  obtain ⟨b0, b1, b2, b3⟩ := b
  unfold meetB
  dsimp only
  obtain ⟨m1, q1⟩ : ∃ m, (if a0 < b0 then b0 else a0) = m := ⟨_, rfl⟩
  have u1 : max a0 b0 = m1 := by
    rw [← q1]
    split <;> omega
  obtain ⟨n1, q2⟩ : ∃ m, (if b2 < a2 then b2 else a2) = m := ⟨_, rfl⟩
  have u2 : min a2 b2 = n1 := by
    rw [← q2]
    split <;> omega
  obtain ⟨m2, q3⟩ : ∃ m, (if a1 < b1 then b1 else a1) = m := ⟨_, rfl⟩
  have u3 : max a1 b1 = m2 := by
    rw [← q3]
    split <;> omega
  obtain ⟨n2, q4⟩ : ∃ m, (if b3 < a3 then b3 else a3) = m := ⟨_, rfl⟩
  have u4 : min a3 b3 = n2 := by
    rw [← q4]
    split <;> omega
  rw [u1, u2, u3, u4]
  clear u1 u2 u3 u4
  refine enter_fr (N := 29) [.agg #[.int .i64 a0, .int .i64 a1, .int .i64 a2, .int .i64 a3], .agg #[.int .i64 b0, .int .i64 b1, .int .i64 b2, .int .i64 b3]] (Try.func33) rfl Try.ntmps33 (by rfl) (fun a hF => ?_);replace hF := hF.kp [0, 1] rfl;refine wp_seq_k (fun K hK => ?_);refine region_seq (l := [0, 1, 2]) (by kernel_rfl) ?_;refine seq_one ?_;refine ze1 0 rfl rfl rfl hF rfl rfl ?_;clear hF;refine fun a hF => ?_
  have HB1 := Lib.hid (Joins.below_alloc1 w (.cells #[.int .i64 a0, .int .i64 a1, .int .i64 a2, .int .i64 a3] 46))
  have hN : (w.alloc (.cells #[.int .i64 a0, .int .i64 a1, .int .i64 a2, .int .i64 a3] 46)).heap[w.heap.size]? = some (.cells #[.int .i64 a0, .int .i64 a1, .int .i64 a2, .int .i64 a3] 46 (0, 0)) := World.alloc_heap_new w _
  generalize w.alloc (.cells #[.int .i64 a0, .int .i64 a1, .int .i64 a2, .int .i64 a3] 46) = w1 at *
  generalize w.heap.size = g1 at *
  have c0 := cell_of_row (j := 0) _ _ _ _ _ hN
  have c1 := cell_of_row (j := 1) _ _ _ _ _ hN
  have c2 := cell_of_row (j := 2) _ _ _ _ _ hN
  have c3 := cell_of_row (j := 3) _ _ _ _ _ hN
  clear hN
  refine seq_one ?_;refine ze1 1 rfl rfl rfl hF rfl rfl ?_;clear hF;refine fun a hF => ?_
  have HB2 := Lib.hid (Joins.below_alloc1 w1 (.cells #[.int .i64 b0, .int .i64 b1, .int .i64 b2, .int .i64 b3] 46))
  have hsz : g1 ≤ w1.heap.size := by
    have := cell_lt c0
    omega
  have d0 := Below.cell_of HB2.out c0
  have d1 := Below.cell_of HB2.out c1
  have d2 := Below.cell_of HB2.out c2
  have d3 := Below.cell_of HB2.out c3
  have HB : Hid (Below g1 w (w1.alloc (.cells #[.int .i64 b0, .int .i64 b1, .int .i64 b2, .int .i64 b3] 46))) := HB1.out.trans (HB2.out.mono hsz)
  clear HB1 HB2 c0 c1 c2 c3
  have hN : (w1.alloc (.cells #[.int .i64 b0, .int .i64 b1, .int .i64 b2, .int .i64 b3] 46)).heap[w1.heap.size]? = some (.cells #[.int .i64 b0, .int .i64 b1, .int .i64 b2, .int .i64 b3] 46 (0, 0)) := World.alloc_heap_new w1 _
  generalize w1.alloc (.cells #[.int .i64 b0, .int .i64 b1, .int .i64 b2, .int .i64 b3] 46) = w2 at *
  generalize w1.heap.size = g2 at *
  have e0 := cell_of_row (j := 0) _ _ _ _ _ hN
  have e1 := cell_of_row (j := 1) _ _ _ _ _ hN
  have e2 := cell_of_row (j := 2) _ _ _ _ _ hN
  have e3 := cell_of_row (j := 3) _ _ _ _ _ hN
  clear hN
  refine seq_ck [2] [] hF fun C hC => ?_;clear hF;refine za rfl rfl rfl ?_;refine hC _ (fun a hF => ?_);clear hC C;refine seq_end ?_;replace hF := hF.kp [2, 3] rfl;refine hK _ _ ?_;clear hK;(try clear K);refine wp_seq_k (fun K hK => ?_)
  by_cases h1 : m1 ≤ n1
  rotate_left
  · have bh1 : decide (m1 ≤ n1) = false := decide_eq_false h1
    refine region_sk [0, 1, 2, 3, 4, 5, 6, 7, 8, 9, 10, 11, 12, 13, 14, 15, 16, 17, 18, 19, 20, 21, 22, 23, 24] [] hF fun C hC => ?_;clear hF;refine zs1 2 rfl rfl ?_;refine zs1 5 rfl rfl ?_;refine zs1 3 rfl rfl ?_;refine zs1 7 rfl rfl ?_;refine zs2 6 8 rfl rfl rfl ?_;refine zs1 2 rfl rfl ?_;refine zs1 10 rfl rfl ?_;refine zs1 3 rfl rfl ?_;refine zs1 12 rfl rfl ?_;refine zs2 11 13 rfl rfl rfl ?_;refine zs2 9 14 rfl rfl rfl ?_;refine zm rfl rfl rfl ?_;refine zx rfl ?_;refine zx rfl ?_;refine zx rfl ?_;refine zx rfl ?_;refine zx rfl ?_;refine zx rfl ?_;refine zx rfl ?_;refine zx rfl ?_;refine zx rfl ?_;refine zx rfl ?_;refine zx rfl ?_;refine zs2 16 27 rfl rfl rfl ?_;refine za rfl rfl rfl ?_;refine hC _ (fun a hF => ?_);clear hC C;refine seq_end ?_;replace hF := hF.kp [4] rfl;refine hK _ _ ?_;clear hK;(try clear K);refine wp_ret ?_;(try simp only [then_ret, block_ret, goto_ret]);refine ret_fr (fn := Try.f33) (rs := [.tmp 4]) rfl [_] hF ⟨rfl, trivial⟩ ?_
    exact ⟨by simp [tupF, h1], HB.out⟩
  have bh1 : decide (m1 ≤ n1) = true := decide_eq_true h1
  refine region_sk [0, 1, 2, 3, 4, 5, 6, 7, 8, 9, 10, 11, 12, 13, 14, 15, 16, 17, 18, 19, 20, 21, 22, 23, 24] [] hF fun C hC => ?_;clear hF;refine zs1 2 rfl rfl ?_;refine zs1 5 rfl rfl ?_;refine zs1 3 rfl rfl ?_;refine zs1 7 rfl rfl ?_;refine zs2 6 8 rfl rfl rfl ?_;refine zs1 2 rfl rfl ?_;refine zs1 10 rfl rfl ?_;refine zs1 3 rfl rfl ?_;refine zs1 12 rfl rfl ?_;refine zs2 11 13 rfl rfl rfl ?_;refine zs2 9 14 rfl rfl rfl ?_;refine zm rfl rfl rfl ?_;refine zs1 2 rfl rfl ?_;refine zs1 17 rfl rfl ?_;refine zs1 3 rfl rfl ?_;refine zs1 19 rfl rfl ?_;refine zs2 18 20 rfl rfl rfl ?_;refine zs1 2 rfl rfl ?_;refine zs1 22 rfl rfl ?_;refine zs1 3 rfl rfl ?_;refine zs1 24 rfl rfl ?_;refine zs2 23 25 rfl rfl rfl ?_;refine zs2 21 26 rfl rfl rfl ?_;refine zs2 16 27 rfl rfl rfl ?_;refine za rfl rfl rfl ?_;refine hC _ (fun a hF => ?_);clear hC C;refine seq_end ?_;replace hF := hF.kp [4] rfl;refine hK _ _ ?_;clear hK;(try clear K);refine wp_ret ?_;(try simp only [then_ret, block_ret, goto_ret]);refine ret_fr (fn := Try.f33) (rs := [.tmp 4]) rfl [_] hF ⟨rfl, trivial⟩ ?_
  exact ⟨by simp [tupF, h1], HB.out⟩

set_option maxRecDepth 100000 in
set_option maxHeartbeats 8000000 in
theorem rmeet_any (w : World) (a b : BoxR) :
    Calls Try.prog 15 #[.agg #[.int .i64 a.x, .int .i64 a.y, .int .i64 a.x2, .int .i64 a.y2], .agg #[.int .i64 b.x, .int .i64 b.y, .int .i64 b.x2, .int .i64 b.y2]] w fun e w' => e = .returned (.bool (meetB a b)) ∧ Below w.heap.size w w' := by
  obtain ⟨a0, a1, a2, a3⟩ := a
  obtain ⟨b0, b1, b2, b3⟩ := b
  unfold meetB
  dsimp only
  obtain ⟨m1, q1⟩ : ∃ m, (if a0 < b0 then b0 else a0) = m := ⟨_, rfl⟩
  have u1 : max a0 b0 = m1 := by
    rw [← q1]
    split <;> omega
  obtain ⟨n1, q2⟩ : ∃ m, (if b2 < a2 then b2 else a2) = m := ⟨_, rfl⟩
  have u2 : min a2 b2 = n1 := by
    rw [← q2]
    split <;> omega
  obtain ⟨m2, q3⟩ : ∃ m, (if a1 < b1 then b1 else a1) = m := ⟨_, rfl⟩
  have u3 : max a1 b1 = m2 := by
    rw [← q3]
    split <;> omega
  obtain ⟨n2, q4⟩ : ∃ m, (if b3 < a3 then b3 else a3) = m := ⟨_, rfl⟩
  have u4 : min a3 b3 = n2 := by
    rw [← q4]
    split <;> omega
  rw [u1, u2, u3, u4]
  clear u1 u2 u3 u4
  refine enter_fr (N := 29) [.agg #[.int .i64 a0, .int .i64 a1, .int .i64 a2, .int .i64 a3], .agg #[.int .i64 b0, .int .i64 b1, .int .i64 b2, .int .i64 b3]] (Try.func15) rfl Try.ntmps15 (by rfl) (fun a hF => ?_);replace hF := hF.kp [0, 1] rfl;refine wp_seq_k (fun K hK => ?_);refine region_seq (l := [0, 1, 2]) (by kernel_rfl) ?_;refine seq_one ?_;refine ze1 0 rfl rfl rfl hF rfl rfl ?_;clear hF;refine fun a hF => ?_
  have HB1 := Lib.hid (Joins.below_alloc1 w (.cells #[.int .i64 a0, .int .i64 a1, .int .i64 a2, .int .i64 a3] 46))
  have hN : (w.alloc (.cells #[.int .i64 a0, .int .i64 a1, .int .i64 a2, .int .i64 a3] 46)).heap[w.heap.size]? = some (.cells #[.int .i64 a0, .int .i64 a1, .int .i64 a2, .int .i64 a3] 46 (0, 0)) := World.alloc_heap_new w _
  generalize w.alloc (.cells #[.int .i64 a0, .int .i64 a1, .int .i64 a2, .int .i64 a3] 46) = w1 at *
  generalize w.heap.size = g1 at *
  have c0 := cell_of_row (j := 0) _ _ _ _ _ hN
  have c1 := cell_of_row (j := 1) _ _ _ _ _ hN
  have c2 := cell_of_row (j := 2) _ _ _ _ _ hN
  have c3 := cell_of_row (j := 3) _ _ _ _ _ hN
  clear hN
  refine seq_one ?_;refine ze1 1 rfl rfl rfl hF rfl rfl ?_;clear hF;refine fun a hF => ?_
  have HB2 := Lib.hid (Joins.below_alloc1 w1 (.cells #[.int .i64 b0, .int .i64 b1, .int .i64 b2, .int .i64 b3] 46))
  have hsz : g1 ≤ w1.heap.size := by
    have := cell_lt c0
    omega
  have d0 := Below.cell_of HB2.out c0
  have d1 := Below.cell_of HB2.out c1
  have d2 := Below.cell_of HB2.out c2
  have d3 := Below.cell_of HB2.out c3
  have HB : Hid (Below g1 w (w1.alloc (.cells #[.int .i64 b0, .int .i64 b1, .int .i64 b2, .int .i64 b3] 46))) := HB1.out.trans (HB2.out.mono hsz)
  clear HB1 HB2 c0 c1 c2 c3
  have hN : (w1.alloc (.cells #[.int .i64 b0, .int .i64 b1, .int .i64 b2, .int .i64 b3] 46)).heap[w1.heap.size]? = some (.cells #[.int .i64 b0, .int .i64 b1, .int .i64 b2, .int .i64 b3] 46 (0, 0)) := World.alloc_heap_new w1 _
  generalize w1.alloc (.cells #[.int .i64 b0, .int .i64 b1, .int .i64 b2, .int .i64 b3] 46) = w2 at *
  generalize w1.heap.size = g2 at *
  have e0 := cell_of_row (j := 0) _ _ _ _ _ hN
  have e1 := cell_of_row (j := 1) _ _ _ _ _ hN
  have e2 := cell_of_row (j := 2) _ _ _ _ _ hN
  have e3 := cell_of_row (j := 3) _ _ _ _ _ hN
  clear hN
  refine seq_ck [2] [] hF fun C hC => ?_;clear hF;refine za rfl rfl rfl ?_;refine hC _ (fun a hF => ?_);clear hC C;refine seq_end ?_;replace hF := hF.kp [2, 3] rfl;refine hK _ _ ?_;clear hK;(try clear K);refine wp_seq_k (fun K hK => ?_)
  by_cases h1 : m1 ≤ n1
  rotate_left
  · have bh1 : decide (m1 ≤ n1) = false := decide_eq_false h1
    refine region_sk [0, 1, 2, 3, 4, 5, 6, 7, 8, 9, 10, 11, 12, 13, 14, 15, 16, 17, 18, 19, 20, 21, 22, 23, 24] [] hF fun C hC => ?_;clear hF;refine zs1 2 rfl rfl ?_;refine zs1 5 rfl rfl ?_;refine zs1 3 rfl rfl ?_;refine zs1 7 rfl rfl ?_;refine zs2 6 8 rfl rfl rfl ?_;refine zs1 2 rfl rfl ?_;refine zs1 10 rfl rfl ?_;refine zs1 3 rfl rfl ?_;refine zs1 12 rfl rfl ?_;refine zs2 11 13 rfl rfl rfl ?_;refine zs2 9 14 rfl rfl rfl ?_;refine zm rfl rfl rfl ?_;refine zx rfl ?_;refine zx rfl ?_;refine zx rfl ?_;refine zx rfl ?_;refine zx rfl ?_;refine zx rfl ?_;refine zx rfl ?_;refine zx rfl ?_;refine zx rfl ?_;refine zx rfl ?_;refine zx rfl ?_;refine zs2 16 27 rfl rfl rfl ?_;refine za rfl rfl rfl ?_;refine hC _ (fun a hF => ?_);clear hC C;refine seq_end ?_;replace hF := hF.kp [4] rfl;refine hK _ _ ?_;clear hK;(try clear K);refine wp_ret ?_;(try simp only [then_ret, block_ret, goto_ret]);refine ret_fr (fn := Try.f15) (rs := [.tmp 4]) rfl [_] hF ⟨rfl, trivial⟩ ?_
    exact ⟨by simp [tupF, h1], HB.out⟩
  have bh1 : decide (m1 ≤ n1) = true := decide_eq_true h1
  refine region_sk [0, 1, 2, 3, 4, 5, 6, 7, 8, 9, 10, 11, 12, 13, 14, 15, 16, 17, 18, 19, 20, 21, 22, 23, 24] [] hF fun C hC => ?_;clear hF;refine zs1 2 rfl rfl ?_;refine zs1 5 rfl rfl ?_;refine zs1 3 rfl rfl ?_;refine zs1 7 rfl rfl ?_;refine zs2 6 8 rfl rfl rfl ?_;refine zs1 2 rfl rfl ?_;refine zs1 10 rfl rfl ?_;refine zs1 3 rfl rfl ?_;refine zs1 12 rfl rfl ?_;refine zs2 11 13 rfl rfl rfl ?_;refine zs2 9 14 rfl rfl rfl ?_;refine zm rfl rfl rfl ?_;refine zs1 2 rfl rfl ?_;refine zs1 17 rfl rfl ?_;refine zs1 3 rfl rfl ?_;refine zs1 19 rfl rfl ?_;refine zs2 18 20 rfl rfl rfl ?_;refine zs1 2 rfl rfl ?_;refine zs1 22 rfl rfl ?_;refine zs1 3 rfl rfl ?_;refine zs1 24 rfl rfl ?_;refine zs2 23 25 rfl rfl rfl ?_;refine zs2 21 26 rfl rfl rfl ?_;refine zs2 16 27 rfl rfl rfl ?_;refine za rfl rfl rfl ?_;refine hC _ (fun a hF => ?_);clear hC C;refine seq_end ?_;replace hF := hF.kp [4] rfl;refine hK _ _ ?_;clear hK;(try clear K);refine wp_ret ?_;(try simp only [then_ret, block_ret, goto_ret]);refine ret_fr (fn := Try.f15) (rs := [.tmp 4]) rfl [_] hF ⟨rfl, trivial⟩ ?_
  exact ⟨by simp [tupF, h1], HB.out⟩

set_option maxRecDepth 100000 in
set_option maxHeartbeats 8000000 in
theorem coord1_any (w : World) (n : Int) :
    Calls Try.prog 55 #[.int .i64 n] w fun e w' => e = .returned (.bool (!coordB n)) ∧ Below w.heap.size w w' := by
  unfold coordB
  refine enter_fr (N := 9) [.int .i64 n] (Try.func55) rfl Try.ntmps55 (by rfl) (fun a hF => ?_);replace hF := hF.kp [0] rfl;refine wp_seq_k (fun K hK => ?_);refine region_sk [0] [] hF fun C hC => ?_;clear hF;refine za rfl rfl rfl ?_;refine hC _ (fun a hF => ?_);clear hC C;refine seq_end ?_;replace hF := hF.kp [0] rfl;refine hK _ _ ?_;clear hK;(try clear K);refine wp_seq_k (fun K hK => ?_)
  by_cases h1 : n < 0
  · have hb1 : decide (n < 0) = true := decide_eq_true h1
    refine region_sk [0, 1, 2, 3, 4, 5, 6] [] hF fun C hC => ?_;clear hF;refine zm rfl rfl rfl ?_;refine zs1 3 rfl rfl ?_;refine zm rfl rfl rfl ?_;refine zx rfl ?_;refine zx rfl ?_;refine zs2 5 7 rfl rfl rfl ?_;refine za rfl rfl rfl ?_;refine hC _ (fun a hF => ?_);clear hC C;refine seq_end ?_;replace hF := hF.kp [2] rfl;refine hK _ _ ?_;clear hK;(try clear K);refine wp_ret ?_;(try simp only [then_ret, block_ret, goto_ret]);refine ret_fr (fn := Try.f55) (rs := [.tmp 2]) rfl [_] hF ⟨rfl, trivial⟩ ?_
    refine ⟨?_, Below.refl _ _⟩
    have h2 : ¬ 0 ≤ n := by omega
    simp [tupF, h2]
  have hb1 : decide (n < 0) = false := decide_eq_false h1
  refine region_sk [0, 1, 2, 3, 4, 5, 6] [] hF fun C hC => ?_;clear hF;refine zm rfl rfl rfl ?_;refine zs1 3 rfl rfl ?_;refine zm rfl rfl rfl ?_;refine zm rfl rfl rfl ?_;refine zs1 6 rfl rfl ?_;refine zs2 5 7 rfl rfl rfl ?_;refine za rfl rfl rfl ?_;refine hC _ (fun a hF => ?_);clear hC C;refine seq_end ?_;replace hF := hF.kp [2] rfl;refine hK _ _ ?_;clear hK;(try clear K);refine wp_ret ?_;(try simp only [then_ret, block_ret, goto_ret]);refine ret_fr (fn := Try.f55) (rs := [.tmp 2]) rfl [_] hF ⟨rfl, trivial⟩ ?_
  refine ⟨?_, Below.refl _ _⟩
  have h2 : 0 ≤ n := by omega
  have h3 : decide (10000 < n) = !decide (n ≤ 10000) := by
    by_cases h : n ≤ 10000 <;> simp [h] <;> omega
  simp [tupF, h2, h3]

set_option maxRecDepth 100000 in
set_option maxHeartbeats 8000000 in
theorem coords_any (w : World) (ra : Option Addr) (n c : Nat) (xs : List Int) (h : Recs IntE w ra n xs) (hn : n ≤ 9223372036854775807) :
    Calls Try.prog 28 #[.slice ra n c] w fun e w' => e = .returned (.bool (xs.all coordB)) ∧ Below w.heap.size w w' := by
  have HC := Lib.hid (contains_int w ra n c xs h hn 55 [] (fun n => !coordB n) (by kernel_rfl) (fun wx _ i hi => coord1_any wx xs[i]))
  have HE : Hid ((!xs.any fun n => !coordB n) = xs.all coordB) := by
    show (!xs.any fun n => !coordB n) = xs.all coordB
    rw [List.not_any_eq_all_not]
    simp
  clear h
  generalize (xs.any fun n => !coordB n) = y at *
  refine enter_fr (N := 6) [.slice ra n c] (Try.func28) rfl Try.ntmps28 (by rfl) (fun a hF => ?_);replace hF := hF.kp [0] rfl;refine wp_seq_k (fun K hK => ?_);refine region_sk [0] [] hF fun C hC => ?_;clear hF;refine za rfl rfl rfl ?_;refine hC _ (fun a hF => ?_);clear hC C;refine seq_end ?_;replace hF := hF.kp [0] rfl;refine hK _ _ ?_;clear hK;(try clear K);refine wp_seq_k (fun K hK => ?_);refine region_sk [0] [1, 2, 3] hF fun C hC => ?_;clear hF;refine zm rfl rfl rfl ?_;refine hC _ (fun a hF => ?_);clear hC C;refine seq_one ?_;refine op_call [_, _] rfl rfl hF rfl (by kernel_rfl) ⟨rfl, rfl, trivial⟩ (fun K hK => ?_);clear hF
  refine HC.out.mono ?_
  rintro e w' ⟨rfl, hb⟩
  clear HC
  refine hK _ _ (fun a hF => ?_);clear hK K;refine seq_ck [2, 3] [] hF fun C hC => ?_;clear hF;refine zs1 4 rfl rfl ?_;refine za rfl rfl rfl ?_;refine hC _ (fun a hF => ?_);clear hC C;refine seq_end ?_;replace hF := hF.kp [2] rfl;refine hK _ _ ?_;clear hK;(try clear K);refine wp_ret ?_;(try simp only [then_ret, block_ret, goto_ret]);refine ret_fr (fn := Try.f28) (rs := [.tmp 2]) rfl [_] hF ⟨rfl, trivial⟩ ?_
  exact ⟨by rw [← HE.out]; rfl, hb⟩

end Go.Proofs.Ytmcdhggnpfhlmaa