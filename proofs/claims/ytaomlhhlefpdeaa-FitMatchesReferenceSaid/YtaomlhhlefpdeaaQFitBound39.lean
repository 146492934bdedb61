/- foyerlaw24: example, small, head. -/
import Derived.Test.YtaomlhhlefpdeaaQFitBound38

namespace Go.Proofs.Ytaomlhhlefpdeaa
open Go.RowKit

def exG : List (Int × Int) := [(3, 2), (3, 1), (2, 1)]

theorem Box.ints {w : World} {b : Nat} {T : TypeId} (xs : List Int) (h : Box w b T (xs.map (Value.int .i64)).toArray) : Ints w (some ⟨b, 0, none⟩) xs.length xs :=
  ⟨rfl, fun k hk => ⟨b, 0, rfl, by rw [Nat.zero_add, h.cell k]; simp [ix, List.getD_eq_getElem?_getD, hk]⟩⟩

theorem pair_cells (xs : List (Int × Int)) : ∀ k, k < xs.length → (xs.flatMap fun p => [Value.int .i64 p.1, Value.int .i64 p.2])[k * 2]? = some (.int .i64 (gs xs k)) ∧ (xs.flatMap fun p => [Value.int .i64 p.1, Value.int .i64 p.2])[k * 2 + 1]? = some (.int .i64 (gv xs k)) := by
  induction xs with
  | nil => intro k hk; simp at hk
  | cons p xs ih =>
    intro k hk
    cases k with
    | zero => simp [gs, gv]
    | succ k =>
      have h := ih k (by simpa using hk)
      rw [show (k + 1) * 2 = k * 2 + 2 from by omega, show k * 2 + 2 + 1 = (k * 2 + 1) + 2 from by omega]
      simp only [List.flatMap_cons, List.cons_append, List.nil_append, List.getElem?_cons_succ]
      simpa [gs, gv] using h

theorem Box.pairs {w : World} {b : Nat} {T : TypeId} (xs : List (Int × Int)) (h : Box w b T (xs.flatMap fun p => [Value.int .i64 p.1, Value.int .i64 p.2]).toArray) : Pairs w (some ⟨b, 0, none⟩) xs.length xs :=
  ⟨rfl, fun k hk => ⟨b, 0, rfl, by rw [Nat.zero_add, h.cell]; simpa using (pair_cells xs k hk).1, by rw [Nat.zero_add, h.cell]; simpa using (pair_cells xs k hk).2⟩⟩

/-- What example leaves: a problem in new memory. -/
def ExPost (single : Bool) (w : World) (e : Ending) (w' : World) : Prop :=
  ∃ ra ga c d, e = .returned (.agg #[.slice ra 2 c, .slice ga 3 d, .bool single]) ∧ Below w.heap.size w w' ∧ Ints w' ra 2 [4, 3] ∧ Pairs w' ga 3 exG ∧ (ra = none → c = 0)

set_option maxHeartbeats 400000 in
theorem example_any (single : Bool) (w : World) : Calls Try.prog 34 #[.bool single] w (ExPost single w) := by
  go_enter Try.func34, Try.ntmps34
  go_wp2
  have hb : Below w.heap.size w (((w.alloc (.cells #[.slice (some ⟨w.heap.size + 1, 0, none⟩) 2 2, .slice (some ⟨w.heap.size + 1 + 1, 0, none⟩) 3 3, .bool single] 25)).alloc (.cells #[.int .i64 4, .int .i64 3] 3)).alloc (.cells #[.int .i64 3, .int .i64 2, .int .i64 3, .int .i64 1, .int .i64 2, .int .i64 1] 37)) :=
    (((Below.refl _ _).alloc (Nat.le_refl _) _).alloc (by simp) _).alloc (by simp; omega) _
  refine bodyPost_ret (v := .agg #[.slice (some ⟨w.heap.size + 1, 0, none⟩) 2 2, .slice (some ⟨w.heap.size + 1 + 1, 0, none⟩) 3 3, .bool single]) (by simp [results, Try.results34, go_sem]) rfl
    ⟨_, _, 2, 3, rfl, hb, Box.ints [4, 3] ((Box.new (by simp)).alloc _), Box.pairs exG (Box.new (by simp)), fun h => by simp at h⟩

set_option maxHeartbeats 400000 in
theorem small_any (ra ga : Option Addr) (n c m d : Nat) (single : Bool) (w : World) (hn : n ≤ 9223372036854775807) (hm : m ≤ 9223372036854775807) :
    Calls Try.prog 16 #[.agg #[.slice ra n c, .slice ga m d, .bool single]] w fun e w' => e = .returned (.bool (decide (n ≤ 60 ∧ m ≤ 60))) ∧ Below w.heap.size w w' := by
  by_cases h1 : n ≤ 60
  · go_enter Try.func16, Try.ntmps16
    go_wp2
    go_ret
    exact ⟨ret_bool (by simp [h1]; omega), (Below.refl _ _).alloc (Nat.le_refl _) _⟩
  · have h2 : decide ((n : Int) ≤ 60) = false := by simp; omega
    go_enter Try.func16, Try.ntmps16
    go_wp2
    go_ret
    exact ⟨ret_bool (by simp [h1]), (Below.refl _ _).alloc (Nat.le_refl _) _⟩

theorem ex_valid : validS [4, 3] exG = true := by decide +kernel
theorem ex_bound : boundS [4, 3] exG = 10 := by decide +kernel
theorem ex_value0 : (solveS false [4, 3] exG).value = 9 := by decide +kernel
theorem ex_spots0 : (solveS false [4, 3] exG).spots = [(0, 0), (1, 0), (-1, 0)] := by decide +kernel
theorem ex_value1 : (solveS true [4, 3] exG).value = 8 := by decide +kernel
theorem ex_spots1 : (solveS true [4, 3] exG).spots = [(1, 0), (-1, 0), (0, 0)] := by decide +kernel
theorem ex_bad : validS [0] [] = false := by decide +kernel
theorem ex_same0 : sameS 9 [(0, 0), (1, 0), (-1, 0)] 9 [(0, 0), (1, 0), (-1, 0)] = true := by decide +kernel
theorem ex_same1 : sameS 8 [(1, 0), (-1, 0), (0, 0)] 8 [(1, 0), (-1, 0), (0, 0)] = true := by decide +kernel

set_option maxRecDepth 10000 in
set_option maxHeartbeats 1600000 in
theorem head_any (w : World) : Calls Try.prog 15 #[] w fun e w' => e = .returned (.bool true) ∧ Below w.heap.size w w' := by
  go_enter Try.func15, Try.ntmps15
  go_wp2_with fail
  refine (example_any false w).mono ?_
  rintro e w1 ⟨ra, ga, c, d, rfl, hb1, hR, hG, hc⟩
  go_wp2_with fail
  refine (solve_good ra ga 2 c 3 d false [4, 3] exG w1 (by omega) (by omega) hR hG hc ex_valid).mono ?_
  rintro e w2 ⟨sa, sc, rfl, hb2, hS⟩
  rw [ex_value0, ex_bound]
  rw [ex_spots0] at hS
  have hb2' : Below w.heap.size w w2 := hb1.trans (hb2.mono hb1.size)
  clear hR hG hc hb1 hb2
  go_upto_region 2 with fail
  have hA : Hid (Box (w2.alloc (.cells #[.slice sa 3 sc, .int .i64 9] 30)) w2.heap.size 30 #[.slice sa 3 sc, .int .i64 9] ∧ Pairs (w2.alloc (.cells #[.slice sa 3 sc, .int .i64 9] 30)) sa 3 [(0, 0), (1, 0), (-1, 0)]) :=
    ⟨Box.new rfl, hS.below ((Below.refl _ _).alloc (Nat.le_refl _) _)⟩
  have hb3 : Below w.heap.size w (w2.alloc (.cells #[.slice sa 3 sc, .int .i64 9] 30)) := hb2'.alloc hb2'.size _
  clear hb2' hS
  generalize (w2.alloc (.cells #[.slice sa 3 sc, .int .i64 9] 30)) = w3 at *
  generalize w2.heap.size = b1 at *
  go_wp2_with fail
  refine (example_any true w3).mono ?_
  rintro e w4 ⟨ra, ga, c, d, rfl, hb4, hR, hG, hc⟩
  go_wp2_with fail
  refine (solve_good ra ga 2 c 3 d true [4, 3] exG w4 (by omega) (by omega) hR hG hc ex_valid).mono ?_
  rintro e w5 ⟨sb, sd, rfl, hb5, hS⟩
  rw [ex_value1, ex_bound]
  rw [ex_spots1] at hS
  have hb45 : Below w3.heap.size w3 w5 := hb4.trans (hb5.mono hb4.size)
  clear hR hG hc hb4 hb5
  go_upto_region 3 with fail
  have hB : Hid (Box (w5.alloc (.cells #[.slice sb 3 sd, .int .i64 8] 30)) w5.heap.size 30 #[.slice sb 3 sd, .int .i64 8] ∧ Pairs (w5.alloc (.cells #[.slice sb 3 sd, .int .i64 8] 30)) sb 3 [(1, 0), (-1, 0), (0, 0)]) :=
    ⟨Box.new rfl, hS.below ((Below.refl _ _).alloc (Nat.le_refl _) _)⟩
  have hA2 : Hid (Box (w5.alloc (.cells #[.slice sb 3 sd, .int .i64 8] 30)) b1 30 #[.slice sa 3 sc, .int .i64 9] ∧ Pairs (w5.alloc (.cells #[.slice sb 3 sd, .int .i64 8] 30)) sa 3 [(0, 0), (1, 0), (-1, 0)]) :=
    ⟨(hA.out.1.below hb45).alloc _, (hA.out.2.below hb45).below ((Below.refl _ _).alloc (Nat.le_refl _) _)⟩
  have hb6 : Below w.heap.size w (w5.alloc (.cells #[.slice sb 3 sd, .int .i64 8] 30)) := (hb3.trans (hb45.mono hb3.size)).alloc (Nat.le_trans hb3.size hb45.size) _
  clear hb3 hb45 hS hA
  generalize (w5.alloc (.cells #[.slice sb 3 sd, .int .i64 8] 30)) = w6 at *
  generalize w5.heap.size = b2 at *
  go_wp2_with fail
  refine (solve_bad (some ⟨w6.heap.size, 0, none⟩) none 1 1 0 0 false [0] [] _ (by omega) (by omega) (Box.ints [0] (Box.new rfl)) ⟨rfl, fun k hk => absurd hk (by omega)⟩ ex_bad).mono ?_
  rintro e w7 ⟨rfl, hb7⟩
  have hb67 : Below w6.heap.size w6 w7 := ((Below.refl _ _).alloc (Nat.le_refl _) _).trans (hb7.mono (by simp))
  have hA3 : Hid (Box w7 b1 30 #[.slice sa 3 sc, .int .i64 9] ∧ Pairs w7 sa 3 [(0, 0), (1, 0), (-1, 0)]) := ⟨hA2.out.1.below hb67, hA2.out.2.below hb67⟩
  have hB3 : Hid (Box w7 b2 30 #[.slice sb 3 sd, .int .i64 8] ∧ Pairs w7 sb 3 [(1, 0), (-1, 0), (0, 0)]) := ⟨hB.out.1.below hb67, hB.out.2.below hb67⟩
  have hb8 : Below w.heap.size w w7 := hb6.trans (hb67.mono hb6.size)
  clear hA2 hB hb6 hb7 hb67
  go_upto_region 4 with fail
  have hb9 : Below w7.heap.size w7 (w7.alloc (.cells #[.slice none 0 0, .int .i64 0] 30)) := (Below.refl _ _).alloc (Nat.le_refl _) _
  have hA4 : Hid (Box (w7.alloc (.cells #[.slice none 0 0, .int .i64 0] 30)) b1 30 #[.slice sa 3 sc, .int .i64 9] ∧ Pairs (w7.alloc (.cells #[.slice none 0 0, .int .i64 0] 30)) sa 3 [(0, 0), (1, 0), (-1, 0)]) := ⟨hA3.out.1.below hb9, hA3.out.2.below hb9⟩
  have hB4 : Hid (Box (w7.alloc (.cells #[.slice none 0 0, .int .i64 0] 30)) b2 30 #[.slice sb 3 sd, .int .i64 8] ∧ Pairs (w7.alloc (.cells #[.slice none 0 0, .int .i64 0] 30)) sb 3 [(1, 0), (-1, 0), (0, 0)]) := ⟨hB3.out.1.below hb9, hB3.out.2.below hb9⟩
  have hb10 : Below w.heap.size w (w7.alloc (.cells #[.slice none 0 0, .int .i64 0] 30)) := hb8.alloc hb8.size _
  clear hA3 hB3 hb8 hb9
  generalize (w7.alloc (.cells #[.slice none 0 0, .int .i64 0] 30)) = w8 at *
  generalize w7.heap.size = b3 at *
  have a0 := hA4.out.1.cell 0
  have a1 := hA4.out.1.cell 1
  simp only [List.getElem?_toArray, List.getElem?_cons_zero, List.getElem?_cons_succ] at a0 a1
  go_wp2_with fail
  refine (same_any sa (some ⟨w8.heap.size, 0, none⟩) 3 sc 3 3 9 9 [(0, 0), (1, 0), (-1, 0)] [(0, 0), (1, 0), (-1, 0)] _ (by omega) (by omega) (hA4.out.2.below ((Below.refl _ _).alloc (Nat.le_refl _) _)) (Box.pairs [(0, 0), (1, 0), (-1, 0)] (Box.new rfl))).mono ?_
  rintro e w9 ⟨rfl, hb11⟩
  rw [ex_same0]
  have hb89 : Below w8.heap.size w8 w9 := ((Below.refl _ _).alloc (Nat.le_refl _) _).trans (hb11.mono (by simp))
  have hB5 : Hid (Box w9 b2 30 #[.slice sb 3 sd, .int .i64 8] ∧ Pairs w9 sb 3 [(1, 0), (-1, 0), (0, 0)]) := ⟨hB4.out.1.below hb89, hB4.out.2.below hb89⟩
  have hb12 : Below w.heap.size w w9 := hb10.trans (hb89.mono hb10.size)
  clear a0 a1 hA4 hB4 hb10 hb11 hb89
  have a0 := hB5.out.1.cell 0
  have a1 := hB5.out.1.cell 1
  simp only [List.getElem?_toArray, List.getElem?_cons_zero, List.getElem?_cons_succ] at a0 a1
  go_wp2_with fail
  refine (same_any sb (some ⟨w9.heap.size, 0, none⟩) 3 sd 3 3 8 8 [(1, 0), (-1, 0), (0, 0)] [(1, 0), (-1, 0), (0, 0)] _ (by omega) (by omega) (hB5.out.2.below ((Below.refl _ _).alloc (Nat.le_refl _) _)) (Box.pairs [(1, 0), (-1, 0), (0, 0)] (Box.new rfl))).mono ?_
  rintro e w10 ⟨rfl, hb13⟩
  rw [ex_same1]
  have hb14 : Below w.heap.size w w10 := (hb12.alloc hb12.size _).trans (hb13.mono (by have := hb12.size; simp; omega))
  clear a0 a1 hB5 hb13 hb12
  go_wp2
  go_ret
  exact ⟨rfl, hb14⟩
end Go.Proofs.Ytaomlhhlefpdeaa
