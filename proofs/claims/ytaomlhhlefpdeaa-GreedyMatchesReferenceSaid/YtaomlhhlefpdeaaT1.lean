/- foyerlaw24.GreedyMatchesReference: the walk. -/
import Derived.Test.YtaomlhhlefpdeaaS
namespace Go.Proofs.Ytaomlhhlefpdeaa
open Go.RowKit

theorem sameFrom_refl (S : List (Int × Int)) : ∀ n k, sameFrom S S k n = true := by
  intro n
  induction n with
  | zero => intro k; rfl
  | succ n ih => intro k; rw [sameFrom, if_pos ⟨rfl, rfl⟩]; exact ih _

theorem sameS_refl (V : Int) (S : List (Int × Int)) : sameS V S V S = true := by
  rw [sameS, if_pos ⟨rfl, rfl⟩]; exact sameFrom_refl S _ _

set_option maxRecDepth 10000 in
set_option maxHeartbeats 1600000 in
theorem matches_any (ra ga : Option Addr) (n c m d : Nat) (single : Bool) (R : List Int) (G : List (Int × Int)) (w : World)
    (hn : n ≤ 9223372036854775807) (hm : m ≤ 9223372036854775807) (hR : Ints w ra n R) (hG : Pairs w ga m G) (hc : ra = none → c = 0) :
    Calls Try.prog 3 #[.agg #[.slice ra n c, .slice ga m d, .bool single]] w fun e w' => e = .returned (.bool true) ∧ Below w.heap.size w w' := by
  have HR := Lib.hid hR; have HG := Lib.hid hG; have HC := Lib.hid hc
  have hb0 : Below w.heap.size w (w.alloc (.cells #[.slice ra n c, .slice ga m d, .bool single] 25)) := (Below.refl _ _).alloc (Nat.le_refl _) _
  have HBX0 : Hid (Box (w.alloc (.cells #[.slice ra n c, .slice ga m d, .bool single] 25)) w.heap.size 25 #[.slice ra n c, .slice ga m d, .bool single]) := Box.new rfl
  clear hR hG hc
  go_enter Try.func3, Try.ntmps3
  go_wp2_with fail
  refine (head_any _).mono ?_
  rintro e w1 ⟨rfl, hb1⟩
  have hbx := HBX0.out.below hb1
  have hbw : Below w.heap.size w w1 := hb0.trans (hb1.mono hb0.size)
  clear hb0 hb1 HBX0
  have x0 := hbx.cell 0
  have x1 := hbx.cell 1
  have x2 := hbx.cell 2
  simp only [List.getElem?_toArray, List.getElem?_cons_zero, List.getElem?_cons_succ] at x0 x1 x2
  go_wp2_with fail
  refine (small_any ra ga n c m d single w1 hn hm).mono ?_
  rintro e w2 ⟨rfl, hb2⟩
  have hbx2 := hbx.below hb2
  have hbw2 : Below w.heap.size w w2 := hbw.trans (hb2.mono hbw.size)
  clear x0 x1 x2 hb2 hbx hbw
  by_cases hsm : n ≤ 60 ∧ m ≤ 60
  · rw [show decide (n ≤ 60 ∧ m ≤ 60) = true from decide_eq_true hsm]
    obtain ⟨hn60, hm60⟩ := hsm
    clear hn hm
    have x0 := hbx2.cell 0
    have x1 := hbx2.cell 1
    have x2 := hbx2.cell 2
    simp only [List.getElem?_toArray, List.getElem?_cons_zero, List.getElem?_cons_succ] at x0 x1 x2
    cases hv : validS R G
    · have HV := Lib.hid hv
      clear hv
      go_wp2_with fail
      refine (solve_bad ra ga n c m d single R G w2 (by omega) (by omega) (HR.out.below hbw2) (HG.out.below hbw2) HV.out).mono ?_
      rintro e w3 ⟨rfl, hb3⟩
      have hS : Pairs w3 none 0 [] := ⟨rfl, fun k hk => absurd hk (by omega)⟩
      have hb23 : Below w2.heap.size w2 w3 := hb3
      have hA : Hid (Box (w3.alloc (.cells #[.slice none 0 0, .int .i64 0] 30)) w3.heap.size 30 #[.slice none 0 0, .int .i64 0] ∧ Pairs (w3.alloc (.cells #[.slice none 0 0, .int .i64 0] 30)) none 0 []) :=
        ⟨Box.new rfl, (hS : Pairs w3 none 0 []).below ((Below.refl _ _).alloc (Nat.le_refl _) _)⟩
      have hbx3 := (hbx2.below hb3).alloc (.cells #[.slice none 0 0, .int .i64 0] 30)
      have hb4 : Below w.heap.size w (w3.alloc (.cells #[.slice none 0 0, .int .i64 0] 30)) := (hbw2.trans (hb3.mono hbw2.size)).alloc (Nat.le_trans hbw2.size hb3.size) _
      clear x0 x1 x2 hbx2 hbw2 hb3 hb23 hS
      go_upto_region 5 with fail
      generalize (w3.alloc (.cells #[.slice none 0 0, .int .i64 0] 30)) = w4 at *
      generalize w3.heap.size = b1 at *
      have x0 := hbx3.cell 0
      have x1 := hbx3.cell 1
      have x2 := hbx3.cell 2
      simp only [List.getElem?_toArray, List.getElem?_cons_zero, List.getElem?_cons_succ] at x0 x1 x2
      go_wp2_with fail
      refine (refsolve_bad ra ga n c m d single R G w4 (by omega) (by omega) (HR.out.below hb4) (HG.out.below hb4) HV.out).mono ?_
      rintro e w5 ⟨rfl, hb5⟩
      have hT : Pairs w5 none 0 [] := ⟨rfl, fun k hk => absurd hk (by omega)⟩
      have hA2 : Hid (Box w5 b1 30 #[.slice none 0 0, .int .i64 0] ∧ Pairs w5 none 0 []) := ⟨hA.out.1.below hb5, hA.out.2.below hb5⟩
      have hB : Hid (Box (w5.alloc (.cells #[.slice none 0 0, .int .i64 0] 30)) w5.heap.size 30 #[.slice none 0 0, .int .i64 0] ∧ Pairs (w5.alloc (.cells #[.slice none 0 0, .int .i64 0] 30)) none 0 []) :=
        ⟨Box.new rfl, (hT : Pairs w5 none 0 []).below ((Below.refl _ _).alloc (Nat.le_refl _) _)⟩
      have hA3 : Hid (Box (w5.alloc (.cells #[.slice none 0 0, .int .i64 0] 30)) b1 30 #[.slice none 0 0, .int .i64 0] ∧ Pairs (w5.alloc (.cells #[.slice none 0 0, .int .i64 0] 30)) none 0 []) :=
        ⟨hA2.out.1.alloc _, hA2.out.2.below ((Below.refl _ _).alloc (Nat.le_refl _) _)⟩
      have hb6 : Below w.heap.size w (w5.alloc (.cells #[.slice none 0 0, .int .i64 0] 30)) := (hb4.trans (hb5.mono hb4.size)).alloc (Nat.le_trans hb4.size hb5.size) _
      clear x0 x1 x2 hbx3 hb4 hb5 hT hA hA2
      go_upto_region 6 with fail
      generalize (w5.alloc (.cells #[.slice none 0 0, .int .i64 0] 30)) = w6 at *
      generalize w5.heap.size = b2 at *
      have y0 := hA3.out.1.cell 0
      have y1 := hA3.out.1.cell 1
      have z0 := hB.out.1.cell 0
      have z1 := hB.out.1.cell 1
      simp only [List.getElem?_toArray, List.getElem?_cons_zero, List.getElem?_cons_succ] at y0 y1 z0 z1
      go_wp2_with fail
      refine (same_any none none 0 0 0 0 0 0 [] [] w6 (by omega) (by omega) hA3.out.2 hB.out.2).mono ?_
      rintro e w7 ⟨rfl, hb7⟩
      rw [sameS_refl]
      have hb8 := hb6.trans (hb7.mono hb6.size)
      clear y0 y1 z0 z1 hb7 hb6
      go_wp2
      go_ret
      exact ⟨rfl, hb8⟩
    · have HV := Lib.hid hv
      clear hv
      go_wp2_with fail
      refine (solve_good ra ga n c m d single R G w2 (by omega) (by omega) (HR.out.below hbw2) (HG.out.below hbw2) HC.out HV.out).mono ?_
      rintro e w3 ⟨sa, sc, rfl, hb3, hS⟩
      obtain ⟨V1, hV1⟩ : ∃ x, (solveS single R G).value = x := ⟨_, rfl⟩
      obtain ⟨S1, hS1⟩ : ∃ x, (solveS single R G).spots = x := ⟨_, rfl⟩
      obtain ⟨bd, hbd⟩ : ∃ x, boundS R G = x := ⟨_, rfl⟩
      rw [hV1, hbd]
      rw [hS1] at hS
      have HV1 := Lib.hid hV1; have HS1 := Lib.hid hS1; have HBD := Lib.hid hbd
      clear hV1 hS1 hbd
      have hb23 : Below w2.heap.size w2 w3 := hb3
      have hA : Hid (Box (w3.alloc (.cells #[.slice sa m sc, .int .i64 V1] 30)) w3.heap.size 30 #[.slice sa m sc, .int .i64 V1] ∧ Pairs (w3.alloc (.cells #[.slice sa m sc, .int .i64 V1] 30)) sa m S1) :=
        ⟨Box.new rfl, (hS : Pairs w3 sa m S1).below ((Below.refl _ _).alloc (Nat.le_refl _) _)⟩
      have hbx3 := (hbx2.below hb3).alloc (.cells #[.slice sa m sc, .int .i64 V1] 30)
      have hb4 : Below w.heap.size w (w3.alloc (.cells #[.slice sa m sc, .int .i64 V1] 30)) := (hbw2.trans (hb3.mono hbw2.size)).alloc (Nat.le_trans hbw2.size hb3.size) _
      clear x0 x1 x2 hbx2 hbw2 hb3 hb23 hS
      go_upto_region 5 with fail
      generalize (w3.alloc (.cells #[.slice sa m sc, .int .i64 V1] 30)) = w4 at *
      generalize w3.heap.size = b1 at *
      have x0 := hbx3.cell 0
      have x1 := hbx3.cell 1
      have x2 := hbx3.cell 2
      simp only [List.getElem?_toArray, List.getElem?_cons_zero, List.getElem?_cons_succ] at x0 x1 x2
      go_wp2_with fail
      refine (refsolve_good ra ga n c m d single R G w4 (by omega) (by omega) (HR.out.below hb4) (HG.out.below hb4) HC.out HV.out).mono ?_
      rintro e w5 ⟨sb, sd, rfl, hb5, hT⟩
      rw [HV1.out, HBD.out]
      rw [HS1.out] at hT
      have hA2 : Hid (Box w5 b1 30 #[.slice sa m sc, .int .i64 V1] ∧ Pairs w5 sa m S1) := ⟨hA.out.1.below hb5, hA.out.2.below hb5⟩
      have hB : Hid (Box (w5.alloc (.cells #[.slice sb m sd, .int .i64 V1] 30)) w5.heap.size 30 #[.slice sb m sd, .int .i64 V1] ∧ Pairs (w5.alloc (.cells #[.slice sb m sd, .int .i64 V1] 30)) sb m S1) :=
        ⟨Box.new rfl, (hT : Pairs w5 sb m S1).below ((Below.refl _ _).alloc (Nat.le_refl _) _)⟩
      have hA3 : Hid (Box (w5.alloc (.cells #[.slice sb m sd, .int .i64 V1] 30)) b1 30 #[.slice sa m sc, .int .i64 V1] ∧ Pairs (w5.alloc (.cells #[.slice sb m sd, .int .i64 V1] 30)) sa m S1) :=
        ⟨hA2.out.1.alloc _, hA2.out.2.below ((Below.refl _ _).alloc (Nat.le_refl _) _)⟩
      have hb6 : Below w.heap.size w (w5.alloc (.cells #[.slice sb m sd, .int .i64 V1] 30)) := (hb4.trans (hb5.mono hb4.size)).alloc (Nat.le_trans hb4.size hb5.size) _
      clear x0 x1 x2 hbx3 hb4 hb5 hT hA hA2
      go_upto_region 6 with fail
      generalize (w5.alloc (.cells #[.slice sb m sd, .int .i64 V1] 30)) = w6 at *
      generalize w5.heap.size = b2 at *
      have y0 := hA3.out.1.cell 0
      have y1 := hA3.out.1.cell 1
      have z0 := hB.out.1.cell 0
      have z1 := hB.out.1.cell 1
      simp only [List.getElem?_toArray, List.getElem?_cons_zero, List.getElem?_cons_succ] at y0 y1 z0 z1
      go_wp2_with fail
      refine (same_any sa sb m sc m sd V1 V1 S1 S1 w6 (by omega) (by omega) hA3.out.2 hB.out.2).mono ?_
      rintro e w7 ⟨rfl, hb7⟩
      rw [sameS_refl]
      have hb8 := hb6.trans (hb7.mono hb6.size)
      clear y0 y1 z0 z1 hb7 hb6
      go_wp2
      go_ret
      exact ⟨rfl, hb8⟩
  · rw [show decide (n ≤ 60 ∧ m ≤ 60) = false from decide_eq_false hsm]
    clear hsm hbx2
    go_wp2
    go_ret
    exact ⟨rfl, hbw2⟩
end Go.Proofs.Ytaomlhhlefpdeaa
