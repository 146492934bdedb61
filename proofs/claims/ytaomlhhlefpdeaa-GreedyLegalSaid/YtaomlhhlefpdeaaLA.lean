/- foyerlaw24.GreedyLegal: the walk. -/
import Derived.Test.YtaomlhhlefpdeaaZ1
import Derived.Test.YtaomlhhlefpdeaaX2
import Derived.Test.YtaomlhhlefpdeaaS
namespace Go.Proofs.Ytaomlhhlefpdeaa
open Go.RowKit

set_option maxRecDepth 10000 in
set_option maxHeartbeats 1600000 in
theorem legalLaw_any (ra ga sa : Option Addr) (n c m d k sc : Nat) (single : Bool) (V0 : Int) (R : List Int) (G S : List (Int × Int)) (w : World)
    (hn : n ≤ 9223372036854775807) (hm : m ≤ 9223372036854775807) (hk : k ≤ 9223372036854775807) (hR : Ints w ra n R) (hG : Pairs w ga m G) (hS : Pairs w sa k S) (hc : ra = none → c = 0) :
    Calls Try.prog 6 #[.agg #[.slice ra n c, .slice ga m d, .bool single], .agg #[.slice sa k sc, .int .i64 V0]] w fun e w' => e = .returned (.bool true) ∧ Below w.heap.size w w' := by
  have HR := Lib.hid hR; have HG := Lib.hid hG; have HS := Lib.hid hS; have HC := Lib.hid hc
  have hb0 : Below w.heap.size w ((w.alloc (.cells #[.slice ra n c, .slice ga m d, .bool single] 25)).alloc (.cells #[.slice sa k sc, .int .i64 V0] 30)) := ((Below.refl _ _).alloc (Nat.le_refl _) _).alloc (by simp) _
  have HBX0 : Hid (Box ((w.alloc (.cells #[.slice ra n c, .slice ga m d, .bool single] 25)).alloc (.cells #[.slice sa k sc, .int .i64 V0] 30)) w.heap.size 25 #[.slice ra n c, .slice ga m d, .bool single] ∧
    Box ((w.alloc (.cells #[.slice ra n c, .slice ga m d, .bool single] 25)).alloc (.cells #[.slice sa k sc, .int .i64 V0] 30)) (w.heap.size + 1) 30 #[.slice sa k sc, .int .i64 V0]) := ⟨(Box.new rfl).alloc _, Box.new (by simp)⟩
  clear hR hG hS hc
  go_enter Try.func6, Try.ntmps6
  go_wp2_with fail
  refine (head_any _).mono ?_
  rintro e w1 ⟨rfl, hb1⟩
  have HBX := Lib.hid ((⟨HBX0.out.1.below hb1, HBX0.out.2.below hb1⟩ : _ ∧ _))
  have hbw : Below w.heap.size w w1 := hb0.trans (hb1.mono hb0.size)
  clear hb0 hb1 HBX0
  have x0 := HBX.out.1.cell 0
  have x1 := HBX.out.1.cell 1
  have x2 := HBX.out.1.cell 2
  have y0 := HBX.out.2.cell 0
  simp only [List.getElem?_toArray, List.getElem?_cons_zero, List.getElem?_cons_succ] at x0 x1 x2 y0
  go_wp2_with fail
  refine (small_any ra ga n c m d single w1 hn hm).mono ?_
  rintro e w2 ⟨rfl, hb2⟩
  have HBX2 := Lib.hid ((⟨HBX.out.1.below hb2, HBX.out.2.below hb2⟩ : _ ∧ _))
  have hbw2 : Below w.heap.size w w2 := hbw.trans (hb2.mono hbw.size)
  clear x0 x1 x2 y0 hb2 HBX hbw
  by_cases hsm : n ≤ 60 ∧ m ≤ 60
  · rw [show decide (n ≤ 60 ∧ m ≤ 60) = true from decide_eq_true hsm]
    obtain ⟨hn60, hm60⟩ := hsm
    clear hn hm
    have x0 := HBX2.out.1.cell 0
    have x1 := HBX2.out.1.cell 1
    have x2 := HBX2.out.1.cell 2
    have y0 := HBX2.out.2.cell 0
    simp only [List.getElem?_toArray, List.getElem?_cons_zero, List.getElem?_cons_succ] at x0 x1 x2 y0
    by_cases hk70 : 70 < k
    · have e1 : decide ((70 : Int) < (k : Int)) = true := by simp; omega
      clear HBX2
      go_wp2_with fail
      go_ret
      exact ⟨rfl, hbw2⟩
    · have e1 : decide ((70 : Int) < (k : Int)) = false := by simp; omega
      clear hk
      cases hv : validS R G
      · have HV := Lib.hid hv
        clear hv
        go_wp2_with fail
        refine (solve_bad ra ga n c m d single R G w2 (by omega) (by omega) (HR.out.below hbw2) (HG.out.below hbw2) HV.out).mono ?_
        rintro e w3 ⟨rfl, hb3⟩
        have hb4 : Below w.heap.size w (w3.alloc (.cells #[.slice none 0 0, .int .i64 0] 30)) := (hbw2.trans (hb3.mono hbw2.size)).alloc (Nat.le_trans hbw2.size hb3.size) _
        have hX := (HBX2.out.1.below hb3).alloc (.cells #[.slice none 0 0, .int .i64 0] 30)
        have hN : Box (w3.alloc (.cells #[.slice none 0 0, .int .i64 0] 30)) w3.heap.size 30 #[.slice none 0 0, .int .i64 0] := Box.new rfl
        have HX := Lib.hid hX; have HN := Lib.hid hN
        clear x0 x1 x2 y0 HBX2 hb3 hX hN
        go_upto_region 5 with fail
        generalize (w3.alloc (.cells #[.slice none 0 0, .int .i64 0] 30)) = w4 at *
        generalize w3.heap.size = b1 at *
        have x0 := HX.out.cell 0
        have x1 := HX.out.cell 1
        have x2 := HX.out.cell 2
        simp only [List.getElem?_toArray, List.getElem?_cons_zero, List.getElem?_cons_succ] at x0 x1 x2
        go_wp2_with fail
        refine (valid_any ra ga n c m d single false R G w4 (by omega) (by omega) (HR.out.below hb4) (HG.out.below hb4) HV.out).mono ?_
        rintro e w5 ⟨rfl, hb5⟩
        have hb6 := hb4.trans (hb5.mono hb4.size)
        have y0 := (HN.out.below hb5).cell 0
        simp only [List.getElem?_toArray, List.getElem?_cons_zero, List.getElem?_cons_succ] at y0
        clear x0 x1 x2 HX HN hb5 hb4 hbw2
        go_wp2_with fail
        go_ret
        exact ⟨rfl, hb6⟩
      · have HV := Lib.hid hv
        have HLEG := Lib.hid (solve_legal (single := single) hv)
        clear hv
        go_wp2_with fail
        refine (solve_good ra ga n c m d single R G w2 (by omega) (by omega) (HR.out.below hbw2) (HG.out.below hbw2) HC.out HV.out).mono ?_
        rintro e w3 ⟨xa, xc, rfl, hb3, hX⟩
        obtain ⟨V1, hV1⟩ : ∃ x, (solveS single R G).value = x := ⟨_, rfl⟩
        obtain ⟨S1, hS1⟩ : ∃ x, (solveS single R G).spots = x := ⟨_, rfl⟩
        obtain ⟨bd, hbd⟩ : ∃ x, boundS R G = x := ⟨_, rfl⟩
        rw [hV1, hbd]
        rw [hS1] at hX
        rw [hS1, hV1] at HLEG
        have hle1 : V1 ≤ bd := by rw [← hbd]; exact legal_bound HLEG.out
        have HBD := Lib.hid hbd
        clear hV1 hS1 hbd
        have HX4 : Hid ((Box (w3.alloc (.cells #[.slice xa m xc, .int .i64 V1] 30)) w.heap.size 25 #[.slice ra n c, .slice ga m d, .bool single] ∧ Box (w3.alloc (.cells #[.slice xa m xc, .int .i64 V1] 30)) (w.heap.size + 1) 30 #[.slice sa k sc, .int .i64 V0]) ∧
            Box (w3.alloc (.cells #[.slice xa m xc, .int .i64 V1] 30)) w3.heap.size 30 #[.slice xa m xc, .int .i64 V1]) :=
          ⟨⟨(HBX2.out.1.below hb3).alloc _, (HBX2.out.2.below hb3).alloc _⟩, Box.new rfl⟩
        have HXS : Hid (Pairs (w3.alloc (.cells #[.slice xa m xc, .int .i64 V1] 30)) xa m S1) := Pairs.below hX ((Below.refl _ _).alloc (Nat.le_refl _) _)
        have hb4 : Below w.heap.size w (w3.alloc (.cells #[.slice xa m xc, .int .i64 V1] 30)) := (hbw2.trans (hb3.mono hbw2.size)).alloc (Nat.le_trans hbw2.size hb3.size) _
        clear x0 x1 x2 y0 HBX2 hb3 hX hbw2
        go_upto_region 5 with fail
        generalize (w3.alloc (.cells #[.slice xa m xc, .int .i64 V1] 30)) = w4 at *
        generalize w3.heap.size = b1 at *
        have x0 := HX4.out.1.1.cell 0
        have x1 := HX4.out.1.1.cell 1
        have x2 := HX4.out.1.1.cell 2
        have z0 := HX4.out.2.cell 0
        have z1 := HX4.out.2.cell 1
        simp only [List.getElem?_toArray, List.getElem?_cons_zero, List.getElem?_cons_succ] at x0 x1 x2 z0 z1
        go_wp2_with fail
        refine (legal_any ra ga xa n c m d m xc single V1 R G S1 w4 (by omega) (by omega) (by omega) (HR.out.below hb4) (HG.out.below hb4) HXS.out).mono ?_
        rintro e w5 ⟨q, rfl, hb5, hq⟩
        obtain rfl : q = true := hq.mpr HLEG.out
        have HX5 := Lib.hid ((⟨⟨HX4.out.1.1.below hb5, HX4.out.1.2.below hb5⟩, HX4.out.2.below hb5⟩ : (_ ∧ _) ∧ _))
        have hb6 := hb4.trans (hb5.mono hb4.size)
        clear x0 x1 x2 z0 z1 HX4 hq hb5 hb4 HXS
        have x0 := HX5.out.1.1.cell 0
        have x1 := HX5.out.1.1.cell 1
        have x2 := HX5.out.1.1.cell 2
        have z1 := HX5.out.2.cell 1
        simp only [List.getElem?_toArray, List.getElem?_cons_zero, List.getElem?_cons_succ] at x0 x1 x2 z1
        go_wp2_with fail
        refine (bound_any ra ga n c m d single R G w5 (by omega) (by omega) (HR.out.below hb6) (HG.out.below hb6)).mono ?_
        rintro e w6 ⟨rfl, hb7⟩
        rw [HBD.out]
        have HX6 := Lib.hid ((⟨HX5.out.1.1.below hb7, HX5.out.1.2.below hb7⟩ : _ ∧ _))
        have hb8 := hb6.trans (hb7.mono hb6.size)
        clear x0 x1 x2 z1 HX5 hb7 hb6
        have x0 := HX6.out.1.cell 0
        have x1 := HX6.out.1.cell 1
        have x2 := HX6.out.1.cell 2
        have y0 := HX6.out.2.cell 0
        have y1 := HX6.out.2.cell 1
        simp only [List.getElem?_toArray, List.getElem?_cons_zero, List.getElem?_cons_succ] at x0 x1 x2 y0 y1
        go_wp2_with fail
        refine (legal_any ra ga sa n c m d k sc single V0 R G S w6 (by omega) (by omega) (by omega) (HR.out.below hb8) (HG.out.below hb8) (HS.out.below hb8)).mono ?_
        rintro e w7 ⟨q, rfl, hb9, hq⟩
        have hb10 := hb8.trans (hb9.mono hb8.size)
        have y1 := (HX6.out.2.below hb9).cell 1
        simp only [List.getElem?_toArray, List.getElem?_cons_zero, List.getElem?_cons_succ] at y1
        cases q
        · clear hq HX6 hb9 hb8 x0 x1 x2 y0
          go_wp2_with fail
          go_ret
          exact ⟨rfl, hb10⟩
        · have hle2 : V0 ≤ bd := by rw [← HBD.out]; exact legal_bound (hq.mp rfl)
          clear hq HX6 hb9 hb8 x0 x1 x2 y0
          go_wp2_with fail
          go_ret
          exact ⟨rfl, hb10⟩
  · rw [show decide (n ≤ 60 ∧ m ≤ 60) = false from decide_eq_false hsm]
    clear hsm HBX2
    go_wp2
    go_ret
    exact ⟨rfl, hbw2⟩
end Go.Proofs.Ytaomlhhlefpdeaa
