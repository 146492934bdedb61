/- foyerlaw24.GreedyRuns: the walk. -/
import Derived.Test.YtaomlhhlefpdeaaU
import Derived.Test.YtaomlhhlefpdeaaS
namespace Go.Proofs.Ytaomlhhlefpdeaa
open Go.RowKit

set_option maxRecDepth 10000 in
set_option maxHeartbeats 1600000 in
theorem runs_any (ra ga : Option Addr) (n c m d : Nat) (single : Bool) (R : List Int) (G : List (Int × Int)) (w : World)
    (hn : n ≤ 9223372036854775807) (hm : m ≤ 9223372036854775807) (hR : Ints w ra n R) (hG : Pairs w ga m G) (hc : ra = none → c = 0) :
    Calls Try.prog 5 #[.agg #[.slice ra n c, .slice ga m d, .bool single]] w fun e w' => e = .returned (.bool true) ∧ Below w.heap.size w w' := by
  have HR := Lib.hid hR; have HG := Lib.hid hG; have HC := Lib.hid hc
  have hb0 : Below w.heap.size w (w.alloc (.cells #[.slice ra n c, .slice ga m d, .bool single] 25)) := (Below.refl _ _).alloc (Nat.le_refl _) _
  have HBX0 : Hid (Box (w.alloc (.cells #[.slice ra n c, .slice ga m d, .bool single] 25)) w.heap.size 25 #[.slice ra n c, .slice ga m d, .bool single]) := Box.new rfl
  clear hR hG hc
  go_enter Try.func5, Try.ntmps5
  go_wp2_with fail
  refine (head_any _).mono ?_
  rintro e w1 ⟨rfl, hb1⟩
  have hbx := HBX0.out.below hb1
  have hbw : Below w.heap.size w w1 := hb0.trans (hb1.mono hb0.size)
  clear hb0 hb1 HBX0
  have x0 := hbx.cell 0
  have x1 := hbx.cell 1
  have x2 := hbx.cell 2
  simp only [List.getElem?_toArray, List.getElem?_cons_zero, List.getElem?_cons_succ] at x0 x1 x2
  go_wp2_with fail
  refine (small_any ra ga n c m d single w1 hn hm).mono ?_
  rintro e w2 ⟨rfl, hb2⟩
  have hbx2 := hbx.below hb2
  have hbw2 : Below w.heap.size w w2 := hbw.trans (hb2.mono hbw.size)
  clear x0 x1 x2 hb2 hbx hbw
  by_cases hsm : n ≤ 60 ∧ m ≤ 60
  · rw [show decide (n ≤ 60 ∧ m ≤ 60) = true from decide_eq_true hsm]
    obtain ⟨hn60, hm60⟩ := hsm
    clear hn hm
    have x0 := hbx2.cell 0
    have x1 := hbx2.cell 1
    have x2 := hbx2.cell 2
    simp only [List.getElem?_toArray, List.getElem?_cons_zero, List.getElem?_cons_succ] at x0 x1 x2
    cases hv : validS R G
    · have HV := Lib.hid hv
      clear hv
      go_wp2_with fail
      refine (solve_bad ra ga n c m d single R G w2 (by omega) (by omega) (HR.out.below hbw2) (HG.out.below hbw2) HV.out).mono ?_
      rintro e w3 ⟨rfl, hb3⟩
      have hb4 : Below w.heap.size w (w3.alloc (.cells #[.slice none 0 0, .int .i64 0] 30)) := (hbw2.trans (hb3.mono hbw2.size)).alloc (Nat.le_trans hbw2.size hb3.size) _
      clear x0 x1 x2 hbx2 hb3
      go_wp2
      go_ret
      exact ⟨rfl, hb4⟩
    · have HV := Lib.hid hv
      have HRUN := Lib.hid (solveS_runs (single := single) hv)
      have HBND := Lib.hid (solveS_bounds (single := single) hv)
      have HVP := Lib.hid (validS_parts hv).2.2
      have HRR := Lib.hid (runsOk_sum R 4000 (by omega) (validS_parts hv).1).2.2
      have HLR := Lib.hid HR.out.1
      have HLG := Lib.hid HG.out.1
      clear hv
      go_wp2_with fail
      refine (solve_good ra ga n c m d single R G w2 (by omega) (by omega) (HR.out.below hbw2) (HG.out.below hbw2) HC.out HV.out).mono ?_
      rintro e w3 ⟨sa, sc, rfl, hb3, hS⟩
      obtain ⟨V1, hV1⟩ : ∃ x, (solveS single R G).value = x := ⟨_, rfl⟩
      obtain ⟨S1, hS1⟩ : ∃ x, (solveS single R G).spots = x := ⟨_, rfl⟩
      obtain ⟨bd, hbd⟩ : ∃ x, boundS R G = x := ⟨_, rfl⟩
      rw [hV1, hbd]
      rw [hS1] at hS HRUN HBND
      clear hV1 hS1 hbd
      have hA : Hid (Box (w3.alloc (.cells #[.slice sa m sc, .int .i64 V1] 30)) w3.heap.size 30 #[.slice sa m sc, .int .i64 V1] ∧ Pairs (w3.alloc (.cells #[.slice sa m sc, .int .i64 V1] 30)) sa m S1) :=
        ⟨Box.new rfl, (hS : Pairs w3 sa m S1).below ((Below.refl _ _).alloc (Nat.le_refl _) _)⟩
      have HBX3 := Lib.hid ((hbx2.below hb3).alloc (.cells #[.slice sa m sc, .int .i64 V1] 30))
      have hb4 : Below w.heap.size w (w3.alloc (.cells #[.slice sa m sc, .int .i64 V1] 30)) := (hbw2.trans (hb3.mono hbw2.size)).alloc (Nat.le_trans hbw2.size hb3.size) _
      have hs34 : Hid (w3.heap.size < (w3.alloc (.cells #[.slice sa m sc, .int .i64 V1] 30)).heap.size) := by simp [Hid]
      clear x0 x1 x2 hbx2 hbw2 hb3 hS
      go_upto_region 5 with fail
      generalize (w3.alloc (.cells #[.slice sa m sc, .int .i64 V1] 30)) = w4 at *
      generalize w3.heap.size = b1 at *
      have x0 := HBX3.out.cell 0
      have x1 := HBX3.out.cell 1
      have y0 := hA.out.1.cell 0
      simp only [List.getElem?_toArray, List.getElem?_cons_zero, List.getElem?_cons_succ] at x0 x1 y0
      go_wp2_with fail
      clear x0 x1 y0
      go_loopw [7, 8, 9, 10] (fun v7 _ _ _ wr => ∃ r : Nat, v7 = .int .i64 r ∧ r ≤ n ∧ Below w4.heap.size w4 wr)
        (fun v7 _ _ _ _ => n - (intOf v7).toNat)
      case atStart => exact ⟨0, rfl, Nat.zero_le _, Below.refl _ _⟩
      case round =>
        obtain ⟨r, rfl, hrn, hb⟩ := hrel
        obtain ⟨wo, rfl⟩ : ∃ wo : World, wo = wr := ⟨_, rfl⟩
        have x0 := (HBX3.out.below hb).cell 0
        have x1 := (HBX3.out.below hb).cell 1
        have y0 := (hA.out.1.below hb).cell 0
        simp only [List.getElem?_toArray, List.getElem?_cons_zero, List.getElem?_cons_succ] at x0 x1 y0
        by_cases hlt : r < n
        · go_wp2_with fail
          clear x0 x1 y0
          go_loopw [8, 9, 10] (fun v8 v9 v10 wr => ∃ (i : Nat) (sm en : Int), v10 = .int .i64 i ∧ i ≤ m ∧ v8 = .int .i64 sm ∧ v9 = .int .i64 en ∧ 0 ≤ sm ∧ sm ≤ 12 * i ∧ 0 ≤ en ∧ en ≤ 4012 ∧ Hid (sm = sumTo G S1 r i ∧ en = endTo G S1 r i) ∧ Below w4.heap.size w4 wr)
            (fun _ _ v10 _ => m - (intOf v10).toNat)
          case atStart => exact ⟨0, 0, 0, rfl, Nat.zero_le _, rfl, rfl, by omega, by omega, by omega, by omega, ⟨rfl, rfl⟩, hb⟩
          case round =>
            clear hb
            obtain ⟨i, sm, en, rfl, him, rfl, rfl, hs0, hs1, he0, he1, HSE, hb⟩ := hrel
            have x0 := (HBX3.out.below hb).cell 0
            have x1 := (HBX3.out.below hb).cell 1
            have y0 := (hA.out.1.below hb).cell 0
            simp only [List.getElem?_toArray, List.getElem?_cons_zero, List.getElem?_cons_succ] at x0 x1 y0
            by_cases hlt2 : i < m
            · obtain ⟨bs, os, rfl, c1, c2⟩ := (hA.out.2.below hb).2 i hlt2
              obtain ⟨bg, og, rfl, d1, _⟩ := (HG.out.below (hb4.trans (hb.mono hb4.size))).2 i hlt2
              have hgi := (HVP.out i (by rw [HLG.out]; exact hlt2)).1
              have hsi := HBND.out i (by rw [HLG.out]; exact hlt2)
              obtain ⟨t, ht⟩ : ∃ x, gs S1 i = x := ⟨_, rfl⟩
              obtain ⟨f, hf⟩ : ∃ x, gv S1 i = x := ⟨_, rfl⟩
              obtain ⟨s, hs⟩ : ∃ x, gs G i = x := ⟨_, rfl⟩
              have HN : Hid (sumTo G S1 r (i + 1) = (if t = r then sumTo G S1 r i + s else sumTo G S1 r i) ∧ endTo G S1 r (i + 1) = (if t = r then max (endTo G S1 r i) (f + s) else endTo G S1 r i)) := by
                rw [sumTo, endTo, ht, hf, hs]; exact ⟨rfl, rfl⟩
              rw [ht] at c1 hsi; rw [hf] at c2 hsi; rw [hs] at d1 hgi
              clear ht hf hs
              by_cases htr : t = r
              · subst htr
                have hf0 := hsi.2 (by omega)
                clear hsi
                by_cases hmx : en < f + s
                · have FIN : Hid (sm + s = sumTo G S1 r (i + 1) ∧ f + s = endTo G S1 r (i + 1)) := by
                    refine ⟨?_, ?_⟩
                    · rw [HN.out.1, if_pos rfl, HSE.out.1]
                    · rw [HN.out.2, if_pos rfl, ← HSE.out.2]; omega
                  go_wp2_with fail
                  go_region
                  go_wp2
                  go_roundw
                  case rel => exact ⟨i + 1, _, _, by go_num, by omega, rfl, rfl, by omega, by omega, by omega, by omega, FIN, below_drewN hb _⟩
                  case measure => simp [intOf]; omega
                · have FIN : Hid (sm + s = sumTo G S1 r (i + 1) ∧ en = endTo G S1 r (i + 1)) := by
                    refine ⟨?_, ?_⟩
                    · rw [HN.out.1, if_pos rfl, HSE.out.1]
                    · rw [HN.out.2, if_pos rfl, ← HSE.out.2]; omega
                  go_wp2_with fail
                  go_region
                  go_wp2
                  go_roundw
                  case rel => exact ⟨i + 1, _, _, by go_num, by omega, rfl, rfl, by omega, by omega, by omega, by omega, FIN, below_drewN hb _⟩
                  case measure => simp [intOf]; omega
              · have FIN : Hid (sm = sumTo G S1 r (i + 1) ∧ en = endTo G S1 r (i + 1)) := by
                  rw [HN.out.1, HN.out.2, if_neg htr, if_neg htr]; exact HSE.out
                have htb : (t == (r : Int)) = false := by simpa using htr
                clear hsi
                go_wp2_with fail
                go_roundw
                case rel => exact ⟨i + 1, _, _, by go_num, by omega, rfl, rfl, by omega, by omega, by omega, by omega, FIN, hb⟩
                case measure => simp [intOf]; omega
            · obtain rfl : i = m := by omega
              have hrun := HRUN.out r (by rw [HLR.out]; exact hlt)
              rw [HLG.out, ← HSE.out.1, ← HSE.out.2] at hrun
              obtain ⟨hsm2, hle⟩ := hrun
              subst hsm2
              obtain ⟨rb, ro, rfl, e1⟩ := (HR.out.below (hb4.trans (hb.mono hb4.size))).2 r hlt
              obtain ⟨z, hz⟩ : ∃ x, ix R r = x := ⟨_, rfl⟩
              rw [hz] at e1 hle
              clear hz
              go_wp2_with fail
              go_roundw
              case rel => exact ⟨r + 1, by go_num, by omega, hb⟩
              case measure => simp [intOf]; omega
        · obtain rfl : r = n := by omega
          go_wp2
          go_ret
          exact ⟨rfl, hb4.trans (hb.mono hb4.size)⟩
  · rw [show decide (n ≤ 60 ∧ m ≤ 60) = false from decide_eq_false hsm]
    clear hsm hbx2
    go_wp2
    go_ret
    exact ⟨rfl, hbw2⟩
end Go.Proofs.Ytaomlhhlefpdeaa
