/- foyerref22.best: the walk. -/
import Derived.Test.YtaomlhhlefpdeaaQFitBound26

namespace Go.Proofs.Ytaomlhhlefpdeaa
open Go.RowKit Go.IntWalk

set_option maxRecDepth 10000 in
set_option maxHeartbeats 3200000 in
theorem best_any (ra ga : Option Addr) (n c m d : Nat) (single : Bool) (G : List (Int × Int)) (hn : n ≤ 4000) (hm : m ≤ 4000) (hv : ValuesOk G) (hGL : G.length = m) (k : Nat) : ∀ (g : Nat) (la ua : Option Addr) (lc uc : Nat) (left : List Int) (used : List Bool) (w : World),
    g + k = m → Pairs w ga m G → Ints w la n left → Bools w ua n used → (∀ r, r < n → 0 ≤ ix left r ∧ ix left r ≤ 4000) →
    Calls Try.prog 60 #[.agg #[.slice ra n c, .slice ga m d, .bool single], .slice la n lc, .slice ua n uc, .int .i64 g] w fun e w' => e = .returned (.int .i64 (bestF single G k g left used)) ∧ Below w.heap.size w w' := by
  have HV := Lib.hid hv; have HGL := Lib.hid hGL
  clear hv hGL
  induction k with
  | zero =>
    intro g la ua lc uc left used w hg hG hL hU hlb
    have hb0 : Below w.heap.size w (w.alloc (.cells #[.slice ra n c, .slice ga m d, .bool single] 25)) := (Below.refl _ _).alloc (Nat.le_refl _) _
    have HBX := Lib.hid (Box.new (w := w) (vs := #[.slice ra n c, .slice ga m d, .bool single]) (T := 25) rfl)
    have HL := Lib.hid (hL.below hb0); have HU := Lib.hid (hU.below hb0); have HLL := Lib.hid hL.1; have HLB := Lib.hid hlb
    obtain rfl : g = m := by omega
    have t1 : ((g : Int) == (g : Int)) = true := by simp
    clear hG hL hU hg hlb
    go_enter Try.func60, Try.ntmps60
    go_upto_region 2 with fail
    generalize (w.alloc (.cells #[.slice ra n c, .slice ga g d, .bool single] 25)) = w1 at *
    have x2 := HBX.out.cell 2
    simp only [List.getElem?_toArray, List.getElem?_cons_zero, List.getElem?_cons_succ] at x2
    go_wp2_with fail
    go_loop [9] (fun v9 => ∃ i : Nat, v9 = .int .i64 i ∧ i ≤ n ∧ Hid (∀ q, q < i → ¬ badRun single left used q)) (fun v9 => n - (intOf v9).toNat)
    case atStart => exact ⟨0, rfl, Nat.zero_le _, fun q hq => absurd hq (by omega)⟩
    case round =>
      obtain ⟨i, rfl, hi, HN⟩ := hrel
      by_cases hlt : i < n
      · obtain ⟨b, o, rfl, c1⟩ := HL.out.2 i hlt
        obtain ⟨b', o', rfl, c2⟩ := HU.out.2 i hlt
        have hbd := HLB.out i hlt
        have HSTEP : Hid (¬ badRun single left used i → ∀ q, q < i + 1 → ¬ badRun single left used q) := fun h q hq => by
          by_cases e : q = i
          · rw [e]; exact h
          · exact HN.out q (by omega)
        cases single
        · go_wp2_with fail
          go_round
          case rel => exact ⟨i + 1, by go_num, by omega, HSTEP.out (by simp [badRun])⟩
          case measure => simp [intOf]; omega
        · cases hu : bx used i
          · rw [hu] at c2
            have HS2 := Lib.hid (HSTEP.out (by simp [badRun, oneLeft, hu]))
            clear hu HSTEP
            go_wp2_with fail
            go_round
            case rel => exact ⟨i + 1, by go_num, by omega, HS2.out⟩
            case measure => simp [intOf]; omega
          · rw [hu] at c2
            by_cases h1 : ix left i = 1
            · have HFIN : Hid (bestF true G 0 g left used = -1) := by
                show _ = _
                rw [bestF, if_pos ⟨rfl, i, by rw [HLL.out]; exact hlt, by simp [oneLeft, hu, h1]⟩]
              rw [h1] at c1
              clear hu h1 HSTEP hbd
              go_wp2_with fail
              go_ret
              exact ⟨ret_int HFIN.out.symm, hb0⟩
            · have HS2 := Lib.hid (HSTEP.out (by simp [badRun, oneLeft, h1]))
              obtain ⟨x, hx⟩ : ∃ x, ix left i = x := ⟨_, rfl⟩
              rw [hx] at c1 h1 hbd
              have e1 : (x == 1) = false := by simp; exact h1
              clear hu h1 hx HSTEP
              go_wp2_with fail
              go_round
              case rel => exact ⟨i + 1, by go_num, by omega, HS2.out⟩
              case measure => simp [intOf]; omega
      · have HFIN : Hid (bestF single G 0 g left used = 0) := by
          show _ = _
          rw [bestF, if_neg]
          rintro ⟨h1, r, hr, h2⟩
          rw [HLL.out] at hr
          exact HN.out r (by omega) ⟨h1, h2⟩
        go_wp2_with fail
        go_ret
        exact ⟨ret_int HFIN.out.symm, hb0⟩
  | succ k ih =>
    intro g la ua lc uc left used w hg hG hL hU hlb
    have hb0 : Below w.heap.size w (w.alloc (.cells #[.slice ra n c, .slice ga m d, .bool single] 25)) := (Below.refl _ _).alloc (Nat.le_refl _) _
    have HBX0 := Lib.hid (Box.new (w := w) (vs := #[.slice ra n c, .slice ga m d, .bool single]) (T := 25) rfl)
    have HL := Lib.hid hL; have HU := Lib.hid hU; have HG := Lib.hid hG; have HLL := Lib.hid hL.1; have HUL := Lib.hid hU.1; have HLB := Lib.hid hlb; have HIH := Lib.hid ih
    have HGK : Hid (g + 1 + k = m) := by show _ = _; omega
    have hgm : g < m := by omega
    have hgg := HV.out g (by rw [HGL.out]; exact hgm)
    obtain ⟨gb, go, rfl, d1, d2⟩ := HG.out.2 g hgm
    obtain ⟨s, hs⟩ : ∃ x, gs G g = x := ⟨_, rfl⟩
    obtain ⟨v, hv⟩ : ∃ x, gv G g = x := ⟨_, rfl⟩
    rw [hs] at d1 hgg; rw [hv] at d2 hgg
    have HD := Lib.hid ((⟨d1, d2⟩ : _ ∧ _))
    have HBB : Hid (∀ l u, -1 ≤ bestF single G k (g + 1) l u ∧ bestF single G k (g + 1) l u ≤ 12000000 * k) := fun l u => bestF_bounds HV.out k (g + 1) l u (by rw [HGL.out]; omega)
    have HFIN : Hid (bestF single G (k + 1) g left used = bestLoop (bestF single G k (g + 1)) s v left used (bestF single G k (g + 1) left used) n) := by
      show _ = _
      rw [bestF, hs, hv, HLL.out]
    have t1 : ((g : Int) == (m : Int)) = false := by simp; omega
    have hk4 : k ≤ 4000 := by omega
    have p0 : 0 ≤ s * v := Int.mul_nonneg (by omega) (by omega)
    have p1 : s * v ≤ 12 * v := Int.mul_le_mul_of_nonneg_right hgg.1.2 hgg.2.1
    have p2 : s * v ≤ 12000000 := by omega
    clear hG hL hU hg hlb ih hs hv d1 d2 p1
    go_enter Try.func60, Try.ntmps60
    go_upto_region 7 with fail
    generalize (w.alloc (.cells #[.slice ra n c, .slice (some ⟨gb, go, none⟩) m d, .bool single] 25)) = w1 at *
    have HBX := Lib.hid ((⟨HBX0.out.cell 0, HBX0.out.cell 1, HBX0.out.cell 2⟩ : _ ∧ _ ∧ _))
    have x0 := HBX0.out.cell 0
    have x1 := HBX0.out.cell 1
    have x2 := HBX0.out.cell 2
    simp only [List.getElem?_toArray, List.getElem?_cons_zero, List.getElem?_cons_succ] at x0 x1 x2
    clear HBX
    go_wp2_with fail
    refine (HIH.out (g + 1) la ua lc uc left used w1 HGK.out (HG.out.below hb0) (HL.out.below hb0) (HU.out.below hb0) HLB.out).mono ?_
    rintro e w2 ⟨rfl, hb2⟩
    have HBX2 := Lib.hid (HBX0.out.below hb2)
    have HBW2 := Lib.hid (hb0.trans (hb2.mono hb0.size))
    have hb1 := HBB.out left used
    obtain ⟨o1, ho1⟩ : ∃ x, bestF single G k (g + 1) left used = x := ⟨_, rfl⟩
    rw [ho1] at HFIN hb1
    rw [ho1]
    clear x0 x1 x2 HBX0 hb0 hb2 ho1
    go_wp2_with fail
    go_loopw [10, 11, 12, 13, 14] (fun v10 v11 _ _ _ wr => ∃ (i : Nat) (out : Int), v11 = .int .i64 i ∧ v10 = .int .i64 out ∧ i ≤ n ∧ -1 ≤ out ∧ out ≤ 12000000 * k + 12000000 ∧ Hid (bestLoop (bestF single G k (g + 1)) s v left used o1 i = out) ∧
        Hid (Below w.heap.size w wr) ∧ Hid (Box wr w.heap.size 25 #[.slice ra n c, .slice (some ⟨gb, go, none⟩) m d, .bool single]))
      (fun _ v11 _ _ _ _ => n - (intOf v11).toNat)
    case atStart => exact ⟨0, o1, rfl, rfl, Nat.zero_le _, hb1.1, by omega, rfl, HBW2, HBX2⟩
    case round =>
      clear HBW2 HBX2
      obtain ⟨i, out, rfl, rfl, hi, hout0, hout1, HLP, HBW, HBX⟩ := hrel
      by_cases hlt : i < n
      · obtain ⟨b, o, rfl, c1⟩ := (HL.out.below HBW.out).2 i hlt
        have x1 := HBX.out.cell 1
        have d1 := Below.cell_of HBW.out HD.out.1
        have d2 := Below.cell_of HBW.out HD.out.2
        simp only [List.getElem?_toArray, List.getElem?_cons_zero, List.getElem?_cons_succ] at x1
        have hbd := HLB.out i hlt
        obtain ⟨x, hx⟩ : ∃ x, ix left i = x := ⟨_, rfl⟩
        rw [hx] at c1 hbd
        by_cases hxs : x < s
        · have e1 : decide (x < s) = true := by simp; exact hxs
          have HSTEP : Hid (bestLoop (bestF single G k (g + 1)) s v left used o1 (i + 1) = out) := by
            show _ = _
            rw [bestLoop, hx, if_pos hxs]; exact HLP.out
          clear hx hxs
          go_wp2_with fail
          go_quiet (fail)
          go_wp2_with fail
          go_roundw
          case rel => exact ⟨i + 1, out, by go_num, rfl, by omega, hout0, hout1, HSTEP, below_drewN HBW.out _, HBX.out⟩
          case measure => simp [intOf]; omega
        · have e1 : decide (x < s) = false := by simp; omega
          have hxs2 : s ≤ x := by omega
          have HSTEP : Hid (bestLoop (bestF single G k (g + 1)) s v left used o1 (i + 1) = if 0 ≤ bestF single G k (g + 1) (left.set i (x - s)) (used.set i true) then max out (bestF single G k (g + 1) (left.set i (x - s)) (used.set i true) + s * v) else out) := by
            show _ = _
            rw [bestLoop, hx, if_neg hxs, HLP.out]
          have HX := Lib.hid hx
          clear hxs hx
          go_wp2_with fail
          go_quiet (fail)
          go_upto_region 13 with fail
          generalize hw4 : World.drewN wr _ = w4
          have hb4 : Below wr.heap.size wr w4 := by rw [← hw4]; exact below_drewN (Below.refl _ _) _
          have HBW4 := Lib.hid (HBW.out.trans (hb4.mono HBW.out.size))
          have HBX4 := Lib.hid (HBX.out.below hb4)
          clear hw4 hb4 HBW HBX c1 x1 d1 d2 e1
          obtain ⟨l1, lc1, w5, hcp, hb5, hol⟩ := copy_ints w4 (some ⟨b, o, none⟩) n lc left (Nat.le_trans hn (by decide)) (HL.out.below HBW4.out)
          obtain ⟨lb, rfl, hlb, hlr⟩ := hol.2 (Nat.lt_of_le_of_lt (Nat.zero_le _) hlt)
          have HB5 := Lib.hid hb5; have HLR := Lib.hid hlr
          clear hol hb5 hlr
          go_upto_region 14 with (at_builtin; refine wpList_run_append rfl _ _ 22 rfl 22 rfl hcp rfl rfl ?_)
          clear hcp
          obtain ⟨u1, uc1, w6, hcp, hb6, hou⟩ := copy_bools w5 ua n uc used (Nat.le_trans hn (by decide)) (HU.out.below (HBW4.out.trans (HB5.out.mono HBW4.out.size)))
          obtain ⟨ub, rfl, hub, hur⟩ := hou.2 (Nat.lt_of_le_of_lt (Nat.zero_le _) hlt)
          have HB6 := Lib.hid hb6; have HUR := Lib.hid hur
          have hub4 : w4.heap.size ≤ ub := Nat.le_trans HB5.out.size hub
          clear hou hb6 hur
          go_upto_region 15 with (at_builtin; refine wpList_run_append rfl _ _ 71 rfl 71 rfl hcp rfl rfl ?_)
          clear hcp
          have HBW6 := Lib.hid (HBW4.out.trans ((HB5.out.trans (HB6.out.mono HB5.out.size)).mono HBW4.out.size))
          have HBX6 := Lib.hid (HBX4.out.below (HB5.out.trans (HB6.out.mono HB5.out.size)))
          have HLR6 := Lib.hid (HLR.out.below HB6.out)
          have hne : lb ≠ ub := Nat.ne_of_lt (Nat.lt_of_lt_of_le HLR.out.lt hub)
          have x1 := HBX6.out.cell 1
          have d1 := Below.cell_of HBW6.out HD.out.1
          have rr := HLR6.out.cell i (by rw [HLL.out]; exact hlt)
          rw [HX.out] at rr
          have rf := HLR6.out.free i
          simp only [List.getElem?_toArray, List.getElem?_cons_zero, List.getElem?_cons_succ] at x1
          have hw : wrap64 (x - s) = x - s := wrap64_in _ (by omega)
          have HSETL : Hid (IntRow (w6.setCell ⟨lb, i, none⟩ (.int .i64 (x - s))) lb 3 (left.set i (x - s)) ∧ BoolRow (w6.setCell ⟨lb, i, none⟩ (.int .i64 (x - s))) ub 4 used ∧ Below w4.heap.size w4 (w6.setCell ⟨lb, i, none⟩ (.int .i64 (x - s)))) :=
            ⟨HLR6.out.set i (by rw [HLL.out]; exact hlt) _, HUR.out.of_heap (heap_set _ (fun e => hne e.symm)), (HB5.out.trans (HB6.out.mono HB5.out.size)).setCell hlb _⟩
          go_cut [83] (fun _ wx => Hid (IntRow wx lb 3 (left.set i (x - s)) ∧ BoolRow wx ub 4 used ∧ Below w4.heap.size w4 wx))
          case first =>
            go_region
            all_goals
              go_wp2_with fail
              go_meet
            all_goals
              case rel => exact ⟨HSETL.out.1.drew1, HSETL.out.2.1, HSETL.out.2.2.trans (((Below.refl _ _).drew).mono HSETL.out.2.2.size)⟩
          case rest =>
            clear HSETL HLR6 HUR HLR HBX6 HBW6 x1 d1 rr rf hw HB5 HB6
            have uu := hcut.out.2.1.cell i (by rw [HUL.out]; exact hlt)
            have uf := hcut.out.2.1.free i
            have HSETU : Hid (IntRow (wc.setCell ⟨ub, i, none⟩ (.bool true)) lb 3 (left.set i (x - s)) ∧ BoolRow (wc.setCell ⟨ub, i, none⟩ (.bool true)) ub 4 (used.set i true) ∧ Below w4.heap.size w4 (wc.setCell ⟨ub, i, none⟩ (.bool true))) :=
              ⟨hcut.out.1.of_heap (heap_set _ hne), hcut.out.2.1.set i (by rw [HUL.out]; exact hlt) _, hcut.out.2.2.setCell hub4 _⟩
            clear hcut
            go_upto_region 17 with fail
            generalize (wc.setCell ⟨ub, i, none⟩ (.bool true)) = w7 at *
            clear uu uf
            have HBX7 := Lib.hid (HBX4.out.below HSETU.out.2.2)
            have HBW7 := Lib.hid (HBW4.out.trans (HSETU.out.2.2.mono HBW4.out.size))
            have HL7 : Hid (Ints w7 (some ⟨lb, 0, none⟩) n (left.set i (x - s))) := by
              have h := HSETU.out.1.ints
              rw [List.length_set, HLL.out] at h
              exact h
            have HU7 : Hid (Bools w7 (some ⟨ub, 0, none⟩) n (used.set i true)) := by
              have h := HSETU.out.2.1.bools
              rw [List.length_set, HUL.out] at h
              exact h
            have HLB7 : Hid (∀ r, r < n → 0 ≤ ix (left.set i (x - s)) r ∧ ix (left.set i (x - s)) r ≤ 4000) := fun r hr => by
              rw [ix_set _ _ _ _ (by rw [HLL.out]; exact hlt)]
              have := HLB.out r hr
              split <;> omega
            have x0 := HBX7.out.cell 0
            have x1 := HBX7.out.cell 1
            have x2 := HBX7.out.cell 2
            simp only [List.getElem?_toArray, List.getElem?_cons_zero, List.getElem?_cons_succ] at x0 x1 x2
            go_wp2_with fail
            refine (HIH.out (g + 1) (some ⟨lb, 0, none⟩) (some ⟨ub, 0, none⟩) lc1 uc1 (left.set i (x - s)) (used.set i true) w7 HGK.out (HG.out.below HBW7.out) HL7.out HU7.out HLB7.out).mono ?_
            rintro e w8 ⟨rfl, hb8⟩
            have HBX8 := Lib.hid (HBX7.out.below hb8)
            have HBW8 := Lib.hid (HBW7.out.trans (hb8.mono HBW7.out.size))
            have hbz := HBB.out (left.set i (x - s)) (used.set i true)
            obtain ⟨z, hz⟩ : ∃ z, bestF single G k (g + 1) (left.set i (x - s)) (used.set i true) = z := ⟨_, rfl⟩
            rw [hz] at hbz HSTEP
            rw [hz]
            clear x0 x1 x2 hz hb8 HBX7 HBW7 HL7 HU7 HLB7 HSETU HBX4 HBW4
            by_cases h0 : 0 ≤ z
            · have e2 : decide (0 ≤ z) = true := by simp; exact h0
              rw [if_pos h0] at HSTEP
              have x1 := HBX8.out.cell 1
              have d1 := Below.cell_of HBW8.out HD.out.1
              have d2 := Below.cell_of HBW8.out HD.out.2
              simp only [List.getElem?_toArray, List.getElem?_cons_zero, List.getElem?_cons_succ] at x1
              have hm1 : -1 ≤ max out (z + s * v) ∧ max out (z + s * v) ≤ 12000000 * k + 12000000 := by omega
              have hw1 : IntKind.i64.wrap (s * v) = s * v := (i64_left _).trans (wrap64_in _ (by omega))
              have hw2 : IntKind.i64.wrap (z + s * v) = z + s * v := (i64_left _).trans (wrap64_in _ (by omega))
              go_wp2_with fail
              go_quiet (fail)
              clear hw1 hw2
              go_wp2_with fail
              go_roundw
              case rel => exact ⟨i + 1, max out (z + s * v), by go_num, max_if out (z + s * v), by omega, hm1.1, hm1.2, HSTEP, below_drewN HBW8.out _, HBX8.out⟩
              case measure => simp [intOf]; omega
            · have e2 : decide (0 ≤ z) = false := by simp; omega
              rw [if_neg h0] at HSTEP
              go_wp2_with fail
              go_roundw
              case rel => exact ⟨i + 1, out, by go_num, rfl, by omega, hout0, hout1, HSTEP, HBW8.out, HBX8.out⟩
              case measure => simp [intOf]; omega
      · obtain rfl : i = n := by omega
        go_wp2_with fail
        go_ret
        exact ⟨ret_int (HLP.out.symm.trans HFIN.out.symm), HBW.out⟩
end Go.Proofs.Ytaomlhhlefpdeaa
