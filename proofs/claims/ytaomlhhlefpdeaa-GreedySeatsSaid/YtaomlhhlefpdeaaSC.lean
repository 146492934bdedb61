/- foyerlaw24.GreedySeats: the walk. -/
import Derived.Test.YtaomlhhlefpdeaaSB
namespace Go.Proofs.Ytaomlhhlefpdeaa
open Go.RowKit

set_option maxRecDepth 10000 in
set_option maxHeartbeats 3200000 in
theorem seatsLaw_any (ra ga : Option Addr) (n c m d : Nat) (single : Bool) (R : List Int) (G : List (Int × Int)) (w : World)
    (hn : n ≤ 9223372036854775807) (hm : m ≤ 9223372036854775807) (hR : Ints w ra n R) (hG : Pairs w ga m G) (hc : ra = none → c = 0) :
    Calls Try.prog 7 #[.agg #[.slice ra n c, .slice ga m d, .bool single]] w fun e w' => e = .returned (.bool true) ∧ Below w.heap.size w w' := by
  have HR := Lib.hid hR; have HG := Lib.hid hG; have HC := Lib.hid hc
  have hb0 : Below w.heap.size w (w.alloc (.cells #[.slice ra n c, .slice ga m d, .bool single] 25)) := (Below.refl _ _).alloc (Nat.le_refl _) _
  have HBX0 : Hid (Box (w.alloc (.cells #[.slice ra n c, .slice ga m d, .bool single] 25)) w.heap.size 25 #[.slice ra n c, .slice ga m d, .bool single]) := Box.new rfl
  clear hR hG hc
  go_enter Try.func7, Try.ntmps7
  go_wp2_with fail
  refine (head_any _).mono ?_
  rintro e w1 ⟨rfl, hb1⟩
  have hbx := HBX0.out.below hb1
  have hbw : Below w.heap.size w w1 := hb0.trans (hb1.mono hb0.size)
  clear hb0 hb1 HBX0
  have x0 := hbx.cell 0
  have x1 := hbx.cell 1
  have x2 := hbx.cell 2
  simp only [List.getElem?_toArray, List.getElem?_cons_zero, List.getElem?_cons_succ] at x0 x1 x2
  go_wp2_with fail
  refine (small_any ra ga n c m d single w1 hn hm).mono ?_
  rintro e w2 ⟨rfl, hb2⟩
  have hbx2 := hbx.below hb2
  have hbw2 : Below w.heap.size w w2 := hbw.trans (hb2.mono hbw.size)
  clear x0 x1 x2 hb2 hbx hbw
  by_cases hsm : n ≤ 60 ∧ m ≤ 60
  · rw [show decide (n ≤ 60 ∧ m ≤ 60) = true from decide_eq_true hsm]
    obtain ⟨hn60, hm60⟩ := hsm
    clear hn hm
    have x0 := hbx2.cell 0
    have x1 := hbx2.cell 1
    have x2 := hbx2.cell 2
    simp only [List.getElem?_toArray, List.getElem?_cons_zero, List.getElem?_cons_succ] at x0 x1 x2
    by_cases hm0 : m = 0
    · have e1 : ((m : Int) == 0) = true := by simp; exact hm0
      clear hm0
      go_wp2_with fail
      go_ret
      exact ⟨rfl, hbw2⟩
    · have e1 : ((m : Int) == 0) = false := by simp; exact hm0
      have e1' : (m == 0) = false := by simp; exact hm0
      cases hv : validS R G
      · have HV := Lib.hid hv
        clear hv
        go_wp2_with fail
        refine (solve_bad ra ga n c m d single R G w2 (by omega) (by omega) (HR.out.below hbw2) (HG.out.below hbw2) HV.out).mono ?_
        rintro e w3 ⟨rfl, hb3⟩
        have hb4 : Below w.heap.size w (w3.alloc (.cells #[.slice none 0 0, .int .i64 0] 30)) := (hbw2.trans (hb3.mono hbw2.size)).alloc (Nat.le_trans hbw2.size hb3.size) _
        clear x0 x1 x2 hbx2 hb3
        go_wp2
        go_ret
        exact ⟨rfl, hb4⟩
      · have HV := Lib.hid hv
        have hv0 := (solveS_value0 (single := single) hv)
        have HFIRST := Lib.hid (solve_first (single := single) hv)
        have HBEST := Lib.hid (solve_best (single := single) hv)
        have HALL0 : Hid (single = false → 0 < R.length → sumRows (gs G) G.length ≤ ix R 0 → (solveS single R G).value = sumRows (fun k => gs G k * gv G k) G.length) := fun h => by subst h; exact solve_all hv
        have HVP := Lib.hid (validS_parts hv).2.2
        have HRR := Lib.hid (runsOk_sum R 4000 (by omega) (validS_parts hv).1).2.2
        have HLR := Lib.hid HR.out.1
        have HLG := Lib.hid HG.out.1
        clear hv
        go_wp2_with fail
        refine (solve_good ra ga n c m d single R G w2 (by omega) (by omega) (HR.out.below hbw2) (HG.out.below hbw2) HC.out HV.out).mono ?_
        rintro e w3 ⟨sa, sc, rfl, hb3, hS⟩
        obtain ⟨V1, hV1⟩ : ∃ x, (solveS single R G).value = x := ⟨_, rfl⟩
        obtain ⟨bd, hbd⟩ : ∃ x, boundS R G = x := ⟨_, rfl⟩
        rw [hV1, hbd]
        rw [hV1] at hv0 HFIRST HBEST HALL0
        clear hV1 hbd hS
        have HX : Hid (Box (w3.alloc (.cells #[.slice sa m sc, .int .i64 V1] 30)) w.heap.size 25 #[.slice ra n c, .slice ga m d, .bool single] ∧ Box (w3.alloc (.cells #[.slice sa m sc, .int .i64 V1] 30)) w3.heap.size 30 #[.slice sa m sc, .int .i64 V1]) :=
          ⟨(hbx2.below hb3).alloc _, Box.new rfl⟩
        have hb4 : Below w.heap.size w (w3.alloc (.cells #[.slice sa m sc, .int .i64 V1] 30)) := (hbw2.trans (hb3.mono hbw2.size)).alloc (Nat.le_trans hbw2.size hb3.size) _
        clear x0 x1 x2 hbx2 hbw2 hb3
        go_upto_region 5 with fail
        generalize (w3.alloc (.cells #[.slice sa m sc, .int .i64 V1] 30)) = w4 at *
        generalize w3.heap.size = b1 at *
        go_wp2_with fail
        go_loopw [7, 8, 9, 10] (fun v7 v8 v9 v10 wr => ∃ (i b : Nat) (sm al : Int), v10 = .int .i64 i ∧ i ≤ m ∧ v9 = .int .i64 b ∧ b ≤ i ∧ b < m ∧ v7 = .int .i64 sm ∧ v8 = .int .i64 al ∧ 0 ≤ sm ∧ sm ≤ 12 * i ∧ 0 ≤ al ∧ al ≤ 12000000 * i ∧
            Hid (sm = sumRows (gs G) i ∧ al = sumRows (fun k => gs G k * gv G k) i) ∧ Hid ((∀ k, k < i → gv G k ≤ gv G b) ∧ (∀ k, k < b → gv G k < gv G b)) ∧ Hid (Below w4.heap.size w4 wr))
          (fun _ _ _ v10 _ => m - (intOf v10).toNat)
        case atStart => exact ⟨0, 0, 0, 0, rfl, Nat.zero_le _, rfl, Nat.le_refl _, by omega, rfl, rfl, by omega, by omega, by omega, by omega, ⟨rfl, rfl⟩, ⟨fun k hk => absurd hk (by omega), fun k hk => absurd hk (by omega)⟩, Below.refl _ _⟩
        case round =>
          obtain ⟨i, b, sm, al, rfl, hi, rfl, hbi, hbm, rfl, rfl, hs0, hs1, ha0, ha1, HSUM, HMAX, HB⟩ := hrel
          have x0 := (HX.out.1.below HB.out).cell 0
          have x1 := (HX.out.1.below HB.out).cell 1
          have x2 := (HX.out.1.below HB.out).cell 2
          simp only [List.getElem?_toArray, List.getElem?_cons_zero, List.getElem?_cons_succ] at x0 x1 x2
          have HBW := Lib.hid (hb4.trans (HB.out.mono hb4.size))
          by_cases hlt : i < m
          · obtain ⟨bg, og, rfl, c1, c2⟩ := (HG.out.below HBW.out).2 i hlt
            obtain ⟨bg', og', e, _, d2⟩ := (HG.out.below HBW.out).2 b hbm
            obtain ⟨rfl, rfl⟩ : bg = bg' ∧ og = og' := by simpa using e
            have hgi := HVP.out i (by rw [HLG.out]; exact hlt)
            have HN : Hid (sumRows (gs G) (i + 1) = sm + gs G i ∧ sumRows (fun k => gs G k * gv G k) (i + 1) = al + gs G i * gv G i) := by
              rw [HSUM.out.1, HSUM.out.2]; exact ⟨rfl, rfl⟩
            have HM1 : Hid (gv G b < gv G i → (∀ k, k < i + 1 → gv G k ≤ gv G i) ∧ (∀ k, k < i → gv G k < gv G i)) := fun h =>
              ⟨fun k hk => by
                by_cases e : k = i
                · rw [e]; exact Int.le_refl _
                · have := HMAX.out.1 k (by omega); omega,
               fun k hk => by have := HMAX.out.1 k hk; omega⟩
            have HM2 : Hid (¬ gv G b < gv G i → (∀ k, k < i + 1 → gv G k ≤ gv G b) ∧ (∀ k, k < b → gv G k < gv G b)) := fun h =>
              ⟨fun k hk => by
                by_cases e : k = i
                · rw [e]; omega
                · exact HMAX.out.1 k (by omega), HMAX.out.2⟩
            obtain ⟨s, hs⟩ : ∃ x, gs G i = x := ⟨_, rfl⟩
            obtain ⟨v, hv2⟩ : ∃ x, gv G i = x := ⟨_, rfl⟩
            obtain ⟨u, hu⟩ : ∃ x, gv G b = x := ⟨_, rfl⟩
            rw [hs] at c1 hgi HN; rw [hv2] at c2 hgi HN HM1 HM2; rw [hu] at d2 HM1 HM2
            have HU := Lib.hid hu; have HV2 := Lib.hid hv2
            clear hs hv2 hu e HMAX HSUM
            have p0 : 0 ≤ s * v := Int.mul_nonneg (by omega) (by omega)
            have p1 : s * v ≤ 12 * v := Int.mul_le_mul_of_nonneg_right hgi.1.2 hgi.2.1
            by_cases hgt : u < v
            · have e2 : decide (u < v) = true := by simp; omega
              have HM := Lib.hid (HM1.out hgt)
              clear HM1 HM2 x0 x2
              go_wp2_with fail
              go_quiet (fail)
              go_wp2_with fail
              go_quiet (fail)
              go_wp2
              go_roundw
              case rel => exact ⟨i + 1, i, _, _, by go_num, by omega, rfl, by omega, hlt, rfl, rfl, by omega, by omega, by omega, by omega, ⟨HN.out.1.symm, HN.out.2.symm⟩, by have h := HM; rw [← HV2.out] at h; exact h, below_drewN HB.out _⟩
              case measure => simp [intOf]; omega
            · have e2 : decide (u < v) = false := by simp; omega
              have HM := Lib.hid (HM2.out hgt)
              clear HM1 HM2 x0 x2
              go_wp2_with fail
              go_quiet (fail)
              go_wp2_with fail
              go_quiet (fail)
              go_wp2
              go_roundw
              case rel => exact ⟨i + 1, b, _, _, by go_num, by omega, rfl, by omega, hbm, rfl, rfl, by omega, by omega, by omega, by omega, ⟨HN.out.1.symm, HN.out.2.symm⟩, by have h := HM; rw [← HU.out] at h; exact h, below_drewN HB.out _⟩
              case measure => simp [intOf]; omega
          · have HSM : Hid (sm = sumRows (gs G) m ∧ al = sumRows (fun k => gs G k * gv G k) m) := by
              have := HSUM.out
              rwa [show i = m from by omega] at this
            have HMX : Hid ((∀ k, k < m → gv G k ≤ gv G b) ∧ (∀ k, k < b → gv G k < gv G b)) := by
              have := HMAX.out
              rwa [show i = m from by omega] at this
            clear HSUM HMAX
            have hmp : 0 < m := by omega
            have HAL : Hid (single = false → 0 < n → sm ≤ ix R 0 → V1 = al) := by
              have h := HALL0.out
              rw [HLR.out, HLG.out, ← HSM.out.1, ← HSM.out.2] at h
              exact h
            have z1 := (HX.out.2.below HB.out).cell 1
            simp only [List.getElem?_toArray, List.getElem?_cons_zero, List.getElem?_cons_succ] at z1
            go_upto_region 15 with fail
            go_cut [97] (fun v97 wx => v97 = .bool false ∧ wx = wr)
            case first =>
              by_cases hn0 : 0 < n
              · cases single
                · obtain ⟨rb, ro, rfl, r1⟩ := (HR.out.below HBW.out).2 0 hn0
                  obtain ⟨z, hz⟩ : ∃ x, ix R 0 = x := ⟨_, rfl⟩
                  rw [hz] at r1 HAL
                  clear hz
                  have r1 : wr.cell? ⟨rb, ro, none⟩ = some (.int .i64 z) := by simpa using r1
                  by_cases hle : sm ≤ z
                  · have hva := HAL.out rfl hn0 hle
                    have e2 : (V1 != al) = false := by simp; exact hva
                    clear hva
                    go_wp2_with fail
                    go_meet
                    case rel => exact ⟨rfl, rfl⟩
                  · have e2 : decide (sm ≤ z) = false := by simp; omega
                    go_wp2_with fail
                    go_meet
                    case rel => exact ⟨rfl, rfl⟩
                · go_wp2_with fail
                  go_meet
                  case rel => exact ⟨rfl, rfl⟩
              · have e2 : decide ((0 : Int) < (n : Int)) = false := by simp; omega
                go_wp2_with fail
                go_meet
                case rel => exact ⟨rfl, rfl⟩
            case rest =>
              obtain ⟨rfl, rfl⟩ := hcut
              obtain ⟨bg, og, rfl, c1, c2⟩ := (HG.out.below HBW.out).2 0 hmp
              obtain ⟨bg', og', e, d1, d2⟩ := (HG.out.below HBW.out).2 b hbm
              obtain ⟨rfl, rfl⟩ : bg = bg' ∧ og = og' := by simpa using e
              have hg0 := HVP.out 0 (by rw [HLG.out]; exact hmp)
              have hgb := HVP.out b (by rw [HLG.out]; exact hbm)
              have HF : Hid (Alone single R (gs G 0) → gs G 0 * gv G 0 ≤ V1) := HFIRST.out (by rw [HLG.out]; exact hmp)
              have HBB : Hid (Alone single R (gs G b) → gs G b * gv G b ≤ V1) := HBEST.out b (by rw [HLG.out]; exact hbm) (by rw [HLG.out]; exact HMX.out.1) HMX.out.2
              obtain ⟨s0, hs0'⟩ : ∃ x, gs G 0 = x := ⟨_, rfl⟩
              obtain ⟨v0, hv0'⟩ : ∃ x, gv G 0 = x := ⟨_, rfl⟩
              obtain ⟨sb, hsb'⟩ : ∃ x, gs G b = x := ⟨_, rfl⟩
              obtain ⟨vb, hvb'⟩ : ∃ x, gv G b = x := ⟨_, rfl⟩
              rw [hs0'] at c1 hg0 HF; rw [hv0'] at c2 hg0 HF; rw [hsb'] at d1 hgb HBB; rw [hvb'] at d2 hgb HBB
              have c1 : wc.cell? ⟨bg, og, none⟩ = some (.int .i64 s0) := by simpa using c1
              have c2 : wc.cell? ⟨bg, og + 1, none⟩ = some (.int .i64 v0) := by simpa using c2
              have HAC : Hid (∀ s v, (s = s0 ∧ v = v0) ∨ (s = sb ∧ v = vb) → ∀ wx, Below wc.heap.size wc wx → Calls Try.prog 23 #[.agg #[.slice ra n c, .slice (some ⟨bg, og, none⟩) m d, .bool single], .agg #[.int .i64 s, .int .i64 v]] wx fun e w' => ∃ a, e = .returned (.int .i64 a) ∧ a ≤ V1 ∧ Below wx.heap.size wx w') := by
                intro s v h wx hb
                have hRx := HR.out.below (HBW.out.trans (hb.mono HBW.out.size))
                rcases h with ⟨rfl, rfl⟩ | ⟨rfl, rfl⟩
                · exact alone_any ra _ n c m d single R _ _ V1 wx (by omega) hRx hg0.1 hg0.2 hv0 HF.out
                · exact alone_any ra _ n c m d single R _ _ V1 wx (by omega) hRx hgb.1 hgb.2 hv0 HBB.out
              have X0 := Lib.hid x0; have X1 := Lib.hid x1; have X2 := Lib.hid x2; have Z1 := Lib.hid z1; have C1 := Lib.hid c1; have C2 := Lib.hid c2; have D1 := Lib.hid d1; have D2 := Lib.hid d2
              clear hs0' hv0' hsb' hvb' HF HBB HFIRST HBEST HALL0 HAL HMX HSM HVP HRR hg0 hgb e
              go_upto_region 17 with fail
              go_region_held3 (fun w' => w'.cell? ⟨w.heap.size, 0, none⟩ = some (.slice ra n c) ∧ w'.cell? ⟨w.heap.size, 1, none⟩ = some (.slice (some ⟨bg, og, none⟩) m d) ∧ w'.cell? ⟨w.heap.size, 2, none⟩ = some (.bool single) ∧ w'.cell? ⟨b1, 1, none⟩ = some (.int .i64 V1) ∧
                  w'.cell? ⟨bg, og, none⟩ = some (.int .i64 s0) ∧ w'.cell? ⟨bg, og + 1, none⟩ = some (.int .i64 v0) ∧ w'.cell? ⟨bg, og + b * 2, none⟩ = some (.int .i64 sb) ∧ w'.cell? ⟨bg, og + b * 2 + 1, none⟩ = some (.int .i64 vb)) (go_keep)
                (first
                  | (go_at_call 23; refine (HAC.out _ _ (by first | exact Or.inl ⟨rfl, rfl⟩ | exact Or.inr ⟨rfl, rfl⟩) _ (by first | exact hB1 | exact (Below.refl _ _).drew)).mono ?_; rintro e w7 ⟨a1, rfl, ha1, hb7⟩; have hB1 : Below wc.heap.size wc w7 := (by first | exact hB1.trans (hb7.mono hB1.size) | exact ((Below.refl _ _).drew).trans hb7); have y0 := Below.cell_of hB1 X0.out; have y1 := Below.cell_of hB1 X1.out; have y2 := Below.cell_of hB1 X2.out; have y3 := Below.cell_of hB1 Z1.out; have y4 := Below.cell_of hB1 C1.out; have y5 := Below.cell_of hB1 C2.out; have y6 := Below.cell_of hB1 D1.out; have y7 := Below.cell_of hB1 D2.out))
              go_wp2
              go_ret
              exact ⟨rfl, HBW.out.trans (hB1.mono HBW.out.size)⟩
  · rw [show decide (n ≤ 60 ∧ m ≤ 60) = false from decide_eq_false hsm]
    clear hsm hbx2
    go_wp2
    go_ret
    exact ⟨rfl, hbw2⟩
end Go.Proofs.Ytaomlhhlefpdeaa
