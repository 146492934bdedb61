/- foyerlaw01.MoneyShares: the walk. -/
import Derived.Test.YtiapfpdkcdhhoaaDoorMH
namespace Go.Proofs.YtiapfpdkcdhhoaaDoor
open Go.RowKit Go.IntWalk

theorem share_ok {n num den : Int} (h1 : amtB n = true) (h2 : inB num 0 1000000 = true) (h3 : inB den 1 1000000 = true) :
    shareS n num den = if amtB (roundS (n * num) den) = true then (roundS (n * num) den, 0) else (0, 2) := by
  unfold shareS
  rw [if_pos ⟨h1, h2, h3⟩]

theorem share_same {n den : Int} (h1 : amtB n = true) (h3 : inB den 1 1000000 = true) : shareS n den den = (n, 0) := by
  have hd : 1 ≤ den ∧ den ≤ 1000000 := by unfold inB at h3; simpa using h3
  rw [share_ok h1 (by unfold inB; simp; omega) h3, round_mul (by omega), if_pos h1]

theorem share_bad {n num den : Int} (h : ¬ (amtB n = true ∧ inB num 0 1000000 = true ∧ inB den 1 1000000 = true)) : shareS n num den = (0, 1) := by
  unfold shareS
  rw [if_neg h]

theorem share_g0 {n num den c : Int} (h : shareS n num den = (c, 0)) : c = roundS (n * num) den := by
  unfold shareS at h
  split at h
  · split at h
    · exact (Prod.mk.inj h).1.symm
    · simp at h
  · simp at h

set_option maxRecDepth 20000 in
set_option maxHeartbeats 6400000 in
theorem moneyShares_any (n m num den : Int) (w : World) (hk : Kit w) (hn : -9223372036854775808 ≤ n ∧ n ≤ 9223372036854775807) (_hm : -9223372036854775808 ≤ m ∧ m ≤ 9223372036854775807) :
    Calls Tryd.prog 3 #[.int .i64 n, .int .i64 m, .agg #[.int .i64 num, .int .i64 den]] w (LawPost w) := by
  have HK := Lib.hid hk
  clear hk
  go_enter Tryd.func3, Tryd.ntmps3
  go_upto_region 1 with fail
  have HB : Hid (Below w.heap.size w (w.alloc (.cells #[.int .i64 num, .int .i64 den] 23))) := al _ _
  have HX : Hid (Box0 (w.alloc (.cells #[.int .i64 num, .int .i64 den] 23)) w.heap.size num den) := ⟨by simp [World.cell?_alloc_new], by simp [World.cell?_alloc_new]⟩
  generalize (w.alloc (.cells #[.int .i64 num, .int .i64 den] 23)) = u0 at *
  go_wp2_with fail
  refine (head_any u0 (HK.out.below HB.out)).mono ?_
  rintro e u1 ⟨rfl, hb⟩
  have HB1 := Lib.hid (HB.out.trans (hb.mono HB.out.size))
  have x0 := Below.cell_of hb HX.out.1
  have x1 := Below.cell_of hb HX.out.2
  clear HB HX hb
  obtain ⟨⟨a, ea⟩, hA⟩ : ∃ p, shareS n num den = p := ⟨_, rfl⟩
  have HA := Lib.hid hA
  clear hA
  go_wp2_with fail
  refine (share_known n num den a ea _ HA.out).mono ?_
  rintro e u2 ⟨rfl, hb⟩
  have HB2 := Lib.hid (HB1.out.trans (hb.mono HB1.out.size))
  have y0 := Below.cell_of hb x0
  have y1 := Below.cell_of hb x1
  clear x0 x1 hb HB1
  obtain ⟨n', hn'⟩ : ∃ z, IntKind.i64.wrap (-n) = z := ⟨_, rfl⟩
  have HN' := Lib.hid hn'
  obtain ⟨⟨b, eb⟩, hB⟩ : ∃ p, shareS n' num den = p := ⟨_, rfl⟩
  have HBB := Lib.hid hB
  clear hB
  go_wp2_with fail
  refine (share_known n' num den b eb _ HBB.out).mono ?_
  rintro e u3 ⟨rfl, hb⟩
  have HB3 := Lib.hid (HB2.out.trans (hb.mono HB2.out.size))
  have x0 := Below.cell_of hb y0
  have x1 := Below.cell_of hb y1
  clear y0 y1 hb HB2 hn'
  obtain ⟨⟨c, ec⟩, hC⟩ : ∃ p, shareS m num den = p := ⟨_, rfl⟩
  have HC := Lib.hid hC
  clear hC
  go_wp2_with fail
  refine (share_known m num den c ec _ HC.out).mono ?_
  rintro e u4 ⟨rfl, hb⟩
  have HB4 := Lib.hid (HB3.out.trans (hb.mono HB3.out.size))
  have y0 := Below.cell_of hb x0
  have y1 := Below.cell_of hb x1
  clear x0 x1 hb HB3
  by_cases hok : amtB n = true ∧ inB num 0 1000000 = true ∧ inB den 1 1000000 = true
  · have hamt := (amtB_iff n).mp hok.1
    unfold Amt at hamt
    have hnum : 0 ≤ num ∧ num ≤ 1000000 := by have := hok.2.1; unfold inB at this; simpa using this
    have hden : 1 ≤ den ∧ den ≤ 1000000 := by have := hok.2.2; unfold inB at this; simpa using this
    obtain rfl : n' = -n := by rw [← HN'.out]; exact i64_in _ (by omega)
    have hA := HA.out
    rw [share_ok hok.1 hok.2.1 hok.2.2] at hA
    have hB := HBB.out
    rw [share_ok (by rw [amt_neg]; exact hok.1) hok.2.1 hok.2.2, Int.neg_mul, round_neg (by omega), amt_neg] at hB
    have hsame := share_same hok.1 hok.2.2
    have hpr := prod_range hamt hnum.1 hnum.2
    have hnear := round_near (x := n * num) (d := den) (by omega)
    have hmono1 : Hid (n ≤ m → roundS (n * num) den ≤ roundS (m * num) den) := fun h => round_mono (by omega) (Int.mul_le_mul_of_nonneg_right h hnum.1)
    have hmono2 : Hid (m ≤ n → roundS (m * num) den ≤ roundS (n * num) den) := fun h => round_mono (by omega) (Int.mul_le_mul_of_nonneg_right h hnum.1)
    have HG : Hid (ec = 0 → c = roundS (m * num) den) := fun h => by subst h; exact share_g0 HC.out
    obtain ⟨z, hz⟩ : ∃ z, roundS (n * num) den = z := ⟨_, rfl⟩
    rw [hz] at hA hB hnear hmono1 hmono2
    have HSAME := Lib.hid hsame
    clear hsame hz HC HA HBB HN'
    have hea : (amtB z = true ∧ a = z ∧ ea = 0 ∧ b = -z ∧ eb = 0) ∨ (amtB z = false ∧ a = 0 ∧ ea = 2 ∧ b = 0 ∧ eb = 2) := by
      cases hz : amtB z with
      | true => rw [hz, if_pos rfl, Prod.mk.injEq] at hA hB; exact .inl ⟨rfl, hA.1.symm, hA.2.symm, hB.1.symm, hB.2.symm⟩
      | false => rw [hz, if_neg (by simp), Prod.mk.injEq] at hA hB; exact .inr ⟨rfl, hA.1.symm, hA.2.symm, hB.1.symm, hB.2.symm⟩
    clear hA hB
    rcases hea with ⟨haz, rfl, rfl, rfl, rfl⟩ | ⟨haz, rfl, rfl, rfl, rfl⟩
    · have hzr := (amtB_iff a).mp haz
      unfold Amt at hzr
      have HAZ := Lib.hid haz
      have HOK := Lib.hid hok
      have HNEAR := Lib.hid hnear
      clear haz hok hnear
      go_wp2_with fail
      refine (share_known n den den n 0 _ HSAME.out).mono ?_
      rintro e u5 ⟨rfl, hb⟩
      have HB5 := Lib.hid (HB4.out.trans (hb.mono HB4.out.size))
      have x0 := Below.cell_of hb y0
      have x1 := Below.cell_of hb y1
      clear y0 y1 hb HB4
      have hq1 : -1000000000000000 ≤ a * den ∧ a * den ≤ 1000000000000000 := by
        have h1 := Int.mul_le_mul_of_nonneg_right hzr.1 (show 0 ≤ den by omega)
        have h2 := Int.mul_le_mul_of_nonneg_right hzr.2 (show 0 ≤ den by omega)
        omega
      obtain ⟨y, hy⟩ : ∃ y, a * den = y := ⟨_, rfl⟩
      obtain ⟨x, hx⟩ : ∃ x, n * num = x := ⟨_, rfl⟩
      rw [hy, hx] at HNEAR
      rw [hx] at hpr
      rw [hy] at hq1
      have w1' : IntKind.i64.wrap y = y := i64_in _ (by omega)
      have w2' : IntKind.i64.wrap x = x := i64_in _ (by omega)
      go_upto_region 13 with fail
      clear w1' w2' hpr hq1
      obtain ⟨t, ht⟩ : ∃ t, 2 * (y - x) = t := ⟨_, rfl⟩
      have htr : -den ≤ t ∧ t ≤ den := by have := HNEAR.out; omega
      rw [ht] at HNEAR
      simp only [ht]
      obtain ⟨d, hd⟩ : ∃ d, max t (-t) = d := ⟨_, rfl⟩
      have hdr : 0 ≤ d ∧ d ≤ den := by omega
      have HD : Hid (d = den → a % 2 = 0) := fun h => HNEAR.out.2.2 (by omega)
      go_upto_region 14 with fail
      have f1 : decide (den < d) = false := by simp; omega
      have key : ∀ q : Bool, (d == den) = q → q = true → (a.tmod 2 != 0) = false := by
        rintro q hq rfl
        have h1 : d = den := by simpa using hq
        have := (tmod_two a).mpr (HD.out h1)
        simp; exact this
      have KEY := Lib.hid key
      clear key
      have HMN : Hid (ec ≠ 0 ∨ (ec = 0 ∧ n ≤ m ∧ a ≤ c) ∨ (ec = 0 ∧ ¬ n ≤ m ∧ m ≤ n ∧ c ≤ a)) := by
        by_cases h0 : ec = 0
        · have hc := HG.out h0
          by_cases h : n ≤ m
          · exact .inr (.inl ⟨h0, h, by rw [hc]; exact hmono1.out h⟩)
          · exact .inr (.inr ⟨h0, h, by omega, by rw [hc]; exact hmono2.out (by omega)⟩)
        · exact .inl h0
      clear HNEAR HD hmono1 hmono2 HG hd ht htr hdr HOK
      obtain ⟨q, hq⟩ : ∃ q, (d == den) = q := ⟨_, rfl⟩
      have HK2 := Lib.hid (KEY.out q hq)
      clear KEY
      cases q
      · rcases HMN.out with h0 | ⟨rfl, h1, h2⟩ | ⟨rfl, h1, h2, h3⟩
        · have g1 : (ec != 0) = true := by simp; exact h0
          go_wp2_with fail
          refine (mvalid_any a u5).mono ?_
          rintro e w' ⟨rfl, rfl⟩
          rw [HAZ.out]
          go_wp2_with fail
          go_ret
          exact ⟨rfl, HB5.out⟩
        · have g1 : decide (n ≤ m) = true := by simp; exact h1
          have g2 : decide (a ≤ c) = true := by simp; exact h2
          go_wp2_with fail
          refine (mvalid_any a u5).mono ?_
          rintro e w' ⟨rfl, rfl⟩
          rw [HAZ.out]
          go_wp2_with fail
          go_ret
          exact ⟨rfl, HB5.out⟩
        · have g1 : decide (n ≤ m) = false := by simp; omega
          have g2 : decide (m ≤ n) = true := by simp; exact h2
          have g3 : decide (c ≤ a) = true := by simp; exact h3
          go_wp2_with fail
          refine (mvalid_any a u5).mono ?_
          rintro e w' ⟨rfl, rfl⟩
          rw [HAZ.out]
          go_wp2_with fail
          go_ret
          exact ⟨rfl, HB5.out⟩
      · have hev := HK2.out rfl
        rcases HMN.out with h0 | ⟨rfl, h1, h2⟩ | ⟨rfl, h1, h2, h3⟩
        · have g1 : (ec != 0) = true := by simp; exact h0
          go_wp2_with fail
          refine (mvalid_any a u5).mono ?_
          rintro e w' ⟨rfl, rfl⟩
          rw [HAZ.out]
          go_wp2_with fail
          go_ret
          exact ⟨rfl, HB5.out⟩
        · have g1 : decide (n ≤ m) = true := by simp; exact h1
          have g2 : decide (a ≤ c) = true := by simp; exact h2
          go_wp2_with fail
          refine (mvalid_any a u5).mono ?_
          rintro e w' ⟨rfl, rfl⟩
          rw [HAZ.out]
          go_wp2_with fail
          go_ret
          exact ⟨rfl, HB5.out⟩
        · have g1 : decide (n ≤ m) = false := by simp; omega
          have g2 : decide (m ≤ n) = true := by simp; exact h2
          have g3 : decide (c ≤ a) = true := by simp; exact h3
          go_wp2_with fail
          refine (mvalid_any a u5).mono ?_
          rintro e w' ⟨rfl, rfl⟩
          rw [HAZ.out]
          go_wp2_with fail
          go_ret
          exact ⟨rfl, HB5.out⟩
    · clear hmono1 hmono2 HG hnear haz hpr hok
      go_wp2_with fail
      refine (share_known n den den n 0 _ HSAME.out).mono ?_
      rintro e u5 ⟨rfl, hb⟩
      have HB5 := Lib.hid (HB4.out.trans (hb.mono HB4.out.size))
      clear hb HB4
      go_wp2_with fail
      go_ret
      exact ⟨rfl, HB5.out⟩
  · have hA := HA.out
    rw [share_bad hok, Prod.mk.injEq] at hA
    obtain ⟨rfl, rfl⟩ := hA
    have HNO := Lib.hid hok
    clear HA HBB HC HN' hok
    obtain ⟨v, hv⟩ : ∃ v, amtB n = v := ⟨_, rfl⟩
    have HV := Lib.hid hv
    have hcase : v = false ∨ (v = true ∧ (num < 0 ∨ (0 ≤ num ∧ 1000000 < num) ∨ (0 ≤ num ∧ num ≤ 1000000 ∧ den < 1) ∨ (0 ≤ num ∧ num ≤ 1000000 ∧ 1 ≤ den ∧ 1000000 < den))) := by
      cases v
      · exact .inl rfl
      · right
        refine ⟨rfl, ?_⟩
        have := HNO.out
        rw [hv] at this
        unfold inB at this
        simp at this
        omega
    clear hv
    rcases hcase with rfl | ⟨rfl, h | ⟨h1, h2⟩ | ⟨h1, h2, h3⟩ | ⟨h1, h2, h3, h4⟩⟩
    · go_wp2_with fail
      refine (mvalid_any n u4).mono ?_
      rintro e w' ⟨rfl, rfl⟩
      rw [HV.out]
      go_wp2_with fail
      go_ret
      exact ⟨rfl, HB4.out⟩
    · have f1 : decide (num < 0) = true := by simp; exact h
      go_wp2_with fail
      refine (mvalid_any n u4).mono ?_
      rintro e w' ⟨rfl, rfl⟩
      rw [HV.out]
      go_wp2_with fail
      go_ret
      exact ⟨rfl, HB4.out⟩
    · have f1 : decide (num < 0) = false := by simp; omega
      have f2 : decide (1000000 < num) = true := by simp; exact h2
      go_wp2_with fail
      refine (mvalid_any n u4).mono ?_
      rintro e w' ⟨rfl, rfl⟩
      rw [HV.out]
      go_wp2_with fail
      go_ret
      exact ⟨rfl, HB4.out⟩
    · have f1 : decide (num < 0) = false := by simp; omega
      have f2 : decide (1000000 < num) = false := by simp; omega
      have f3 : decide (den < 1) = true := by simp; omega
      go_wp2_with fail
      refine (mvalid_any n u4).mono ?_
      rintro e w' ⟨rfl, rfl⟩
      rw [HV.out]
      go_wp2_with fail
      go_ret
      exact ⟨rfl, HB4.out⟩
    · have f1 : decide (num < 0) = false := by simp; omega
      have f2 : decide (1000000 < num) = false := by simp; omega
      have f3 : decide (den < 1) = false := by simp; omega
      have f4 : decide (1000000 < den) = true := by simp; exact h4
      go_wp2_with fail
      refine (mvalid_any n u4).mono ?_
      rintro e w' ⟨rfl, rfl⟩
      rw [HV.out]
      go_wp2_with fail
      go_ret
      exact ⟨rfl, HB4.out⟩
end Go.Proofs.YtiapfpdkcdhhoaaDoor
