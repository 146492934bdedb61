/- foyerlaw01.MoneySplits: the walk. -/
import Derived.Test.YtiapfpdkcdhhoaaDoorMH
import Derived.Test.YtiapfpdkcdhhoaaDoorLP0
namespace Go.Proofs.YtiapfpdkcdhhoaaDoor
open Go.RowKit Go.IntWalk

set_option maxRecDepth 20000 in
set_option maxHeartbeats 6400000 in
theorem moneySplits_any (n : Int) (ra : Option Addr) (k c : Nat) (W : List Int) (w : World) (hk : Kit w) (_hn : -9223372036854775808 ≤ n ∧ n ≤ 9223372036854775807) (hkm : k ≤ 9223372036854775807) (hW : Ints w ra k W) :
    Calls Tryd.prog 4 #[.int .i64 n, .slice ra k c] w (LawPost w) := by
  have HK := Lib.hid hk
  have HW := Lib.hid hW
  have HL := Lib.hid hW.1
  clear hk hW
  go_enter Tryd.func4, Tryd.ntmps4
  go_wp2_with fail
  refine (head_any w HK.out).mono ?_
  rintro e w1 ⟨rfl, hb⟩
  have HB := Lib.hid hb
  have HW1 := Lib.hid (HW.out.below hb)
  clear hb HW HK
  by_cases hlen : 100 < k
  · have f1 : decide (100 < k) = true := by simp; exact hlen
    go_wp2_with fail
    go_ret
    exact ⟨rfl, HB.out⟩
  have f1 : decide (100 < k) = false := by simp; omega
  have hk100 : k ≤ 100 := by omega
  clear hlen
  have HSP := Lib.hid (split_any n ra k c W w1 hk100 HW1.out)
  go_wp2_with fail
  refine HSP.out.mono ?_
  rintro e w2 ⟨hb, hp⟩
  have HB2 := Lib.hid (HB.out.trans (hb.mono HB.out.size))
  have HW2 := Lib.hid (HW1.out.below hb)
  clear hb HB HW1 HSP
  rcases hp with ⟨_, rfl⟩ | ⟨hyes, g, rfl, _, hr⟩
  · go_wp2_with fail
    go_ret
    exact ⟨rfl, HB2.out⟩
  have hnum := split_nums hyes (by rw [HL.out]; exact hk100)
  have HAM := Lib.hid hnum.1
  have HNM := Lib.hid hnum.2
  have hI := hr.ints
  have hSl := splitS_length n W
  rw [hSl] at hI
  have HTOT := Lib.hid (split_total hnum.2)
  have HPF := Lib.hid (split_part hnum.1 hnum.2)
  have hpos := hnum.2.pos
  have hall := hnum.2.all_le
  obtain ⟨S, hS⟩ : ∃ S, splitS n W = S := ⟨_, rfl⟩
  rw [hS] at hI HTOT HPF hSl
  rw [HL.out] at hI HTOT HPF hSl ⊢
  have HS := Lib.hid hI
  have HSL := Lib.hid hSl
  have HT1 := Lib.hid (total_any ra k c W w2 (by omega) HW2.out (fun i hi => by have := hnum.2.each i (by rw [HL.out]; exact hi); omega))
  have HT2 := Lib.hid (total_any (some ⟨g, 0, none⟩) k k S w2 (by omega) HS.out (fun i hi => by have := HPF.out i hi; have a := this.lo; have b := this.hi; omega))
  have hsa : sumN (ix W) k = allW W := by unfold allW; rw [HL.out]
  rw [hsa] at HT1
  rw [HTOT.out] at HT2
  obtain ⟨al, hal⟩ : ∃ z, allW W = z := ⟨_, rfl⟩
  rw [hal] at HT1 HPF hpos hall
  have hnr := hnum.1
  unfold Amt at hnr
  clear hal hsa hS hI hSl hr hnum hyes
  have f2 : decide (al ≤ 0) = false := by simp; omega
  have f3 : (k != k) = false := by simp
  go_wp2_with fail
  refine HT1.out.mono ?_
  rintro e w' ⟨rfl, rfl⟩
  go_wp2_with fail
  refine HT2.out.mono ?_
  rintro e w' ⟨rfl, rfl⟩
  have f4 : (n != n) = false := by simp
  go_wp2_with fail
  clear HT1 HT2
  go_loopw [9] (fun v9 wr => ∃ i : Nat, v9 = .int .i64 i ∧ i ≤ k ∧ Hid (∃ q, wr = w2.drewN q)) (fun v9 _ => k - (intOf v9).toNat)
  case atStart => exact ⟨0, rfl, Nat.zero_le _, 0, rfl⟩
  case round =>
    obtain ⟨i, rfl, hi, HQ⟩ := hrel
    by_cases hlt : i < k
    · obtain ⟨q, hq⟩ := HQ.out
      have hbq : Below w2.heap.size w2 wr := by rw [hq]; exact below_drewN (Below.refl _ _) q
      obtain ⟨b1, o1, hra, c1⟩ := (HW2.out.below hbq).2 i hlt
      subst hra
      obtain ⟨b2, o2, hra2, c2⟩ := (HS.out.below hbq).2 i hlt
      obtain ⟨rfl, rfl⟩ : g = b2 ∧ 0 = o2 := by simpa using hra2
      have F := HPF.out i hlt
      obtain ⟨x, hx⟩ : ∃ z, ix W i = z := ⟨_, rfl⟩
      obtain ⟨l, hl⟩ : ∃ z, ix S i = z := ⟨_, rfl⟩
      have hxr := HNM.out.each i (by rw [HL.out]; exact hlt)
      rw [hx] at c1 F hxr
      rw [hl] at c2 F
      rw [Nat.zero_add] at c2
      have HF := Lib.hid F
      have hl1 := F.lo
      have hl2 := F.hi
      have t1 : ((x == 0) = false ∨ (x == 0) = true ∧ (l != 0) = false) := by
        by_cases h : x = 0
        · right; exact ⟨by simp; exact h, by simp; exact F.zero h⟩
        · left; simp; exact h
      have t2 : (decide (0 ≤ n) = false ∨ decide (0 ≤ n) = true ∧ decide (l < 0) = false) := by
        by_cases h : 0 ≤ n
        · right; exact ⟨by simp; exact h, by simp; exact F.pos h⟩
        · left; simp; omega
      have t3 : (decide (n ≤ 0) = false ∨ decide (n ≤ 0) = true ∧ decide (0 < l) = false) := by
        by_cases h : n ≤ 0
        · right; exact ⟨by simp; exact h, by simp; exact F.neg h⟩
        · left; simp; omega
      have T1 := Lib.hid t1
      have T2 := Lib.hid t2
      have T3 := Lib.hid t3
      have hnear := F.near
      obtain ⟨y, hy⟩ : ∃ z, n * x = z := ⟨_, rfl⟩
      obtain ⟨v, hv⟩ : ∃ z, l * al = z := ⟨_, rfl⟩
      rw [hy, hv] at hnear
      have hyr : -1000000000000000000 ≤ y ∧ y ≤ 1000000000000000000 := by
        rw [← hy]
        have a1 := Int.mul_le_mul_of_nonneg_right hnr.1 hxr.1
        have a2 := Int.mul_le_mul_of_nonneg_right hnr.2 hxr.1
        omega
      have hvr : -1000000200000000000 ≤ v ∧ v ≤ 1000000200000000000 := by omega
      have w1' : IntKind.i64.wrap y = y := i64_in _ (by omega)
      have w2' : IntKind.i64.wrap v = v := i64_in _ (by omega)
      have w3' : IntKind.i64.wrap (v - y) = v - y := i64_in _ (by omega)
      have w4' : IntKind.i64.wrap (-al) = -al := i64_in _ (by omega)
      have e1 : decide (al ≤ v - y) = false := by simp; omega
      have e2 : decide (v - y ≤ -al) = false := by simp; omega
      have W5 : Hid ((IntKind.i64.wrap y = y ∧ IntKind.i64.wrap v = v) ∧ (IntKind.i64.wrap (v - y) = v - y ∧ IntKind.i64.wrap (-al) = -al) ∧ decide (al ≤ v - y) = false ∧ decide (v - y ≤ -al) = false ∧ n * x = y ∧ l * al = v) := ⟨⟨w1', w2'⟩, ⟨w3', w4'⟩, e1, e2, hy, hv⟩
      clear w1' w2' w3' w4' e1 e2 hy hv t1 t2 t3 hx hl hra2 F hnear hyr hvr  hq hbq
      have HBN : Hid (∀ m, ∃ q, wr.drewN m = w2.drewN q) := fun m => by
        obtain ⟨q', hq'⟩ := HQ.out
        exact ⟨q' + m, by rw [hq']; exact World.drewN_drewN ..⟩
      have hst : (decide (0 ≤ n) = false ∧ decide (n ≤ 0) = true ∧ decide (0 < l) = false) ∨ (decide (0 ≤ n) = true ∧ decide (l < 0) = false ∧ decide (n ≤ 0) = false) ∨ (decide (0 ≤ n) = true ∧ decide (l < 0) = false ∧ decide (n ≤ 0) = true ∧ decide (0 < l) = false) := by
        rcases T2.out with t | ⟨t, u⟩
        · rcases T3.out with t' | ⟨t', u'⟩
          · simp at t t'; omega
          · exact .inl ⟨t, t', u'⟩
        · rcases T3.out with t' | ⟨t', u'⟩
          · exact .inr (.inl ⟨t, u, t'⟩)
          · exact .inr (.inr ⟨t, u, t', u'⟩)
      have HTT := Lib.hid hst
      clear hst T2 T3 HQ
      by_cases hal : al ≤ 1000000000
      · have g1 : decide (al ≤ 1000000000) = true := by simp; exact hal
        rcases T1.out with t | ⟨t, t'⟩
        all_goals
          rcases HTT.out with ⟨u1, u2, u3⟩ | ⟨u1, u2, u3⟩ | ⟨u1, u2, u3, u4⟩
          all_goals
            clear HTT T1
            go_upto_region 15 with fail
            have w1' := W5.out.1.1
            have w2' := W5.out.1.2
            have w3' := W5.out.2.1.1
            have w4' := W5.out.2.1.2
            have e1 := W5.out.2.2.1
            have e2 := W5.out.2.2.2.1
            have hy := W5.out.2.2.2.2.1
            have hv := W5.out.2.2.2.2.2
            go_wp2_with fail
            go_quiet (fail)
            clear w1' w2' w3' w4' e1 e2 hy hv
            go_wp2_with fail
            go_roundw
            case rel => exact ⟨i + 1, by go_num, by omega, HBN.out _⟩
            case measure => simp [intOf]; omega
      · have g1 : decide (al ≤ 1000000000) = false := by simp; omega
        rcases T1.out with t | ⟨t, t'⟩
        all_goals
          rcases HTT.out with ⟨u1, u2, u3⟩ | ⟨u1, u2, u3⟩ | ⟨u1, u2, u3, u4⟩
          all_goals
            clear HTT T1
            go_wp2_with fail
            go_quiet (fail)
            go_wp2_with fail
            go_roundw
            case rel => exact ⟨i + 1, by go_num, by omega, HBN.out _⟩
            case measure => simp [intOf]; omega
    · obtain rfl : i = k := by omega
      obtain ⟨q, hq⟩ := HQ.out
      have hbq : Below w.heap.size w wr := by rw [hq]; exact below_drewN HB2.out q
      have HBQ := Lib.hid hbq
      clear hq hbq HQ
      go_wp2_with fail
      go_ret
      exact ⟨rfl, HBQ.out⟩
end Go.Proofs.YtiapfpdkcdhhoaaDoor
