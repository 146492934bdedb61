/- foyerlaw01.MoneyFair: the walk. -/
import Derived.Test.YtiapfpdkcdhhoaaDoorMH
import Derived.Test.YtiapfpdkcdhhoaaDoorLP0
namespace Go.Proofs.YtiapfpdkcdhhoaaDoor
open Go.RowKit Go.IntWalk

theorem fair_more {n : Int} {W : List Int} (h0 : 0 ≤ n) (h : Nums (signS n * n) W) (i k : Nat) (hi : i < W.length) (hk : k < W.length) (hw : ix W k < ix W i) : ix (splitS n W) k ≤ ix (splitS n W) i := by
  have e := sign_nonneg h0
  rw [splitS_at _ _ _ hi, splitS_at _ _ _ hk, e, Int.one_mul, Int.one_mul, Int.one_mul]
  rw [e, Int.one_mul] at h
  exact part_mono h.lo h.pos i k (by omega) (.inl hw)

theorem fair_eq {n : Int} {W : List Int} (h0 : 0 ≤ n) (h : Nums (signS n * n) W) (i k : Nat) (hi : i < W.length) (hk : k < W.length) (hw : ix W i = ix W k) (hik : i < k) : ix (splitS n W) i = ix (splitS n W) k ∨ ix (splitS n W) i = ix (splitS n W) k + 1 := by
  have e := sign_nonneg h0
  rw [splitS_at _ _ _ hi, splitS_at _ _ _ hk, e, Int.one_mul, Int.one_mul, Int.one_mul]
  rw [e, Int.one_mul] at h
  have hm := part_mono h.lo h.pos i k (by omega) (.inr hik)
  have hb : baseS n W i = baseS n W k := by unfold baseS; rw [hw]
  unfold partS at hm ⊢
  rw [hb] at hm ⊢
  generalize baseS n W k = z at *
  split at hm <;> split at hm <;> simp_all <;> omega

set_option maxRecDepth 20000 in
set_option maxHeartbeats 6400000 in
theorem moneyFair_any (n : Int) (ra : Option Addr) (k c : Nat) (W : List Int) (one two : Int) (w : World) (hk : Kit w) (hn : -9223372036854775808 ≤ n ∧ n ≤ 9223372036854775807) (hkm : k ≤ 9223372036854775807) (hW : Ints w ra k W) (h1 : 0 ≤ one ∧ one ≤ 255) (h2 : 0 ≤ two ∧ two ≤ 255) :
    Calls Tryd.prog 5 #[.int .i64 n, .slice ra k c, .int .u8 one, .int .u8 two] w (LawPost w) := by
  obtain ⟨p1, rfl⟩ : ∃ x : Nat, one = x := ⟨one.toNat, by omega⟩
  obtain ⟨p2, rfl⟩ : ∃ x : Nat, two = x := ⟨two.toNat, by omega⟩
  have HK := Lib.hid hk
  have HW := Lib.hid hW
  have HL := Lib.hid hW.1
  clear hk hW
  go_enter Tryd.func5, Tryd.ntmps5
  go_wp2_with fail
  refine (head_any w HK.out).mono ?_
  rintro e w1 ⟨rfl, hb⟩
  have HB := Lib.hid hb
  have HW1 := Lib.hid (HW.out.below hb)
  clear hb HW HK
  by_cases hlen : 100 < k
  · have f1 : decide (100 < k) = true := by simp; exact hlen
    go_wp2_with fail
    go_ret
    exact ⟨rfl, HB.out⟩
  have hk100 : k ≤ 100 := by omega
  clear hlen
  by_cases hneg : n < 0
  · have f1 : decide (100 < k) = false := by simp; omega
    have f2 : decide (n < 0) = true := by simp; exact hneg
    go_wp2_with fail
    go_ret
    exact ⟨rfl, HB.out⟩
  have f1 : decide (100 < k) = false := by simp; omega
  have f2 : decide (n < 0) = false := by simp; omega
  have hn0 : 0 ≤ n := by omega
  clear hneg
  have HSP := Lib.hid (split_any n ra k c W w1 hk100 HW1.out)
  go_wp2_with fail
  refine HSP.out.mono ?_
  rintro e w2 ⟨hb, hp⟩
  have HB2 := Lib.hid (HB.out.trans (hb.mono HB.out.size))
  have HW2 := Lib.hid (HW1.out.below hb)
  clear hb HB HW1 HSP
  have HSQ := Lib.hid (split_any (-n) ra k c W w2 hk100 HW2.out)
  rcases hp with ⟨hno, rfl⟩ | ⟨hyes, g, rfl, _, hr⟩
  · have HNO : Hid (splitB (-n) W = false) := by show _ = _; rw [splitB_opp]; exact hno
    clear hno
    go_wp2_with fail
    refine HSQ.out.mono ?_
    rintro e w3 ⟨hb, hp⟩
    have HB3 := Lib.hid (HB2.out.trans (hb.mono HB2.out.size))
    rcases hp with ⟨_, rfl⟩ | ⟨hyes, _⟩
    · clear hb HSQ
      go_wp2_with fail
      go_ret
      exact ⟨rfl, HB3.out⟩
    · rw [HNO.out] at hyes; simp at hyes
  have HYN : Hid (splitB (-n) W = true) := by show _ = _; rw [splitB_opp]; exact hyes
  have hnum := split_nums hyes (by rw [HL.out]; exact hk100)
  have HNM := Lib.hid hnum.2
  have HPF := Lib.hid (split_part hnum.1 hnum.2)
  have HOPP := Lib.hid (fun i hi => split_opp (W := W) hn0 i hi)
  have HMO := Lib.hid (fair_more hn0 hnum.2)
  have HEQ := Lib.hid (fair_eq hn0 hnum.2)
  have hk0 : 0 < k := by
    apply Nat.pos_of_ne_zero
    rintro rfl
    have h3 := HNM.out.pos
    unfold allW at h3
    rw [HL.out] at h3
    simp [sumN] at h3
  have hI := hr.ints
  have hSl := splitS_length n W
  rw [hSl] at hI
  rw [HL.out] at hI hSl HOPP HMO HEQ HPF ⊢
  have HS0 := Lib.hid hI
  clear hr hyes hI hSl hnum
  go_wp2_with fail
  refine HSQ.out.mono ?_
  rintro e w3 ⟨hb, hp⟩
  have HB3 := Lib.hid (HB2.out.trans (hb.mono HB2.out.size))
  have HW3 := Lib.hid (HW2.out.below hb)
  have HS3 := Lib.hid (HS0.out.below hb)
  clear hb HB2 HW2 HS0 HSQ
  rcases hp with ⟨hno, _⟩ | ⟨_, g2, rfl, _, hr⟩
  · rw [HYN.out] at hno; simp at hno
  have hI := hr.ints
  have hSl := splitS_length (-n) W
  rw [hSl] at hI
  rw [HL.out] at hI ⊢
  have HS4 := Lib.hid hI
  clear hr hI hSl HYN
  obtain ⟨S, hS⟩ : ∃ S, splitS n W = S := ⟨_, rfl⟩
  obtain ⟨S', hS'⟩ : ∃ S, splitS (-n) W = S := ⟨_, rfl⟩
  rw [hS] at HS3 HMO HEQ HPF HOPP
  rw [hS'] at HS4 HOPP
  clear hS hS'
  have f3 : (k != k) = false := by simp
  have f4 : (k == 0) = false := by simp; omega
  go_upto_region 10 with fail
  go_wp2_with fail
  obtain ⟨wo, rfl⟩ : ∃ wo : World, wo = w3 := ⟨_, rfl⟩
  go_loopw [14] (fun v14 wr => ∃ i : Nat, v14 = .int .i64 i ∧ i ≤ k ∧ Hid (∃ q, wr = wo.drewN q)) (fun v14 _ => k - (intOf v14).toNat)
  case atStart => exact ⟨0, rfl, Nat.zero_le _, 0, rfl⟩
  case round =>
    obtain ⟨i, rfl, hi, HQ⟩ := hrel
    have hbq : Below wo.heap.size wo wr := by obtain ⟨q, hq⟩ := HQ.out; rw [hq]; exact below_drewN (Below.refl _ _) q
    have HBQ := Lib.hid hbq
    have HBN : Hid (∀ m, ∃ q, wr.drewN m = wo.drewN q) := fun m => by
      obtain ⟨q', hq'⟩ := HQ.out
      exact ⟨q' + m, by rw [hq']; exact World.drewN_drewN ..⟩
    clear hbq HQ
    by_cases hlt : i < k
    · obtain ⟨b1, o1, hra, c1⟩ := (HS3.out.below HBQ.out).2 i hlt
      obtain ⟨rfl, rfl⟩ : g = b1 ∧ 0 = o1 := by simpa using hra
      obtain ⟨b2, o2, hra2, c2⟩ := (HS4.out.below HBQ.out).2 i hlt
      obtain ⟨rfl, rfl⟩ : g2 = b2 ∧ 0 = o2 := by simpa using hra2
      have F := HPF.out i hlt
      have ho := HOPP.out i hlt
      rw [ho] at c2
      obtain ⟨l, hl⟩ : ∃ z, ix S i = z := ⟨_, rfl⟩
      rw [hl] at c1 c2 F
      rw [Nat.zero_add] at c1 c2
      have hl1 := F.lo
      have hl2 := F.hi
      have w1' : IntKind.i64.wrap (-l) = -l := i64_in _ (by omega)
      have e1 : (-l != -l) = false := by simp
      clear F ho hl hra hra2
      go_wp2_with fail
      go_quiet (fail)
      go_wp2_with fail
      go_roundw
      case rel => exact ⟨i + 1, by go_num, by omega, HBN.out _⟩
      case measure => simp [intOf]; omega
    · obtain rfl : i = k := by omega
      obtain ⟨i1, hi1⟩ : ∃ z, p1 % i = z := ⟨_, rfl⟩
      obtain ⟨i2, hi2⟩ : ∃ z, p2 % i = z := ⟨_, rfl⟩
      have hm1 : (p1 : Int) % (i : Int) = (i1 : Int) := by rw [← hi1]; exact (Int.natCast_emod p1 i).symm
      have hm2 : (p2 : Int) % (i : Int) = (i2 : Int) := by rw [← hi2]; exact (Int.natCast_emod p2 i).symm
      have hlt1 : i1 < i := by rw [← hi1]; exact Nat.mod_lt _ hk0
      have hlt2 : i2 < i := by rw [← hi2]; exact Nat.mod_lt _ hk0
      have HM := Lib.hid (And.intro hm1 hm2)
      obtain ⟨b1, o1, hra, c1⟩ := (HS3.out.below HBQ.out).2 i1 hlt1
      obtain ⟨rfl, rfl⟩ : g = b1 ∧ 0 = o1 := by simpa using hra
      obtain ⟨b2, o2, hra2, c2⟩ := (HS3.out.below HBQ.out).2 i2 hlt2
      obtain ⟨rfl, rfl⟩ : g = b2 ∧ 0 = o2 := by simpa using hra2
      obtain ⟨b3, o3, hra3, c3⟩ := (HW3.out.below HBQ.out).2 i1 hlt1
      subst hra3
      obtain ⟨b4, o4, hra4, c4⟩ := (HW3.out.below HBQ.out).2 i2 hlt2
      obtain ⟨rfl, rfl⟩ : b3 = b4 ∧ o3 = o4 := by simpa using hra4
      have hmo := HMO.out i1 i2 hlt1 hlt2
      have heq := HEQ.out i1 i2 hlt1 hlt2
      have F2 := HPF.out i2 hlt2
      obtain ⟨x1, hx1⟩ : ∃ z, ix W i1 = z := ⟨_, rfl⟩
      obtain ⟨x2, hx2⟩ : ∃ z, ix W i2 = z := ⟨_, rfl⟩
      obtain ⟨y1, hy1⟩ : ∃ z, ix S i1 = z := ⟨_, rfl⟩
      obtain ⟨y2, hy2⟩ : ∃ z, ix S i2 = z := ⟨_, rfl⟩
      rw [hx1] at c3 hmo heq
      rw [hx2] at c4 hmo heq F2
      rw [hy1] at c1 hmo heq
      rw [hy2] at c2 hmo heq F2
      rw [Nat.zero_add] at c1 c2
      have hl1 := F2.lo
      have hl2 := F2.hi
      have w1' : IntKind.i64.wrap (y2 + 1) = y2 + 1 := i64_in _ (by omega)
      have W1 := Lib.hid w1'
      have HBF : Hid (∀ m, Below w.heap.size w (wr.drewN m)) := fun m => below_drewN (HB3.out.trans (HBQ.out.mono HB3.out.size)) m
      have hcase : (decide (x2 < x1) = true ∧ decide (y1 < y2) = false ∧ (x1 != x2) = true) ∨ (decide (x2 < x1) = false ∧ (x1 != x2) = true) ∨ (decide (x2 < x1) = false ∧ (x1 != x2) = false ∧ i2 ≤ i1) ∨
          (decide (x2 < x1) = false ∧ (x1 != x2) = false ∧ ¬ i2 ≤ i1 ∧ (y1 == y2) = true) ∨ (decide (x2 < x1) = false ∧ (x1 != x2) = false ∧ ¬ i2 ≤ i1 ∧ (y1 == y2) = false ∧ (y1 == y2 + 1) = true) := by
        by_cases h : x2 < x1
        · left
          have := hmo h
          exact ⟨by simp; exact h, by simp; omega, by simp; omega⟩
        · by_cases h3 : x1 = x2
          · by_cases h4 : i2 ≤ i1
            · exact .inr (.inr (.inl ⟨by simp; omega, by simp; exact h3, h4⟩))
            · have := heq h3 (by omega)
              by_cases h5 : y1 = y2
              · exact .inr (.inr (.inr (.inl ⟨by simp; omega, by simp; exact h3, h4, by simp; exact h5⟩)))
              · exact .inr (.inr (.inr (.inr ⟨by simp; omega, by simp; exact h3, h4, by simp; exact h5, by simp; omega⟩)))
          · exact .inr (.inl ⟨by simp; omega, by simp; exact h3⟩)
      have HC := Lib.hid hcase
      clear hcase hmo heq F2 hx1 hx2 hy1 hy2 hra hra2 hra4 hi1 hi2 w1' hm1 hm2
      have hm1 := HM.out.1
      have hm2 := HM.out.2
      go_upto_region 17 with fail
      simp only [hm1, hm2]
      clear hm1 hm2
      rcases HC.out with ⟨a1, a2, a3⟩ | ⟨a1, a2⟩ | ⟨a1, a2, a3⟩ | ⟨a1, a2, a3, a4⟩ | ⟨a1, a2, a3, a4, a5⟩
      all_goals
        clear HC
        have w1' := W1.out
        go_wp2_with fail
        go_quiet (fail)
        go_wp2_with fail
        go_quiet (fail)
        go_wp2_with fail
        go_ret
        exact ⟨rfl, by first | exact HBF.out _ | (rw [World.drewN_drewN]; exact HBF.out _)⟩
end Go.Proofs.YtiapfpdkcdhhoaaDoor
