/- foyerlaw01.MoneyScales: the walk. -/
import Derived.Test.YtiapfpdkcdhhoaaDoorMH
import Derived.Test.YtiapfpdkcdhhoaaDoorLP0
import Derived.Test.YtiapfpdkcdhhoaaDoorOwn
namespace Go.Proofs.YtiapfpdkcdhhoaaDoor
open Go.RowKit Go.IntWalk

/-- The weights, each k times. -/
def moreS (k : Int) (W : List Int) : List Int := W.map fun x => k * x

theorem more_len (k : Int) (W : List Int) : (moreS k W).length = W.length := by simp [moreS]

theorem more_at (k : Int) (W : List Int) (i : Nat) (hi : i < W.length) : ix (moreS k W) i = k * ix W i := by
  rw [ix_eq _ _ (by rw [more_len]; exact hi), ix_eq _ _ hi]
  simp [moreS]

theorem more_take (k : Int) (W : List Int) (i : Nat) (hi : i < W.length) : (moreS k W).take (i + 1) = (moreS k W).take i ++ [k * ix W i] := by
  rw [List.take_succ_eq_append_getElem (by rw [more_len]; exact hi)]
  congr 2
  rw [← ix_eq _ _ (by rw [more_len]; exact hi), more_at k W i hi]

/-- A weight that stays an amount. -/
theorem scale_fit {k x : Int} (hk : 0 < k) (h : x ≤ 1000000000 / k) : k * x ≤ 1000000000 := by
  have h1 := Int.mul_le_mul_of_nonneg_left h (show 0 ≤ k by omega)
  have h2 : k * (1000000000 / k) ≤ 1000000000 := Int.mul_ediv_self_le (by omega)
  omega

theorem more_good {n k : Int} {W : List Int} (hk : 0 < k) (hn : splitB n W = true) (h : ∀ i, i < W.length → ix W i ≤ 1000000000 / k) (hl : W.length ≤ 100) : splitB n (moreS k W) = true := by
  have hs := split_nums hn hl
  unfold splitB
  have h1 : ((moreS k W).all fun x => !badB x) = true := (all_ix _ _).mpr fun i hi => by
    rw [more_len] at hi
    have e := more_at k W i hi
    have h0 := hs.2.each i hi
    have h2 := scale_fit hk (h i hi)
    rw [e, (bad_iff _).2 ⟨Int.mul_nonneg (by omega) h0.1, h2⟩]
    rfl
  have h2 : allW (moreS k W) = k * allW W := by
    unfold allW
    rw [more_len, sumN_congr (ix (moreS k W)) (fun i => k * ix W i) _ (fun i hi => more_at k W i hi), sumN_mul]
  have h3 : allW (moreS k W) ≠ 0 := by
    rw [h2]
    have := hs.2.pos
    exact Int.ne_of_gt (Int.mul_pos hk this)
  rw [(amtB_iff n).mpr hs.1, h1]
  simp [h3]

theorem more_split {n k : Int} {W : List Int} (hk : 0 < k) (hn : splitB n W = true) (hl : W.length ≤ 100) : splitS n (moreS k W) = splitS n W := by
  have hs := split_nums hn hl
  apply list_ext_ix
  · rw [splitS_length, splitS_length, more_len]
  · intro i hi
    rw [splitS_length, more_len] at hi
    rw [splitS_at _ _ _ (by rw [more_len]; exact hi), splitS_at _ _ _ hi, part_scale hk hs.2.pos (more_len k W) (fun j hj => more_at k W j hj) i hi]

theorem zero_split {n : Int} {W : List Int} (hn : splitB n W = true) (hl : W.length ≤ 100) : splitB 0 W = true ∧ ∀ i, i < W.length → ix (splitS 0 W) i = 0 := by
  have hb : splitB 0 W = true := by
    have hsp : amtB n = true ∧ (W.all fun x => !badB x) = true ∧ allW W ≠ 0 := by
      unfold splitB at hn
      simpa [and_assoc] using hn
    unfold splitB
    rw [hsp.2.1, show amtB 0 = true from by decide]
    simp [hsp.2.2]
  have hs := split_nums hb hl
  refine ⟨hb, fun i hi => ?_⟩
  have F := split_part hs.1 hs.2 i hi
  have a := F.pos (Int.le_refl _)
  have b := F.neg (Int.le_refl _)
  omega

theorem one_split {n k : Int} (hk : 0 < k) (hk2 : k ≤ 1000000000) (hn : Amt n) : splitB n [k] = true ∧ splitS n [k] = [n] := by
  have hb : splitB n [k] = true := by
    unfold splitB
    have h1 : ([k].all fun x => !badB x) = true := by simp [(bad_iff k).2 ⟨by omega, hk2⟩]
    have h2 : allW [k] = k := by simp [allW, sumN, ix]
    rw [(amtB_iff n).mpr hn, h1, h2]
    simp
    omega
  have hs := split_nums hb (by simp)
  refine ⟨hb, ?_⟩
  apply list_ext_ix
  · rw [splitS_length]; rfl
  · intro i hi
    rw [splitS_length] at hi
    have hi0 : i = 0 := by simpa using hi
    subst hi0
    have ht := split_total hs.2
    have e : sumN (ix (splitS n [k])) 1 = ix (splitS n [k]) 0 := by simp [sumN]
    have e2 : [k].length = 1 := rfl
    rw [e2, e] at ht
    rw [ht]
    rfl

theorem ints1 (w : World) (T : TypeId) (a : Int) : Ints (w.alloc (.cells #[.int .i64 a] T)) (some ⟨w.heap.size, 0, none⟩) 1 [a] :=
  ⟨rfl, fun k hk => ⟨w.heap.size, 0, rfl, by
    obtain rfl : k = 0 := by omega
    simp [World.cell?_alloc_new, ix]⟩⟩

set_option maxRecDepth 20000 in
set_option maxHeartbeats 6400000 in
theorem moneyScales_any (n : Int) (ra : Option Addr) (k c : Nat) (W : List Int) (by' : Int) (w : World) (hk : Kit w) (_hn : -9223372036854775808 ≤ n ∧ n ≤ 9223372036854775807) (hkm : k ≤ 9223372036854775807) (hW : Ints w ra k W) (hby : 0 ≤ by' ∧ by' ≤ 255) :
    Calls Tryd.prog 6 #[.int .i64 n, .slice ra k c, .int .u8 by'] w (LawPost w) := by
  obtain ⟨i0, hi, hz0, hz1, hz2⟩ := info_parts Tryd_infoInt
  have HI := Lib.hid hi
  have HZ := Lib.hid (And.intro hz0 (And.intro hz1 hz2))
  clear hi hz0 hz1 hz2
  have HK := Lib.hid hk
  have HW := Lib.hid hW
  have HL := Lib.hid hW.1
  clear hk hW
  go_enter Tryd.func6, Tryd.ntmps6
  go_wp2_with fail
  refine (head_any w HK.out).mono ?_
  rintro e w1 ⟨rfl, hb⟩
  have HB := Lib.hid hb
  have HW1 := Lib.hid (HW.out.below hb)
  clear hb HW HK
  by_cases hlen : 100 < k
  · have f1 : decide (100 < k) = true := by simp; exact hlen
    go_wp2_with fail
    go_ret
    exact ⟨rfl, HB.out⟩
  have f1 : decide (100 < k) = false := by simp; omega
  have hk100 : k ≤ 100 := by omega
  clear hlen
  have HSP := Lib.hid (split_any n ra k c W w1 hk100 HW1.out)
  go_wp2_with fail
  refine HSP.out.mono ?_
  rintro e w2 ⟨hb, hp⟩
  have HB2 := Lib.hid (HB.out.trans (hb.mono HB.out.size))
  have HW2 := Lib.hid (HW1.out.below hb)
  clear hb HB HW1 HSP
  rcases hp with ⟨_, rfl⟩ | ⟨hyes, g, rfl, _, hr⟩
  · go_wp2_with fail
    go_ret
    exact ⟨rfl, HB2.out⟩
  have HYES := Lib.hid hyes
  have hI := hr.ints
  have hSl := splitS_length n W
  rw [hSl, HL.out] at hI
  rw [HL.out]
  have HS2 := Lib.hid hI
  clear hr hI hSl hyes
  obtain ⟨m, hm⟩ : ∃ m : Int, 1 + by' % 50 = m := ⟨_, rfl⟩
  have hmr : 1 ≤ m ∧ m ≤ 50 := by omega
  go_upto_region 9 with fail
  try simp only [hm]
  clear hm
  have HALL : Hid ((∀ i, i < k → ix W i ≤ 1000000000 / m) → splitB n (moreS m W) = true) := fun h => more_good (by omega) HYES.out (by rw [HL.out]; exact h) (by rw [HL.out]; exact hk100)
  go_wp2_with fail
  go_loopw [11, 12] (fun v11 v12 wr => ∃ i : Nat, v12 = .int .i64 i ∧ i ≤ k ∧ Hid (wr.ownsRow w2.heap.size 3 1 v11 i (((moreS m W).take i).map (Value.int .i64))) ∧ Hid (∀ j, j < i → ix W j ≤ 1000000000 / m) ∧ Hid (Below w2.heap.size w2 wr))
    (fun _ v12 _ => k - (intOf v12).toNat)
  case atStart => exact ⟨0, rfl, Nat.zero_le _, World.ownsRow_nil _ _ _ _, fun j hj => absurd hj (by omega), Below.refl _ _⟩
  case round =>
    obtain ⟨i, rfl, hi, HOWN, HF, HBW⟩ := hrel
    by_cases hik : i < k
    · have hiW : i < W.length := by rw [HL.out]; exact hik
      obtain ⟨b, o, hra, c1⟩ := (HW2.out.below HBW.out).2 i hik
      subst hra
      have hs := split_nums HYES.out (by rw [HL.out]; exact hk100)
      have hx0 := hs.2.each i hiW
      have HMT := Lib.hid (more_take m W i hiW)
      have HFN : Hid (ix W i ≤ 1000000000 / m → ∀ j, j < i + 1 → ix W j ≤ 1000000000 / m) := fun h j hj => by
        by_cases e : j = i
        · subst e; exact h
        · exact HF.out j (by omega)
      have HFIT : Hid (ix W i ≤ 1000000000 / m → m * ix W i ≤ 1000000000) := fun h => scale_fit (by omega) h
      have HNN : Hid (0 ≤ m * ix W i) := Int.mul_nonneg (by omega) hx0.1
      obtain ⟨x, hx⟩ : ∃ x, ix W i = x := ⟨_, rfl⟩
      rw [hx] at c1 hx0 HMT HFN HFIT HNN
      obtain ⟨y, hy⟩ : ∃ y, m * x = y := ⟨_, rfl⟩
      rw [hy] at HMT HFIT HNN
      have HY := Lib.hid hy
      obtain ⟨Q, hQ⟩ : ∃ Q, (1000000000 : Int) / m = Q := ⟨_, rfl⟩
      rw [hQ] at HFN HFIT
      have hQr : 0 ≤ Q ∧ Q ≤ 1000000000 := by
        rw [← hQ]
        exact ⟨Int.ediv_nonneg (by omega) (by omega), Int.ediv_le_self _ (by omega)⟩
      have hQt : (1000000000 : Int).tdiv m = Q := by rw [Int.tdiv_eq_ediv_of_nonneg (by omega)]; exact hQ
      have w1' : IntKind.i64.wrap Q = Q := i64_in _ (by omega)
      have e0 : (m == 0) = false := by simp; omega
      have HQQ : Hid (((1000000000 : Int) / m = Q ∧ (1000000000 : Int).tdiv m = Q) ∧ IntKind.i64.wrap Q = Q ∧ (m == 0) = false) := ⟨⟨hQ, hQt⟩, w1', e0⟩
      clear hs hx hy hiW hQ hQt w1' e0
      have hQ := HQQ.out.1.1
      have hQt := HQQ.out.1.2
      have w1' := HQQ.out.2.1
      have e0 := HQQ.out.2.2
      by_cases hfit : x ≤ Q
      · have g1 : decide (Q < x) = false := by simp; omega
        have hy0 := HNN.out
        have hy1 := HFIT.out hfit
        have HFN2 := Lib.hid (HFN.out hfit)
        clear HFN HFIT HNN
        go_wp2_with fail
        go_quiet (fail)
        go_upto_region 14 with fail
        have HOWN1 : Hid ((wr.drewN nq).ownsRow w2.heap.size 3 1 u11 i (((moreS m W).take i).map (Value.int .i64))) := HOWN.out
        have HBW1 : Hid (Below w2.heap.size w2 (wr.drewN nq)) := below_drewN HBW.out nq
        have hc1 := Below.cell_of (below_drewN (Below.refl _ _) nq : Below wr.heap.size wr (wr.drewN nq)) c1
        generalize wr.drewN nq = w5 at *
        clear hQ hQt w1' e0 HOWN HBW HF c1
        have hy := HY.out
        have w2' : IntKind.i64.wrap y = y := i64_in _ (by omega)
        have hi := HI.out
        have hz0 := HZ.out.1
        have hz1 := HZ.out.2.1
        have hz2 := HZ.out.2.2
        have hwsz := HBW1.out.size
        go_wp2_with (at_builtin; refine wpList_append_own _ rfl _ _ 30 rfl w2.heap.size 3 i0 (.int .i64 0) 1 8 Tryd.underlying30 hi hz0 hz1 hz2 rfl (by decide) _ _ _ rfl (HOWN1.out.alloc _) ⟨w5.heap.size, 0, none⟩ 1 1 [.int .i64 y] rfl rfl ?c1 ?c2 ?c3 ?c4 ?c5 ?_)
        case c1 =>
          intro j u hj
          match j, hj with
          | 0, hj => simp at hj; subst hj; simp [Addr.add]
        case c2 => intro u hu; simp at hu; subst hu; rfl
        case c3 => unfold maxLen; omega
        case c4 => omega
        case c5 => simp; omega
        intro v' w6 hown' hgrow _
        have HB6 : Hid (Below w2.heap.size w2 w6) := (HBW1.out.alloc HBW1.out.size _).grown hgrow (by have := HBW1.out.size; simp; omega) (fun q hq => by have := (HOWN1.out.lt q hq).1; omega)
        have HOWN2 : Hid (w6.ownsRow w2.heap.size 3 1 v' (i + 1) (((moreS m W).take (i + 1)).map (Value.int .i64))) := by
          show World.ownsRow _ _ _ _ _ _ _
          rw [HMT.out, List.map_append]
          simpa [List.map_take] using hown'
        clear hown' hgrow HOWN1 HBW1 hi hz0 hz1 hz2 hwsz hy w2'
        have hF3 := HFN2
        rw [← HQQ.out.1.1] at hF3
        go_wp2_with fail
        go_roundw
        case rel => exact ⟨i + 1, by go_num, by omega, HOWN2, hF3, HB6⟩
        case measure => simp [intOf]; omega
      · have g1 : decide (Q < x) = true := by simp; omega
        have HBF : Hid (∀ q, Below w.heap.size w (wr.drewN q)) := fun q => below_drewN (HB2.out.trans (HBW.out.mono HB2.out.size)) q
        go_wp2_with fail
        go_quiet (fail)
        go_wp2_with fail
        go_ret
        exact ⟨rfl, HBF.out _⟩
    · obtain rfl : i = k := by omega
      obtain ⟨la, ct, hv, hown⟩ := OwnInts.of_row HOWN.out
      subst hv
      have hMI := hown.ints
      rw [List.take_of_length_le (by rw [more_len, HL.out]; exact Nat.le_refl _)] at hMI
      have HMI := Lib.hid hMI
      have HBK := Lib.hid (HALL.out HF.out)
      have HWW := Lib.hid (HW2.out.below HBW.out)
      have HSW := Lib.hid (HS2.out.below HBW.out)
      have HB3 := Lib.hid (HB2.out.trans (HBW.out.mono HB2.out.size))
      have hs := split_nums HYES.out (by rw [HL.out]; exact hk100)
      have HAM := Lib.hid hs.1
      have HMS := Lib.hid (more_split (k := m) (by omega) HYES.out (by rw [HL.out]; exact hk100))
      have hzs := zero_split HYES.out (by rw [HL.out]; exact hk100)
      have HZ0 := Lib.hid hzs.1
      have HZ1 := Lib.hid hzs.2
      have hos := one_split (k := m) (by omega) (by omega) hs.1
      have HO0 := Lib.hid hos.1
      have HO1 := Lib.hid hos.2
      obtain ⟨S, hS⟩ : ∃ S, splitS n W = S := ⟨_, rfl⟩
      rw [hS] at HSW HMS
      obtain ⟨Z, hZ⟩ : ∃ S, splitS 0 W = S := ⟨_, rfl⟩
      have HZZ := Lib.hid hZ
      have HZL : Hid (Z.length = i) := by show _ = _; rw [← hZ, splitS_length, HL.out]
      rw [hZ, HL.out] at HZ1
      clear hMI hown HOWN HBW HF HW2 HS2 HB2 hs hzs hos hS hZ HALL HL
      obtain ⟨wo, rfl⟩ : ∃ wo : World, wo = wr := ⟨_, rfl⟩
      go_wp2_with fail
      refine (split_known n (moreS m W) S la i ct wo hk100 HMI.out HBK.out HMS.out).mono ?_
      rintro e w5 ⟨g1, rfl, hb, hi⟩
      have HT5 := Lib.hid hi
      have HS5 := Lib.hid (HSW.out.below hb)
      have HW5 := Lib.hid (HWW.out.below hb)
      have HB5 := Lib.hid (HB3.out.trans (hb.mono HB3.out.size))
      clear hb hi HSW HWW HB3 HMI
      go_wp2_with fail
      refine (split_known 0 W Z ra i c w5 hk100 HW5.out HZ0.out HZZ.out).mono ?_
      rintro e w6 ⟨g2, rfl, hb, hi⟩
      have HZ6 := Lib.hid hi
      have HT6 := Lib.hid (HT5.out.below hb)
      have HS6 := Lib.hid (HS5.out.below hb)
      have HB6 := Lib.hid (HB5.out.trans (hb.mono HB5.out.size))
      clear hb hi HT5 HS5 HB5 HW5
      have hw : Hid (Ints (w6.alloc (.cells #[.int .i64 m] 3)) (some ⟨w6.heap.size, 0, none⟩) 1 [m]) := ints1 _ _ _
      have hb : Below w6.heap.size w6 (w6.alloc (.cells #[.int .i64 m] 3)) := al _ _
      go_wp2_with (fail)
      generalize hv : w6.alloc (.cells #[.int .i64 m] 3) = w7 at *
      clear hv
      have HZ7 := Lib.hid (HZ6.out.below hb)
      have HT7 := Lib.hid (HT6.out.below hb)
      have HS7 := Lib.hid (HS6.out.below hb)
      have HB7 := Lib.hid (HB6.out.trans (hb.mono HB6.out.size))
      clear hb HZ6 HT6 HS6 HB6
      refine (split_known n [m] [n] _ 1 _ w7 (by omega) hw.out HO0.out HO1.out).mono ?_
      rintro e w8 ⟨g3, rfl, hb, hi⟩
      have HO8 := Lib.hid hi
      have HZ8 := Lib.hid (HZ7.out.below hb)
      have HT8 := Lib.hid (HT7.out.below hb)
      have HS8 := Lib.hid (HS7.out.below hb)
      have HB8 := Lib.hid (HB7.out.trans (hb.mono HB7.out.size))
      clear hb hi HZ7 HT7 HS7 HB7 hw
      go_wp2_with fail
      go_loop [19] (fun v19 => ∃ j : Nat, v19 = .int .i64 j ∧ j ≤ i) (fun v19 => i - (intOf v19).toNat)
      case atStart => exact ⟨0, rfl, Nat.zero_le _⟩
      case round =>
        obtain ⟨j, rfl, hj⟩ := hrel
        by_cases hji : j < i
        · obtain ⟨b, o, hra, c1⟩ := HZ8.out.2 j hji
          obtain ⟨rfl, rfl⟩ : g2 = b ∧ 0 = o := by simpa using hra
          rw [HZ1.out j hji, Nat.zero_add] at c1
          clear hra
          go_wp2_with fail
          go_round
          case rel => exact ⟨j + 1, by go_num, by omega⟩
          case measure => simp [intOf]; omega
        · obtain rfl : j = i := by omega
          go_wp2_with fail
          refine (ints_any _ _ j j _ _ S S w8 (by omega) (by omega) HS8.out HT8.out).mono ?_
          rintro e w' ⟨rfl, qq, rfl⟩
          rw [show decide (S = S) = true from by simp]
          have hb : Below w8.heap.size w8 (w8.drewN qq) := below_drewN (Below.refl _ _) qq
          generalize w8.drewN qq = w9 at *
          have HO9 := Lib.hid (HO8.out.below hb)
          have HB9 := Lib.hid (HB8.out.trans (hb.mono HB8.out.size))
          clear hb HO8 HB8 HS8 HT8 HZ8
          have hw : Hid (Ints (w9.alloc (.cells #[.int .i64 n] 3)) (some ⟨w9.heap.size, 0, none⟩) 1 [n]) := ints1 _ _ _
          have hb : Below w9.heap.size w9 (w9.alloc (.cells #[.int .i64 n] 3)) := al _ _
          go_wp2_with (fail)
          generalize hv : w9.alloc (.cells #[.int .i64 n] 3) = w10 at *
          clear hv
          have HO10 := Lib.hid (HO9.out.below hb)
          have HB10 := Lib.hid (HB9.out.trans (hb.mono HB9.out.size))
          clear hb HO9 HB9
          refine (ints_any _ _ 1 1 _ _ [n] [n] w10 (by omega) (by omega) HO10.out hw.out).mono ?_
          rintro e w' ⟨rfl, qq, rfl⟩
          rw [show decide ([n] = [n]) = true from by simp]
          go_wp2_with fail
          go_ret
          exact ⟨rfl, below_drewN HB10.out qq⟩
end Go.Proofs.YtiapfpdkcdhhoaaDoor
