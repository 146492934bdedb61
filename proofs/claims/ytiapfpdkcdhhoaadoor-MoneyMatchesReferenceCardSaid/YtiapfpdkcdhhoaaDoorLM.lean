/- foyerlaw01.MoneyMatchesReference: the walk. -/
import Derived.Test.YtiapfpdkcdhhoaaDoorMH
import Derived.Test.YtiapfpdkcdhhoaaDoorMZ
import Derived.Test.YtiapfpdkcdhhoaaDoorMZ2
namespace Go.Proofs.YtiapfpdkcdhhoaaDoor
open Go.RowKit Go.IntWalk

theorem sum_knownM (X : List Int) (a b : Int) (ra : Option Addr) (k c : Nat) (w : World) (hk : k ≤ 100000) (hX : Ints w ra k X) (h : sumR X = (a, b)) :
    Calls Tryd.prog 18 #[.slice ra k c] w fun e w' => e = .returned (.tuple #[.int .i64 a, .int .i64 b]) ∧ w = w' := by
  have := sum_any ra k c X w hk hX
  rw [h] at this
  exact this

theorem rsum_known (X : List Int) (a b : Int) (ra : Option Addr) (k c : Nat) (w : World) (hk : k ≤ 100000) (hX : Ints w ra k X) (h : sumR X = (a, b)) :
    Calls Tryd.prog 19 #[.slice ra k c] w fun e w' => e = .returned (.tuple #[.int .i64 a, .int .i64 b]) ∧ w = w' := by
  have := rsum_any ra k c X w hk hX
  rw [h] at this
  exact this

theorem rshare_known (n num den x y : Int) (w : World) (h : shareS n num den = (x, y)) : Calls Tryd.prog 20 #[.int .i64 n, .agg #[.int .i64 num, .int .i64 den]] w fun e w' => e = .returned (.tuple #[.int .i64 x, .int .i64 y]) ∧ Below w.heap.size w w' := by
  have := rshare_any n num den w
  rw [h] at this
  exact this

theorem rparse_known (t : List UInt8) (x y : Int) (w : World) (ht : t.length ≤ 1000000) (h : parseV t = (x, y)) : Calls Tryd.prog 22 #[.string (bs t)] w fun e w' => e = .returned (.tuple #[.int .i64 x, .int .i64 y]) ∧ w = w' := by
  have := rparse_any (bs t) (by rw [bs_size]; exact ht) w
  unfold RParsePost at this
  rw [bs_list, h] at this
  exact this

set_option maxRecDepth 20000 in
set_option maxHeartbeats 6400000 in
theorem moneyMatches_any (n num den : Int) (ra : Option Addr) (k c : Nat) (L : List Int) (rb : Option Addr) (m d : Nat) (W : List Int) (s : ByteArray) (w : World) (hk : Kit w) (_hn : -9223372036854775808 ≤ n ∧ n ≤ 9223372036854775807)
    (hkm : k ≤ 9223372036854775807) (hL : Ints w ra k L) (hmm : m ≤ 9223372036854775807) (hW : Ints w rb m W) (hs : s.size ≤ 9223372036854775807) :
    Calls Tryd.prog 8 #[.int .i64 n, .agg #[.int .i64 num, .int .i64 den], .slice ra k c, .slice rb m d, .string s] w (LawPost w) := by
  obtain ⟨t, rfl⟩ : ∃ t, s = bs t := ⟨s.data.toList, (toList_data s).symm⟩
  have HK := Lib.hid hk
  have HL := Lib.hid hL
  have HW := Lib.hid hW
  clear hk hL hW
  go_enter Tryd.func8, Tryd.ntmps8
  go_upto_region 1 with fail
  have HB : Hid (Below w.heap.size w (w.alloc (.cells #[.int .i64 num, .int .i64 den] 23))) := al _ _
  have HX : Hid (Box0 (w.alloc (.cells #[.int .i64 num, .int .i64 den] 23)) w.heap.size num den) := ⟨by simp [World.cell?_alloc_new], by simp [World.cell?_alloc_new]⟩
  generalize (w.alloc (.cells #[.int .i64 num, .int .i64 den] 23)) = u0 at *
  go_wp2_with fail
  refine (head_any u0 (HK.out.below HB.out)).mono ?_
  rintro e u1 ⟨rfl, hb⟩
  have HB1 := Lib.hid (HB.out.trans (hb.mono HB.out.size))
  have HX1 : Hid (Box0 u1 w.heap.size num den) := ⟨Below.cell_of hb HX.out.1, Below.cell_of hb HX.out.2⟩
  have HL1 := Lib.hid (HL.out.below HB1.out)
  have HW1 := Lib.hid (HW.out.below HB1.out)
  have HK1 := Lib.hid (HK.out.below HB1.out)
  clear HB HX hb HK HL HW
  by_cases hlk : 100 < k
  · have f1 : decide (100 < k) = true := by simp; exact hlk
    go_wp2_with fail
    go_ret
    exact ⟨rfl, HB1.out⟩
  by_cases hlm : 100 < m
  · have f1 : decide (100 < k) = false := by simp; omega
    have f2 : decide (100 < m) = true := by simp; exact hlm
    go_wp2_with fail
    go_ret
    exact ⟨rfl, HB1.out⟩
  by_cases hlt : 200 < (bs t).size
  · have f1 : decide (100 < k) = false := by simp; omega
    have f2 : decide (100 < m) = false := by simp; omega
    have f3 : decide (200 < (bs t).size) = true := by simp; exact hlt
    go_wp2_with fail
    go_ret
    exact ⟨rfl, HB1.out⟩
  have hk100 : k ≤ 100 := by omega
  have hm100 : m ≤ 100 := by omega
  have hsz : (bs t).size ≤ 200 := by omega
  have HTL : Hid (t.length ≤ 200) := by show _ ≤ _; rw [← bs_size]; omega
  clear hlk hlm hlt hkm hmm hs
  obtain ⟨⟨a, ea⟩, hA⟩ : ∃ p, sumR L = p := ⟨_, rfl⟩
  have HA := Lib.hid hA
  obtain ⟨⟨x, ex⟩, hX⟩ : ∃ p, shareS n num den = p := ⟨_, rfl⟩
  have HSH := Lib.hid hX
  obtain ⟨⟨p, ep⟩, hP⟩ : ∃ p, parseV t = p := ⟨_, rfl⟩
  have HP := Lib.hid hP
  clear hA hX hP
  go_wp2_with fail
  refine (sum_knownM L a ea ra k c u1 (by omega) HL1.out HA.out).mono ?_
  rintro e w' ⟨rfl, rfl⟩
  go_wp2_with fail
  refine (rsum_known L a ea ra k c u1 (by omega) HL1.out HA.out).mono ?_
  rintro e w' ⟨rfl, rfl⟩
  clear HL1
  have x0 := HX1.out.1
  have x1 := HX1.out.2
  go_wp2_with fail
  refine (share_known n num den x ex u1 HSH.out).mono ?_
  rintro e u2 ⟨rfl, hb⟩
  have HB2 := Lib.hid (HB1.out.trans (hb.mono HB1.out.size))
  have HW2 := Lib.hid (HW1.out.below hb)
  have HK2 := Lib.hid (HK1.out.below hb)
  have y0 := Below.cell_of hb x0
  have y1 := Below.cell_of hb x1
  clear x0 x1 hb HB1 HW1 HK1 HX1
  go_wp2_with fail
  refine (rshare_known n num den x ex u2 HSH.out).mono ?_
  rintro e u3 ⟨rfl, hb⟩
  have HB3 := Lib.hid (HB2.out.trans (hb.mono HB2.out.size))
  have HW3 := Lib.hid (HW2.out.below hb)
  have HK3 := Lib.hid (HK2.out.below hb)
  clear y0 y1 hb HB2 HW2 HK2
  have HSP := Lib.hid (split_any n rb m d W u3 hm100 HW3.out)
  go_wp2_with fail
  refine HSP.out.mono ?_
  rintro e u4 ⟨hb, hp⟩
  have HB4 := Lib.hid (HB3.out.trans (hb.mono HB3.out.size))
  have HW4 := Lib.hid (HW3.out.below hb)
  have HK4 := Lib.hid (HK3.out.below hb)
  clear hb HB3 HW3 HK3 HSP
  have HSQ := Lib.hid (rsplit_any n rb m d W u4 hm100 HW4.out)
  rcases hp with ⟨hno, rfl⟩ | ⟨hyes, g, rfl, _, hr⟩
  · have HNO := Lib.hid hno
    clear hno
    go_wp2_with fail
    refine HSQ.out.mono ?_
    rintro e u5 ⟨hb, hp⟩
    have HB5 := Lib.hid (HB4.out.trans (hb.mono HB4.out.size))
    have HK5 := Lib.hid (HK4.out.below hb)
    clear hb HB4 HK4 HSQ
    rcases hp with ⟨_, rfl⟩ | ⟨hyes, _⟩
    · have HI5 : Hid (Ints u5 none 0 []) := ⟨rfl, fun j hj => absurd hj (by omega)⟩
      have HJ5 : Hid (Ints u5 none 0 []) := ⟨rfl, fun j hj => absurd hj (by omega)⟩
      go_wp2_with fail
      refine (parse_known t p ep u5 (by have := HTL.out; omega) HK5.out HP.out).mono ?_
      rintro e u6 ⟨rfl, hb⟩
      have HB6 := Lib.hid (HB5.out.trans (hb.mono HB5.out.size))
      have HK6 := Lib.hid (HK5.out.below hb)
      have HI6 := Lib.hid (HI5.out.below hb)
      have HJ6 := Lib.hid (HJ5.out.below hb)
      clear hb HB5 HK5 HI5 HJ5
      go_wp2_with fail
      refine (rparse_known t p ep u6 (by have := HTL.out; omega) HP.out).mono ?_
      rintro e w' ⟨rfl, rfl⟩
      have e1 : (a == a) = true := by simp
      have e2 : (ea == ea) = true := by simp
      have e3 : (x == x) = true := by simp
      have e4 : (ex == ex) = true := by simp
      have e5 : (p == p) = true := by simp
      have e6 : (ep == ep) = true := by simp
      go_wp2_with fail
      refine (ints_any _ _ 0 0 _ _ ([] : List Int) ([] : List Int) u6 (by omega) (by omega) HI6.out HJ6.out).mono ?_
      rintro e w' ⟨rfl, qq, rfl⟩
      rw [show decide (([] : List Int) = ([] : List Int)) = true from by simp]
      have hb : Below u6.heap.size u6 (u6.drewN qq) := below_drewN (Below.refl _ _) qq
      generalize u6.drewN qq = u7 at *
      have HB7 := Lib.hid (HB6.out.trans (hb.mono HB6.out.size))
      have HK7 := Lib.hid (HK6.out.below hb)
      clear hb HB6 HK6 HI6 HJ6
      go_wp2_with fail
      refine (mvalid_any n u7).mono ?_
      rintro e w' ⟨rfl, rfl⟩
      go_wp2_with fail
      refine (rvalid_any n u7).mono ?_
      rintro e w' ⟨rfl, rfl⟩
      have e7 : (amtB n == amtB n) = true := by simp
      have HTX := Lib.hid (text_any n u7 HK7.out)
      go_wp2_with fail
      refine HTX.out.mono ?_
      rintro e u8 ⟨rfl, hb⟩
      have HB8 := Lib.hid (HB7.out.trans (hb.mono HB7.out.size))
      clear hb HB7 HK7 HTX
      go_wp2_with fail
      refine (rtext_any n u8).mono ?_
      rintro e w' ⟨rfl, rfl⟩
      have e8 : ((bs (textS n)).toList == (bs (textS n)).toList) = true := by simp
      go_wp2_with fail
      go_ret
      exact ⟨rfl, HB8.out⟩
    · rw [HNO.out] at hyes; simp at hyes
  · have HYES := Lib.hid hyes
    have hI := hr.ints
    rw [splitS_length, HW4.out.1] at hI
    rw [HW4.out.1]
    have HI4 := Lib.hid hI
    clear hyes hr hI
    go_wp2_with fail
    refine HSQ.out.mono ?_
    rintro e u5 ⟨hb, hp⟩
    have HB5 := Lib.hid (HB4.out.trans (hb.mono HB4.out.size))
    have HK5 := Lib.hid (HK4.out.below hb)
    have HI5 := Lib.hid (HI4.out.below hb)
    clear hb HB4 HK4 HSQ HI4
    rcases hp with ⟨hno, _⟩ | ⟨_, g2, rfl, _, hr⟩
    · rw [HYES.out] at hno; simp at hno
    · have hJ := hr.ints
      rw [splitS_length, HW4.out.1] at hJ
      rw [HW4.out.1]
      have HJ5 := Lib.hid hJ
      clear hr hJ HYES
      obtain ⟨S, hS⟩ : ∃ S, splitS n W = S := ⟨_, rfl⟩
      rw [hS] at HI5 HJ5
      clear hS
      go_wp2_with fail
      refine (parse_known t p ep u5 (by have := HTL.out; omega) HK5.out HP.out).mono ?_
      rintro e u6 ⟨rfl, hb⟩
      have HB6 := Lib.hid (HB5.out.trans (hb.mono HB5.out.size))
      have HK6 := Lib.hid (HK5.out.below hb)
      have HI6 := Lib.hid (HI5.out.below hb)
      have HJ6 := Lib.hid (HJ5.out.below hb)
      clear hb HB5 HK5 HI5 HJ5
      go_wp2_with fail
      refine (rparse_known t p ep u6 (by have := HTL.out; omega) HP.out).mono ?_
      rintro e w' ⟨rfl, rfl⟩
      have e1 : (a == a) = true := by simp
      have e2 : (ea == ea) = true := by simp
      have e3 : (x == x) = true := by simp
      have e4 : (ex == ex) = true := by simp
      have e5 : (p == p) = true := by simp
      have e6 : (ep == ep) = true := by simp
      go_wp2_with fail
      refine (ints_any _ _ m m _ _ S S u6 (by omega) (by omega) HI6.out HJ6.out).mono ?_
      rintro e w' ⟨rfl, qq, rfl⟩
      rw [show decide (S = S) = true from by simp]
      have hb : Below u6.heap.size u6 (u6.drewN qq) := below_drewN (Below.refl _ _) qq
      generalize u6.drewN qq = u7 at *
      have HB7 := Lib.hid (HB6.out.trans (hb.mono HB6.out.size))
      have HK7 := Lib.hid (HK6.out.below hb)
      clear hb HB6 HK6 HI6 HJ6
      go_wp2_with fail
      refine (mvalid_any n u7).mono ?_
      rintro e w' ⟨rfl, rfl⟩
      go_wp2_with fail
      refine (rvalid_any n u7).mono ?_
      rintro e w' ⟨rfl, rfl⟩
      have e7 : (amtB n == amtB n) = true := by simp
      have HTX := Lib.hid (text_any n u7 HK7.out)
      go_wp2_with fail
      refine HTX.out.mono ?_
      rintro e u8 ⟨rfl, hb⟩
      have HB8 := Lib.hid (HB7.out.trans (hb.mono HB7.out.size))
      clear hb HB7 HK7 HTX
      go_wp2_with fail
      refine (rtext_any n u8).mono ?_
      rintro e w' ⟨rfl, rfl⟩
      have e8 : ((bs (textS n)).toList == (bs (textS n)).toList) = true := by simp
      go_wp2_with fail
      go_ret
      exact ⟨rfl, HB8.out⟩
end Go.Proofs.YtiapfpdkcdhhoaaDoor
