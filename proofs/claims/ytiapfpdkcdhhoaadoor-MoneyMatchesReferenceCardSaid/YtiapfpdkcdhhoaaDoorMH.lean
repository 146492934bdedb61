/- foyerlaw01.head: the walk. -/
import Derived.Test.YtiapfpdkcdhhoaaDoorMU
import Derived.Test.YtiapfpdkcdhhoaaDoorMU2
namespace Go.Proofs.YtiapfpdkcdhhoaaDoor
open Go.RowKit Go.IntWalk

theorem al (w : World) (x : Obj) : Below w.heap.size w (w.alloc x) := (Below.refl _ _).alloc (Nat.le_refl _) _

/-- What a law's call ends with. -/
def LawPost (w : World) (e : Ending) (w' : World) : Prop := e = .returned (.bool true) ∧ Below w.heap.size w w'

theorem text_known (n : Int) (t : List UInt8) (w : World) (hk : Kit w) (h : textS n = t) : Calls Tryd.prog 16 #[.int .i64 n] w fun e w' => e = .returned (.string (bs t)) ∧ Below w.heap.size w w' := by
  have := text_any n w hk
  rw [h] at this
  exact this

theorem parse_known (t : List UInt8) (x y : Int) (w : World) (ht : t.length ≤ 1000000) (hk : Kit w) (h : parseV t = (x, y)) : Calls Tryd.prog 17 #[.string (bs t)] w fun e w' => e = .returned (.tuple #[.int .i64 x, .int .i64 y]) ∧ Below w.heap.size w w' := by
  have := parse_any t ht w hk
  unfold ParsePost at this
  rw [h] at this
  exact this

theorem s100 : splitS 100 [1, 1, 1] = [34, 33, 33] := by decide
theorem sm100 : splitS (-100) [1, 1, 1] = [-34, -33, -33] := by decide
theorem s5 : splitS 5 [0, 3, 1] = [0, 4, 1] := by decide
theorem b100 : splitB 100 [1, 1, 1] = true := by decide
theorem bm100 : splitB (-100) [1, 1, 1] = true := by decide
theorem b5 : splitB 5 [0, 3, 1] = true := by decide
theorem h5 : shareS 5 1 2 = (2, 0) := by decide
theorem h7 : shareS 7 1 2 = (4, 0) := by decide
theorem hm5 : shareS (-5) 1 2 = (-2, 0) := by decide

set_option maxRecDepth 20000 in
set_option maxHeartbeats 6400000 in
theorem head_any (w : World) (hk : Kit w) : Calls Tryd.prog 10 #[] w fun e w' => e = .returned (.bool true) ∧ Below w.heap.size w w' := by
  have HK := Lib.hid hk
  clear hk
  go_enter Tryd.func10, Tryd.ntmps10
  go_upto_region 2 with fail
  have HB : Hid (Below w.heap.size w (w.alloc (.cells #[.int .i64 1, .int .i64 2] 23))) := al _ _
  have HX : Hid (Box0 (w.alloc (.cells #[.int .i64 1, .int .i64 2] 23)) w.heap.size 1 2) := ⟨by simp [World.cell?_alloc_new], by simp [World.cell?_alloc_new]⟩
  generalize (w.alloc (.cells #[.int .i64 1, .int .i64 2] 23)) = u0 at *
  have x0 := HX.out.1
  have x1 := HX.out.2
  go_wp2_with fail
  refine (share_known 5 1 2 _ _ _ h5).mono ?_
  rintro e u1 ⟨rfl, hb⟩
  have y0 := Below.cell_of hb x0
  have y1 := Below.cell_of hb x1
  clear x0 x1
  have x0 := y0
  have x1 := y1
  clear y0 y1
  have HB' := Lib.hid (HB.out.trans (hb.mono HB.out.size))
  clear HB  hb
  have HB := HB'
  clear HB'
  go_wp2_with fail
  refine (share_known 7 1 2 _ _ _ h7).mono ?_
  rintro e u2 ⟨rfl, hb⟩
  have y0 := Below.cell_of hb x0
  have y1 := Below.cell_of hb x1
  clear x0 x1
  have x0 := y0
  have x1 := y1
  clear y0 y1
  have HB' := Lib.hid (HB.out.trans (hb.mono HB.out.size))
  clear HB  hb
  have HB := HB'
  clear HB'
  go_wp2_with fail
  refine (share_known (-5) 1 2 _ _ _ hm5).mono ?_
  rintro e u3 ⟨rfl, hb⟩
  have y0 := Below.cell_of hb x0
  have y1 := Below.cell_of hb x1
  clear x0 x1
  have x0 := y0
  have x1 := y1
  clear y0 y1
  have HB' := Lib.hid (HB.out.trans (hb.mono HB.out.size))
  clear HB  hb
  have HB := HB'
  clear HB'
  clear x0 x1 HX
  have hw : Hid (Ints (u3.alloc (.cells #[.int .i64 1, .int .i64 1, .int .i64 1] 3)) (some ⟨u3.heap.size, 0, none⟩) 3 [1, 1, 1]) := ints3 _ _ _ _ _
  have hb : Below u3.heap.size u3 (u3.alloc (.cells #[.int .i64 1, .int .i64 1, .int .i64 1] 3)) := al _ _
  go_wp2_with (fail)
  obtain ⟨g0, hg0⟩ : ∃ z, u3.heap.size = z := ⟨_, rfl⟩
  have hb2 := hb
  generalize hv : u3.alloc (.cells #[.int .i64 1, .int .i64 1, .int .i64 1] 3) = u4 at *
  clear hv
  have HB' := Lib.hid (HB.out.trans (hb.mono HB.out.size))
  clear HB  hb
  have HB := HB'
  clear HB'
  clear hb2
  refine (split_known 100 [1, 1, 1] [34, 33, 33] _ 3 _ u4 (by omega) hw.out b100 s100).mono ?_
  rintro e u5 ⟨q0, rfl, hb, hi⟩
  have HB' := Lib.hid (HB.out.trans (hb.mono HB.out.size))
  clear HB  hb
  have HB := HB'
  clear HB'
  have HS0 := Lib.hid hi
  clear hi hw hg0
  have hw : Hid (Ints (u5.alloc (.cells #[.int .i64 1, .int .i64 1, .int .i64 1] 3)) (some ⟨u5.heap.size, 0, none⟩) 3 [1, 1, 1]) := ints3 _ _ _ _ _
  have hb : Below u5.heap.size u5 (u5.alloc (.cells #[.int .i64 1, .int .i64 1, .int .i64 1] 3)) := al _ _
  go_wp2_with (fail)
  obtain ⟨g1, hg1⟩ : ∃ z, u5.heap.size = z := ⟨_, rfl⟩
  have hb2 := hb
  generalize hv : u5.alloc (.cells #[.int .i64 1, .int .i64 1, .int .i64 1] 3) = u6 at *
  clear hv
  have HB' := Lib.hid (HB.out.trans (hb.mono HB.out.size))
  have HS0' := Lib.hid (HS0.out.below hb)
  clear HB HS0 hb
  have HB := HB'
  clear HB'
  have HS0 := HS0'
  clear HS0'
  clear hb2
  refine (split_known (-100) [1, 1, 1] [-34, -33, -33] _ 3 _ u6 (by omega) hw.out bm100 sm100).mono ?_
  rintro e u7 ⟨q1, rfl, hb, hi⟩
  have HB' := Lib.hid (HB.out.trans (hb.mono HB.out.size))
  have HS0' := Lib.hid (HS0.out.below hb)
  clear HB HS0 hb
  have HB := HB'
  clear HB'
  have HS0 := HS0'
  clear HS0'
  have HS1 := Lib.hid hi
  clear hi hw hg1
  have hw : Hid (Ints (u7.alloc (.cells #[.int .i64 0, .int .i64 3, .int .i64 1] 3)) (some ⟨u7.heap.size, 0, none⟩) 3 [0, 3, 1]) := ints3 _ _ _ _ _
  have hb : Below u7.heap.size u7 (u7.alloc (.cells #[.int .i64 0, .int .i64 3, .int .i64 1] 3)) := al _ _
  go_wp2_with (fail)
  obtain ⟨g2, hg2⟩ : ∃ z, u7.heap.size = z := ⟨_, rfl⟩
  have hb2 := hb
  generalize hv : u7.alloc (.cells #[.int .i64 0, .int .i64 3, .int .i64 1] 3) = u8 at *
  clear hv
  have HB' := Lib.hid (HB.out.trans (hb.mono HB.out.size))
  have HS0' := Lib.hid (HS0.out.below hb)
  have HS1' := Lib.hid (HS1.out.below hb)
  clear HB HS0 HS1 hb
  have HB := HB'
  clear HB'
  have HS0 := HS0'
  clear HS0'
  have HS1 := HS1'
  clear HS1'
  clear hb2
  refine (split_known 5 [0, 3, 1] [0, 4, 1] _ 3 _ u8 (by omega) hw.out b5 s5).mono ?_
  rintro e u9 ⟨q2, rfl, hb, hi⟩
  have HB' := Lib.hid (HB.out.trans (hb.mono HB.out.size))
  have HS0' := Lib.hid (HS0.out.below hb)
  have HS1' := Lib.hid (HS1.out.below hb)
  clear HB HS0 HS1 hb
  have HB := HB'
  clear HB'
  have HS0 := HS0'
  clear HS0'
  have HS1 := HS1'
  clear HS1'
  have HS2 := Lib.hid hi
  clear hi hw hg2
  have hp := Lib.hid (parse_known [49, 50, 46, 48, 53] 1205 0 u9 (by decide) (HK.out.below HB.out) p1205)
  go_wp2_with fail
  refine hp.out.mono ?_
  rintro e u10 ⟨rfl, hb⟩
  have HB' := Lib.hid (HB.out.trans (hb.mono HB.out.size))
  have HS0' := Lib.hid (HS0.out.below hb)
  have HS1' := Lib.hid (HS1.out.below hb)
  have HS2' := Lib.hid (HS2.out.below hb)
  clear HB HS0 HS1 HS2 hb
  have HB := HB'
  clear HB'
  have HS0 := HS0'
  clear HS0'
  have HS1 := HS1'
  clear HS1'
  have HS2 := HS2'
  clear HS2'
  clear hp
  have hp := Lib.hid (parse_known [45, 48, 46, 48, 48] 0 4 u10 (by decide) (HK.out.below HB.out) pm0)
  go_wp2_with fail
  refine hp.out.mono ?_
  rintro e u11 ⟨rfl, hb⟩
  have HB' := Lib.hid (HB.out.trans (hb.mono HB.out.size))
  have HS0' := Lib.hid (HS0.out.below hb)
  have HS1' := Lib.hid (HS1.out.below hb)
  have HS2' := Lib.hid (HS2.out.below hb)
  clear HB HS0 HS1 HS2 hb
  have HB := HB'
  clear HB'
  have HS0 := HS0'
  clear HS0'
  have HS1 := HS1'
  clear HS1'
  have HS2 := HS2'
  clear HS2'
  clear hp
  have hw : Hid (Ints (u11.alloc (.cells #[.int .i64 34, .int .i64 33, .int .i64 33] 3)) (some ⟨u11.heap.size, 0, none⟩) 3 [34, 33, 33]) := ints3 _ _ _ _ _
  have hb : Below u11.heap.size u11 (u11.alloc (.cells #[.int .i64 34, .int .i64 33, .int .i64 33] 3)) := al _ _
  go_wp2_with (fail)
  generalize hv : u11.alloc (.cells #[.int .i64 34, .int .i64 33, .int .i64 33] 3) = u12 at *
  clear hv
  have HB' := Lib.hid (HB.out.trans (hb.mono HB.out.size))
  have HS0' := Lib.hid (HS0.out.below hb)
  have HS1' := Lib.hid (HS1.out.below hb)
  have HS2' := Lib.hid (HS2.out.below hb)
  clear HB HS0 HS1 HS2 hb
  have HB := HB'
  clear HB'
  have HS0 := HS0'
  clear HS0'
  have HS1 := HS1'
  clear HS1'
  have HS2 := HS2'
  clear HS2'
  refine (ints_any _ _ 3 3 _ _ [34, 33, 33] [34, 33, 33] u12 (by omega) (by omega) HS0.out hw.out).mono ?_
  rintro e w' ⟨rfl, qq, rfl⟩
  rw [show decide (([34, 33, 33] : List Int) = [34, 33, 33]) = true from by decide]
  have hb : Below u12.heap.size u12 (u12.drewN qq) := below_drewN (Below.refl _ _) qq
  generalize hv : u12.drewN qq = u13 at *
  clear hv hw
  have HB' := Lib.hid (HB.out.trans (hb.mono HB.out.size))
  have HS0' := Lib.hid (HS0.out.below hb)
  have HS1' := Lib.hid (HS1.out.below hb)
  have HS2' := Lib.hid (HS2.out.below hb)
  clear HB HS0 HS1 HS2 hb
  have HB := HB'
  clear HB'
  have HS0 := HS0'
  clear HS0'
  have HS1 := HS1'
  clear HS1'
  have HS2 := HS2'
  clear HS2'
  have hw : Hid (Ints (u13.alloc (.cells #[.int .i64 (-34), .int .i64 (-33), .int .i64 (-33)] 3)) (some ⟨u13.heap.size, 0, none⟩) 3 [(-34), (-33), (-33)]) := ints3 _ _ _ _ _
  have hb : Below u13.heap.size u13 (u13.alloc (.cells #[.int .i64 (-34), .int .i64 (-33), .int .i64 (-33)] 3)) := al _ _
  go_wp2_with (fail)
  generalize hv : u13.alloc (.cells #[.int .i64 (-34), .int .i64 (-33), .int .i64 (-33)] 3) = u14 at *
  clear hv
  have HB' := Lib.hid (HB.out.trans (hb.mono HB.out.size))
  have HS0' := Lib.hid (HS0.out.below hb)
  have HS1' := Lib.hid (HS1.out.below hb)
  have HS2' := Lib.hid (HS2.out.below hb)
  clear HB HS0 HS1 HS2 hb
  have HB := HB'
  clear HB'
  have HS0 := HS0'
  clear HS0'
  have HS1 := HS1'
  clear HS1'
  have HS2 := HS2'
  clear HS2'
  refine (ints_any _ _ 3 3 _ _ [(-34), (-33), (-33)] [(-34), (-33), (-33)] u14 (by omega) (by omega) HS1.out hw.out).mono ?_
  rintro e w' ⟨rfl, qq, rfl⟩
  rw [show decide (([(-34), (-33), (-33)] : List Int) = [(-34), (-33), (-33)]) = true from by decide]
  have hb : Below u14.heap.size u14 (u14.drewN qq) := below_drewN (Below.refl _ _) qq
  generalize hv : u14.drewN qq = u15 at *
  clear hv hw
  have HB' := Lib.hid (HB.out.trans (hb.mono HB.out.size))
  have HS0' := Lib.hid (HS0.out.below hb)
  have HS1' := Lib.hid (HS1.out.below hb)
  have HS2' := Lib.hid (HS2.out.below hb)
  clear HB HS0 HS1 HS2 hb
  have HB := HB'
  clear HB'
  have HS0 := HS0'
  clear HS0'
  have HS1 := HS1'
  clear HS1'
  have HS2 := HS2'
  clear HS2'
  have hw : Hid (Ints (u15.alloc (.cells #[.int .i64 0, .int .i64 4, .int .i64 1] 3)) (some ⟨u15.heap.size, 0, none⟩) 3 [0, 4, 1]) := ints3 _ _ _ _ _
  have hb : Below u15.heap.size u15 (u15.alloc (.cells #[.int .i64 0, .int .i64 4, .int .i64 1] 3)) := al _ _
  go_wp2_with (fail)
  generalize hv : u15.alloc (.cells #[.int .i64 0, .int .i64 4, .int .i64 1] 3) = u16 at *
  clear hv
  have HB' := Lib.hid (HB.out.trans (hb.mono HB.out.size))
  have HS0' := Lib.hid (HS0.out.below hb)
  have HS1' := Lib.hid (HS1.out.below hb)
  have HS2' := Lib.hid (HS2.out.below hb)
  clear HB HS0 HS1 HS2 hb
  have HB := HB'
  clear HB'
  have HS0 := HS0'
  clear HS0'
  have HS1 := HS1'
  clear HS1'
  have HS2 := HS2'
  clear HS2'
  refine (ints_any _ _ 3 3 _ _ [0, 4, 1] [0, 4, 1] u16 (by omega) (by omega) HS2.out hw.out).mono ?_
  rintro e w' ⟨rfl, qq, rfl⟩
  rw [show decide (([0, 4, 1] : List Int) = [0, 4, 1]) = true from by decide]
  have hb : Below u16.heap.size u16 (u16.drewN qq) := below_drewN (Below.refl _ _) qq
  generalize hv : u16.drewN qq = u17 at *
  clear hv hw
  have HB' := Lib.hid (HB.out.trans (hb.mono HB.out.size))
  have HS0' := Lib.hid (HS0.out.below hb)
  have HS1' := Lib.hid (HS1.out.below hb)
  have HS2' := Lib.hid (HS2.out.below hb)
  clear HB HS0 HS1 HS2 hb
  have HB := HB'
  clear HB'
  have HS0 := HS0'
  clear HS0'
  have HS1 := HS1'
  clear HS1'
  have HS2 := HS2'
  clear HS2'
  clear HS0 HS1 HS2
  have hp := Lib.hid (text_known 1205 [49, 50, 46, 48, 53] u17 (HK.out.below HB.out) t1205)
  have hq : (bs [49, 50, 46, 48, 53]).toList = [49, 50, 46, 48, 53] := bs_toList _
  go_wp2_with fail
  refine hp.out.mono ?_
  rintro e u18 ⟨rfl, hb⟩
  have HB' := Lib.hid (HB.out.trans (hb.mono HB.out.size))
  clear HB  hb
  have HB := HB'
  clear HB'
  clear hp
  have hp := Lib.hid (text_known (-50) [45, 48, 46, 53, 48] u18 (HK.out.below HB.out) tm50)
  have hq : (bs [45, 48, 46, 53, 48]).toList = [45, 48, 46, 53, 48] := bs_toList _
  go_wp2_with fail
  refine hp.out.mono ?_
  rintro e u19 ⟨rfl, hb⟩
  have HB' := Lib.hid (HB.out.trans (hb.mono HB.out.size))
  clear HB  hb
  have HB := HB'
  clear HB'
  clear hp
  have hp := Lib.hid (text_known 0 [48, 46, 48, 48] u19 (HK.out.below HB.out) t0)
  have hq : (bs [48, 46, 48, 48]).toList = [48, 46, 48, 48] := bs_toList _
  go_wp2_with fail
  refine hp.out.mono ?_
  rintro e u20 ⟨rfl, hb⟩
  have HB' := Lib.hid (HB.out.trans (hb.mono HB.out.size))
  clear HB  hb
  have HB := HB'
  clear HB'
  clear hp
  go_wp2_with fail
  refine (mvalid_any 1000000001 u20).mono ?_
  rintro e w' ⟨rfl, rfl⟩
  rw [show amtB 1000000001 = false from by decide]
  go_wp2_with fail
  go_ret
  exact ⟨rfl, HB.out⟩
end Go.Proofs.YtiapfpdkcdhhoaaDoor
