/- merge: foyerlaw38.head: the walk. -/
import Derived.Test.YtpmoelkblngamaaQMMR21
import Derived.Test.YtpmoelkblngamaaQMMR31
import Derived.Test.YtpmoelkblngamaaQMMR32
import Derived.ArgAppend

set_option linter.unusedSimpArgs false
namespace Go.Proofs.Ytpmoelkblngamaa
open Go.RowKit Go.IntWalk Go.Maps Go.WideMaps

theorem rec_new {α : Type} {k : Nat} {E : Enc α k} {w : World} {g : Nat} {T : TypeId} (l : List α) (h : w.heap[g]? = some (.cells (flat E l).toArray T (0, 0))) : RecRow E w g T l :=
  ⟨_, h, by rw [List.size_toArray, flat_len]; exact Nat.le_refl _, fun i j hi hj => by rw [List.getElem?_toArray]; exact flat_get l i j hi hj⟩
theorem scs_row {w : World} {g : Nat} {l : List Scn} (h : RecRow ScnE w g 39 l) : Scs w (.slice (some ⟨g, 0, none⟩) l.length l.length) l := ⟨_, _, rfl, h.recs, fun e => by cases e⟩

theorem below_of_grown {w w' : World} (h : w.grownBy w' none) : Below w.heap.size w w' := ⟨h.os, h.tape, h.output, h.size, fun i hi => h.block i hi (fun e => by cases e)⟩

theorem recs_two {w : World} {la : Option Addr} (h : Recs ScnE w la 3 [one0, two0, one1]) : Recs ScnE w la 2 [one0, two0] :=
  ⟨rfl, fun i hi => let ⟨b, o, e, c⟩ := h.2 i (by omega); ⟨b, o, e, fun j hj => by
    rw [c j hj]
    match i, hi with
    | 0, _ => rfl
    | 1, _ => rfl⟩⟩
theorem int7 (w : World) : Ints (w.alloc (.cells #[.int .i64 7] 3)) (some ⟨w.heap.size, 0, none⟩) 1 [7] :=
  ⟨rfl, fun k hk => ⟨w.heap.size, 0, rfl, by
    obtain rfl : k = 0 := by omega
    exact cell_of_row (j := 0) _ _ _ _ _ (World.alloc_heap_new w _)⟩⟩

/-- The head's title. -/
def gone7 : GoR := { serial := 7, shw := 0, place := 0, first := [], ca := none, cn := 0, cc := 0, person := [], la := none, ln := 0, lc := 0, total := 0, ma := none, mn := 0, mc := 0, gone := 3, oa := none, on := 0, oc := 0, ser := by decide }

set_option maxRecDepth 100000 in
set_option maxHeartbeats 3200000 in
theorem head_any (w : World) : Calls Try.prog 10 #[] w fun e w' => e = .returned (.bool true) ∧ Below w.heap.size w w' := by
  go_enter Try.func10, Try.ntmps10
  go_wp2_with fail
  refine (scan_any 1 1 10 7 1 _).mono ?_
  rintro e u1 ⟨rfl, hb⟩
  have HB1 : Hid (Below w.heap.size w u1) := hb
  clear hb
  go_wp2_with fail
  refine (scan_any 1 2 20 7 2 _).mono ?_
  rintro e u2 ⟨rfl, hb⟩
  have HB2 : Hid (Below w.heap.size w u2) := HB1.out.trans (hb.mono HB1.out.size)
  clear hb HB1
  go_upto_region 2 with fail
  have hA := Joins.below_alloc1 u2 (.cells #[.int .i64 1, .int .i64 1, .int .i64 10, .int .i64 7, .int .i64 1, .string (bs []), .int .i64 1, .int .i64 2, .int .i64 20, .int .i64 7, .int .i64 2, .string (bs [])] 39)
  have HO : Hid (RecRow ScnE (u2.alloc (.cells #[.int .i64 1, .int .i64 1, .int .i64 10, .int .i64 7, .int .i64 1, .string (bs []), .int .i64 1, .int .i64 2, .int .i64 20, .int .i64 7, .int .i64 2, .string (bs [])] 39)) u2.heap.size 39 [one0, one1]) := rec_new _ (World.alloc_heap_new u2 _)
  have HB3 := Lib.hid (HB2.out.trans (hA.mono HB2.out.size))
  clear hA HB2
  generalize u2.alloc (.cells #[.int .i64 1, .int .i64 1, .int .i64 10, .int .i64 7, .int .i64 1, .string (bs []), .int .i64 1, .int .i64 2, .int .i64 20, .int .i64 7, .int .i64 2, .string (bs [])] 39) = u3 at *
  generalize u2.heap.size = g1 at *
  go_wp2_with fail
  refine (scan_any 2 1 15 7 1 _).mono ?_
  rintro e u4 ⟨rfl, hb⟩
  have HO4 := Lib.hid (HO.out.below hb)
  have HB4 := Lib.hid (HB3.out.trans (hb.mono HB3.out.size))
  clear hb HO HB3
  go_upto_region 3 with fail
  have hA := Joins.below_alloc1 u4 (.cells #[.int .i64 2, .int .i64 1, .int .i64 15, .int .i64 7, .int .i64 1, .string (bs [])] 39)
  have HT : Hid (RecRow ScnE (u4.alloc (.cells #[.int .i64 2, .int .i64 1, .int .i64 15, .int .i64 7, .int .i64 1, .string (bs [])] 39)) u4.heap.size 39 [two0]) := rec_new _ (World.alloc_heap_new u4 _)
  have HO5 := Lib.hid (HO4.out.below hA)
  have HB5 := Lib.hid (HB4.out.trans (hA.mono HB4.out.size))
  clear hA HO4 HB4
  generalize u4.alloc (.cells #[.int .i64 2, .int .i64 1, .int .i64 15, .int .i64 7, .int .i64 1, .string (bs [])] 39) = u5 at *
  generalize u4.heap.size = g2 at *
  have hL := fun (o : Obj) => Joins.below_alloc1 u5 o
  have HLG : Hid (LogsAt (u5.alloc (.cells #[.slice (some ⟨g2, 0, none⟩) 1 1, .slice (some ⟨g1, 0, none⟩) 2 2, .slice (some ⟨g2, 0, none⟩) 1 1] 22)) (some ⟨u5.heap.size, 0, none⟩) 3 [[two0], [one0, one1], [two0]]) := by
    have hA := Joins.below_alloc1 u5 (.cells #[.slice (some ⟨g2, 0, none⟩) 1 1, .slice (some ⟨g1, 0, none⟩) 2 2, .slice (some ⟨g2, 0, none⟩) 1 1] 22)
    have hN := World.alloc_heap_new u5 (.cells #[.slice (some ⟨g2, 0, none⟩) 1 1, .slice (some ⟨g1, 0, none⟩) 2 2, .slice (some ⟨g2, 0, none⟩) 1 1] 22)
    refine ⟨rfl, fun i hi => ?_⟩
    match i, hi with
    | 0, _ => exact ⟨_, 0, _, rfl, cell_of_row (j := 0) _ _ _ _ _ hN, (scs_row HT.out).below hA⟩
    | 1, _ => exact ⟨_, 0, _, rfl, cell_of_row (j := 1) _ _ _ _ _ hN, (scs_row HO5.out).below hA⟩
    | 2, _ => exact ⟨_, 0, _, rfl, cell_of_row (j := 2) _ _ _ _ _ hN, (scs_row HT.out).below hA⟩
  clear hL
  go_wp2_with fail
  refine (merge_any _ 3 3 [[two0], [one0, one1], [two0]] _ HLG.out (by decide) (by decide)).mono ?_
  rintro e u6 ⟨la, lc, rfl, ho, ⟨hlc, hcap⟩, hb⟩
  have hA := Joins.below_alloc1 u5 (.cells #[.slice (some ⟨g2, 0, none⟩) 1 1, .slice (some ⟨g1, 0, none⟩) 2 2, .slice (some ⟨g2, 0, none⟩) 1 1] 22)
  have hb6 : Below u5.heap.size u5 u6 := hA.trans (hb.mono (by simp))
  rw [show mergeS (List.flatten [[two0], [one0, one1], [two0]]) = [one0, two0, one1] from ex_all] at ho hcap ⊢
  have HCAP : Hid (3 ≤ lc) := hcap
  have HX : Hid (Scs u6 (.slice la 3 lc) [one0, two0, one1]) := Scs.of_own ho hlc
  have HXR := Lib.hid ho.recs
  have HO6 := Lib.hid (HO5.out.below hb6)
  have HT6 := Lib.hid (HT.out.below hb6)
  have HB6 := Lib.hid (HB5.out.trans (hb6.mono HB5.out.size))
  clear hA hb hb6 ho hlc hcap HLG HO5 HT HB5
  go_upto_region 5 with fail
  have hC := World.alloc_heap_new u6 (.cells #[.int .i64 1, .int .i64 7, .int .i64 2, .int .i64 1, .int .i64 1, .int .i64 1] 48)
  have hA := Joins.below_alloc1 u6 (.cells #[.int .i64 1, .int .i64 7, .int .i64 2, .int .i64 1, .int .i64 1, .int .i64 1] 48)
  have HC7 : Hid (RecRow BlmE (u6.alloc (.cells #[.int .i64 1, .int .i64 7, .int .i64 2, .int .i64 1, .int .i64 1, .int .i64 1] 48)) u6.heap.size 48 [⟨1, 7, 2, 1, 1, 1⟩]) := rec_new _ hC
  have HX7 := Lib.hid (HX.out.below hA)
  have HXR7 := Lib.hid (HXR.out.below hA)
  have HO7 := Lib.hid (HO6.out.below hA)
  have HT7 := Lib.hid (HT6.out.below hA)
  have HB7 := Lib.hid (HB6.out.trans (hA.mono HB6.out.size))
  clear hC hA HX HXR HO6 HT6 HB6
  generalize u6.alloc (.cells #[.int .i64 1, .int .i64 7, .int .i64 2, .int .i64 1, .int .i64 1, .int .i64 1] 48) = u7 at *
  generalize u6.heap.size = cb at *
  have HW3 : Hid (∀ s ∈ [one0, two0, one1], WfS s) := by show ∀ _ ∈ _, _; unfold WfS; decide +kernel
  have HM3 : Hid ((mergeS [one0, two0, one1]).length ≤ 100) := by show _ ≤ _; decide +kernel
  go_wp2_with fail
  refine (mblames_any u7 _ [one0, two0, one1] none 0 0 [] 0 HX7.out (by decide) HM3.out (Recs.none _) (by decide) HW3.out).mono ?_
  rintro e u8 ⟨xa, xc, rfl, ho, hb⟩
  rw [show blamesS (goneOf []) 0 [one0, two0, one1] = _ from ex_a] at ho ⊢
  have HA8 := Lib.hid ho.recs
  have HC8 := Lib.hid (HC7.out.below hb)
  have HX8 := Lib.hid (HX7.out.below hb)
  have HXR8 := Lib.hid (HXR7.out.below hb)
  have HO8 := Lib.hid (HO7.out.below hb)
  have HT8 := Lib.hid (HT7.out.below hb)
  have HB8 := Lib.hid (HB7.out.trans (hb.mono HB7.out.size))
  clear ho hb HC7 HX7 HXR7 HO7 HT7 HB7
  have hA := Joins.below_alloc1 u8 (.cells (flat GoE [gone7]).toArray 60)
  have HG : Hid (RecRow GoE (u8.alloc (.cells (flat GoE [gone7]).toArray 60)) u8.heap.size 60 [gone7]) := rec_new _ (World.alloc_heap_new u8 _)
  have HC9 := Lib.hid (HC8.out.below hA)
  have HA9 := Lib.hid (HA8.out.below hA)
  have HX9 := Lib.hid (HX8.out.below hA)
  have HXR9 := Lib.hid (HXR8.out.below hA)
  have HO9 := Lib.hid (HO8.out.below hA)
  have HT9 := Lib.hid (HT8.out.below hA)
  have HB9 := Lib.hid (HB8.out.trans (hA.mono HB8.out.size))
  clear hA HC8 HA8 HX8 HXR8 HO8 HT8 HB8
  go_wp2_with fail
  refine (mblames_any _ _ [one0, two0, one1] (some ⟨u8.heap.size, 0, none⟩) 1 1 [gone7] 5 HX9.out (by decide) HM3.out HG.out.recs (by decide) HW3.out).mono ?_
  rintro e u10 ⟨ya, yc, rfl, ho, hb⟩
  rw [show blamesS (goneOf [gone7]) 5 [one0, two0, one1] = _ from ex_b] at ho ⊢
  have HA10 := Lib.hid (HA9.out.below hb)
  have HBB10 := Lib.hid ho.recs
  have HC10 := Lib.hid (HC9.out.below hb)
  have HX10 := Lib.hid (HX9.out.below hb)
  have HXR10 := Lib.hid (HXR9.out.below hb)
  have HO10 := Lib.hid (HO9.out.below hb)
  have HT10 := Lib.hid (HT9.out.below hb)
  have HB10 := Lib.hid (HB9.out.trans (hb.mono HB9.out.size))
  clear ho hb HC9 HA9 HX9 HXR9 HO9 HT9 HB9 HG
  go_upto_region 7 with fail
  obtain ⟨i0, hi, hz, hs, hby⟩ := scn_info
  obtain ⟨c0, c1, c2, c3, c4, c5⟩ := scn_cells HO10.out 1 6 rfl (show [one0, one1][1]? = some one1 from rfl)
  have c0 : u10.cell? ⟨g1, 6, none⟩ = some (.int .i64 1) := c0
  have c1 : u10.cell? ⟨g1, 6 + 1, none⟩ = some (.int .i64 2) := c1
  have c2 : u10.cell? ⟨g1, 6 + 2, none⟩ = some (.int .i64 20) := c2
  have c3 : u10.cell? ⟨g1, 6 + 3, none⟩ = some (.int .i64 7) := c3
  have c4 : u10.cell? ⟨g1, 6 + 4, none⟩ = some (.int .i64 2) := c4
  have c5 : u10.cell? ⟨g1, 6 + 5, none⟩ = some (.string (bs [])) := c5
  have hA := Joins.below_alloc1 u10 (.cells (flat ScnE [one1]).toArray 39)
  have HN : Hid (RecRow ScnE (u10.alloc (.cells (flat ScnE [one1]).toArray 39)) u10.heap.size 39 [one1]) := rec_new _ (World.alloc_heap_new u10 _)
  have HT11 := Lib.hid (HT10.out.below hA)
  have HAA := Lib.hid hA
  clear hA
  go_wp2_with (at_builtin; refine wpList_append_grows _ rfl (.tmp 28) (.tmp 32) 22 rfl 39 i0 _ 6 56 Try.underlying22 hi hz hs hby rfl (by decide) (some ⟨g2, 0, none⟩) 1 1 (flat ScnE [two0]) rfl (fun h => by cases h) rfl (fun b e => by cases e; exact flat_cells HT11.out.recs) ⟨u10.heap.size, 0, none⟩ 1 1 (flat ScnE [one1]) rfl rfl (flat_cells HN.out.recs) flat_one (by decide) (by decide) (by decide) ?_; intro v' w' hown hg; have HOW := Lib.hid hown; have HGR := Lib.hid hg; clear hown hg)
  have hg11 : Below u10.heap.size u10 w' := HAA.out.trans ((below_of_grown HGR.out).mono HAA.out.size)
  have how := HOW.out
  rw [← flat_append] at how
  obtain ⟨na, nc, rfl, hno, hnn⟩ := OwnRecs.of_row2 how
  clear how
  have HW2 : Hid (∀ s ∈ [two0, one1], WfS s) := by show ∀ _ ∈ _, _; unfold WfS; decide +kernel
  have HM2 : Hid ((mergeS [two0, one1]).length ≤ 100) := by show _ ≤ _; decide +kernel
  have HN2 : Hid (Scs w' (.slice na 2 nc) [two0, one1]) := Scs.of_own hno hnn
  clear hno hnn HOW HGR HAA HT11 HN c0 c1 c2 c3 c4 c5
  refine (mblames_any w' _ [two0, one1] none 0 0 [] 0 HN2.out (by decide) HM2.out (Recs.none _) (by decide) HW2.out).mono ?_
  rintro e u12 ⟨za, zc, rfl, ho, hb0⟩
  have hb : Below u10.heap.size u10 u12 := hg11.trans (hb0.mono hg11.size)
  rw [show blamesS (goneOf []) 0 [two0, one1] = _ from ex_c] at ho ⊢
  have HZ12 := Lib.hid ho.recs
  have HA12 := Lib.hid (HA10.out.below hb)
  have HBB12 := Lib.hid (HBB10.out.below hb)
  have HC12 := Lib.hid (HC10.out.below hb)
  have HX12 := Lib.hid (HX10.out.below hb)
  have HXR12 := Lib.hid (HXR10.out.below hb)
  have HO12 := Lib.hid (HO10.out.below hb)
  have HT12 := Lib.hid (HT10.out.below hb)
  have HB12 := Lib.hid (HB10.out.trans (hb.mono HB10.out.size))
  clear ho hb hb0 hg11 HN2 HM2 HW2 HC10 HA10 HX10 HXR10 HO10 HT10 HB10 HBB10 hi hz hs hby
  have k0 : u12.cell? ⟨cb, 0, none⟩ = some (.int .i64 1) := HC12.out.cell 0 0 (by decide) (by decide)
  have k1 : u12.cell? ⟨cb, 1, none⟩ = some (.int .i64 7) := HC12.out.cell 0 1 (by decide) (by decide)
  have k2 : u12.cell? ⟨cb, 2, none⟩ = some (.int .i64 2) := HC12.out.cell 0 2 (by decide) (by decide)
  have k3 : u12.cell? ⟨cb, 3, none⟩ = some (.int .i64 1) := HC12.out.cell 0 3 (by decide) (by decide)
  have k4 : u12.cell? ⟨cb, 4, none⟩ = some (.int .i64 1) := HC12.out.cell 0 4 (by decide) (by decide)
  have k5 : u12.cell? ⟨cb, 5, none⟩ = some (.int .i64 1) := HC12.out.cell 0 5 (by decide) (by decide)
  go_upto_region 10 with fail
  have hA := Joins.below_alloc2 u12 (.cells #[.int .i64 1, .int .i64 7, .int .i64 2, .int .i64 1, .int .i64 1, .int .i64 1, .int .i64 4, .int .i64 7, .int .i64 1, .int .i64 1, .int .i64 (-1), .int .i64 3, .int .i64 4, .int .i64 7, .int .i64 2, .int .i64 1, .int .i64 (-1), .int .i64 3] 48) (.cells #[.int .i64 3, .int .i64 0, .int .i64 1, .int .i64 1, .int .i64 (-1), .int .i64 2] 48)
  have HW13 : Hid (RecRow BlmE ((u12.alloc (.cells #[.int .i64 1, .int .i64 7, .int .i64 2, .int .i64 1, .int .i64 1, .int .i64 1, .int .i64 4, .int .i64 7, .int .i64 1, .int .i64 1, .int .i64 (-1), .int .i64 3, .int .i64 4, .int .i64 7, .int .i64 2, .int .i64 1, .int .i64 (-1), .int .i64 3] 48)).alloc (.cells #[.int .i64 3, .int .i64 0, .int .i64 1, .int .i64 1, .int .i64 (-1), .int .i64 2] 48)) u12.heap.size 48 [⟨1, 7, 2, 1, 1, 1⟩, ⟨4, 7, 1, 1, -1, 3⟩, ⟨4, 7, 2, 1, -1, 3⟩]) := rec_new _ (((Joins.below_alloc1 (u12.alloc (.cells #[.int .i64 1, .int .i64 7, .int .i64 2, .int .i64 1, .int .i64 1, .int .i64 1, .int .i64 4, .int .i64 7, .int .i64 1, .int .i64 1, .int .i64 (-1), .int .i64 3, .int .i64 4, .int .i64 7, .int .i64 2, .int .i64 1, .int .i64 (-1), .int .i64 3] 48)) (.cells #[.int .i64 3, .int .i64 0, .int .i64 1, .int .i64 1, .int .i64 (-1), .int .i64 2] 48)).block u12.heap.size (by simp)).trans (World.alloc_heap_new u12 _))
  have HR13 : Hid (RecRow BlmE ((u12.alloc (.cells #[.int .i64 1, .int .i64 7, .int .i64 2, .int .i64 1, .int .i64 1, .int .i64 1, .int .i64 4, .int .i64 7, .int .i64 1, .int .i64 1, .int .i64 (-1), .int .i64 3, .int .i64 4, .int .i64 7, .int .i64 2, .int .i64 1, .int .i64 (-1), .int .i64 3] 48)).alloc (.cells #[.int .i64 3, .int .i64 0, .int .i64 1, .int .i64 1, .int .i64 (-1), .int .i64 2] 48)) (u12.heap.size + 1) 48 [⟨3, 0, 1, 1, -1, 2⟩]) := by
    have h := World.alloc_heap_new (u12.alloc (.cells #[.int .i64 1, .int .i64 7, .int .i64 2, .int .i64 1, .int .i64 1, .int .i64 1, .int .i64 4, .int .i64 7, .int .i64 1, .int .i64 1, .int .i64 (-1), .int .i64 3, .int .i64 4, .int .i64 7, .int .i64 2, .int .i64 1, .int .i64 (-1), .int .i64 3] 48)) (.cells #[.int .i64 3, .int .i64 0, .int .i64 1, .int .i64 1, .int .i64 (-1), .int .i64 2] 48)
    rw [show (u12.alloc (.cells #[.int .i64 1, .int .i64 7, .int .i64 2, .int .i64 1, .int .i64 1, .int .i64 1, .int .i64 4, .int .i64 7, .int .i64 1, .int .i64 1, .int .i64 (-1), .int .i64 3, .int .i64 4, .int .i64 7, .int .i64 2, .int .i64 1, .int .i64 (-1), .int .i64 3] 48)).heap.size = u12.heap.size + 1 from by simp] at h
    exact rec_new _ h
  have HZ13 := Lib.hid (HZ12.out.below hA)
  have HA13 := Lib.hid (HA12.out.below hA)
  have HBB13 := Lib.hid (HBB12.out.below hA)
  have HC13 := Lib.hid (HC12.out.below hA)
  have HX13 := Lib.hid (HX12.out.below hA)
  have HXR13 := Lib.hid (HXR12.out.below hA)
  have HO13 := Lib.hid (HO12.out.below hA)
  have HT13 := Lib.hid (HT12.out.below hA)
  have HB13 := Lib.hid (HB12.out.trans (hA.mono HB12.out.size))
  clear hA HZ12 HA12 HBB12 HC12 HX12 HXR12 HO12 HT12 HB12 k0 k1 k2 k3 k4 k5
  generalize (u12.alloc (.cells #[.int .i64 1, .int .i64 7, .int .i64 2, .int .i64 1, .int .i64 1, .int .i64 1, .int .i64 4, .int .i64 7, .int .i64 1, .int .i64 1, .int .i64 (-1), .int .i64 3, .int .i64 4, .int .i64 7, .int .i64 2, .int .i64 1, .int .i64 (-1), .int .i64 3] 48)).alloc (.cells #[.int .i64 3, .int .i64 0, .int .i64 1, .int .i64 1, .int .i64 (-1), .int .i64 2] 48) = u13 at *
  generalize u12.heap.size = wb at *
  have HK : Hid (∀ w' : World, Below u13.heap.size u13 w' → w'.cell? ⟨g1, 0, none⟩ = some (.int .i64 1) ∧ w'.cell? ⟨g1, 1, none⟩ = some (.int .i64 1) ∧ w'.cell? ⟨g1, 2, none⟩ = some (.int .i64 10) ∧ w'.cell? ⟨g1, 3, none⟩ = some (.int .i64 7) ∧ w'.cell? ⟨g1, 4, none⟩ = some (.int .i64 1) ∧ w'.cell? ⟨g1, 5, none⟩ = some (.string (bs [])) ∧ w'.cell? ⟨g1, 6, none⟩ = some (.int .i64 1) ∧ w'.cell? ⟨g1, 7, none⟩ = some (.int .i64 2) ∧ w'.cell? ⟨g1, 8, none⟩ = some (.int .i64 20) ∧ w'.cell? ⟨g1, 9, none⟩ = some (.int .i64 7) ∧ w'.cell? ⟨g1, 10, none⟩ = some (.int .i64 2) ∧ w'.cell? ⟨g1, 11, none⟩ = some (.string (bs [])) ∧ w'.cell? ⟨g2, 0, none⟩ = some (.int .i64 2) ∧ w'.cell? ⟨g2, 1, none⟩ = some (.int .i64 1) ∧ w'.cell? ⟨g2, 2, none⟩ = some (.int .i64 15) ∧ w'.cell? ⟨g2, 3, none⟩ = some (.int .i64 7) ∧ w'.cell? ⟨g2, 4, none⟩ = some (.int .i64 1) ∧ w'.cell? ⟨g2, 5, none⟩ = some (.string (bs [])) ∧ w'.cell? ⟨cb, 0, none⟩ = some (.int .i64 1) ∧ w'.cell? ⟨cb, 1, none⟩ = some (.int .i64 7) ∧ w'.cell? ⟨cb, 2, none⟩ = some (.int .i64 2) ∧ w'.cell? ⟨cb, 3, none⟩ = some (.int .i64 1) ∧ w'.cell? ⟨cb, 4, none⟩ = some (.int .i64 1) ∧ w'.cell? ⟨cb, 5, none⟩ = some (.int .i64 1)) := fun w' hb =>
    ⟨Below.cell_of hb (HO13.out.cell 0 0 (by decide) (by decide)), Below.cell_of hb (HO13.out.cell 0 1 (by decide) (by decide)), Below.cell_of hb (HO13.out.cell 0 2 (by decide) (by decide)), Below.cell_of hb (HO13.out.cell 0 3 (by decide) (by decide)), Below.cell_of hb (HO13.out.cell 0 4 (by decide) (by decide)), Below.cell_of hb (HO13.out.cell 0 5 (by decide) (by decide)), Below.cell_of hb (HO13.out.cell 1 0 (by decide) (by decide)), Below.cell_of hb (HO13.out.cell 1 1 (by decide) (by decide)), Below.cell_of hb (HO13.out.cell 1 2 (by decide) (by decide)), Below.cell_of hb (HO13.out.cell 1 3 (by decide) (by decide)), Below.cell_of hb (HO13.out.cell 1 4 (by decide) (by decide)), Below.cell_of hb (HO13.out.cell 1 5 (by decide) (by decide)), Below.cell_of hb (HT13.out.cell 0 0 (by decide) (by decide)), Below.cell_of hb (HT13.out.cell 0 1 (by decide) (by decide)), Below.cell_of hb (HT13.out.cell 0 2 (by decide) (by decide)), Below.cell_of hb (HT13.out.cell 0 3 (by decide) (by decide)), Below.cell_of hb (HT13.out.cell 0 4 (by decide) (by decide)), Below.cell_of hb (HT13.out.cell 0 5 (by decide) (by decide)), Below.cell_of hb (HC13.out.cell 0 0 (by decide) (by decide)), Below.cell_of hb (HC13.out.cell 0 1 (by decide) (by decide)), Below.cell_of hb (HC13.out.cell 0 2 (by decide) (by decide)), Below.cell_of hb (HC13.out.cell 0 3 (by decide) (by decide)), Below.cell_of hb (HC13.out.cell 0 4 (by decide) (by decide)), Below.cell_of hb (HC13.out.cell 0 5 (by decide) (by decide))⟩
  refine wp_region_held_drew (S := fun w' => w'.cell? ⟨g1, 0, none⟩ = some (.int .i64 1) ∧ w'.cell? ⟨g1, 1, none⟩ = some (.int .i64 1) ∧ w'.cell? ⟨g1, 2, none⟩ = some (.int .i64 10) ∧ w'.cell? ⟨g1, 3, none⟩ = some (.int .i64 7) ∧ w'.cell? ⟨g1, 4, none⟩ = some (.int .i64 1) ∧ w'.cell? ⟨g1, 5, none⟩ = some (.string (bs [])) ∧ w'.cell? ⟨g1, 6, none⟩ = some (.int .i64 1) ∧ w'.cell? ⟨g1, 7, none⟩ = some (.int .i64 2) ∧ w'.cell? ⟨g1, 8, none⟩ = some (.int .i64 20) ∧ w'.cell? ⟨g1, 9, none⟩ = some (.int .i64 7) ∧ w'.cell? ⟨g1, 10, none⟩ = some (.int .i64 2) ∧ w'.cell? ⟨g1, 11, none⟩ = some (.string (bs [])) ∧ w'.cell? ⟨g2, 0, none⟩ = some (.int .i64 2) ∧ w'.cell? ⟨g2, 1, none⟩ = some (.int .i64 1) ∧ w'.cell? ⟨g2, 2, none⟩ = some (.int .i64 15) ∧ w'.cell? ⟨g2, 3, none⟩ = some (.int .i64 7) ∧ w'.cell? ⟨g2, 4, none⟩ = some (.int .i64 1) ∧ w'.cell? ⟨g2, 5, none⟩ = some (.string (bs [])) ∧ w'.cell? ⟨cb, 0, none⟩ = some (.int .i64 1) ∧ w'.cell? ⟨cb, 1, none⟩ = some (.int .i64 7) ∧ w'.cell? ⟨cb, 2, none⟩ = some (.int .i64 2) ∧ w'.cell? ⟨cb, 3, none⟩ = some (.int .i64 1) ∧ w'.cell? ⟨cb, 4, none⟩ = some (.int .i64 1) ∧ w'.cell? ⟨cb, 5, none⟩ = some (.int .i64 1)) (by kernel_rfl) (HK.out u13 (Below.refl _ _)) (fun hHeld => ?_)
  refine take_at (i := 0) (v := ?_) 41 rfl rfl (by kernel_rfl) (by kernel_rfl) (by kernel_rfl) (fun _ _ _ h => h) (Or.inl ⟨by rfl, ?_⟩) (by assumption) ?_
  rotate_left
  · intro w hSw; go_simp <;> with_reducible rfl
  try simp only [Act.put, List.setIfInBounds_toArray, List.set_cons_zero, List.set_cons_succ]
  refine take_at (i := 1) (v := ?_) 42 rfl rfl (by kernel_rfl) (by kernel_rfl) (by kernel_rfl) (fun _ _ _ h => h) (Or.inl ⟨by rfl, ?_⟩) (by assumption) ?_
  rotate_left
  · intro w hSw; go_simp <;> with_reducible rfl
  try simp only [Act.put, List.setIfInBounds_toArray, List.set_cons_zero, List.set_cons_succ]
  refine take_at (i := 2) (v := ?_) 43 rfl rfl (by kernel_rfl) (by kernel_rfl) (by kernel_rfl) (fun _ _ _ h => h) (Or.inl ⟨by rfl, ?_⟩) (by assumption) ?_
  rotate_left
  · intro w hSw; go_simp <;> with_reducible rfl
  try simp only [Act.put, List.setIfInBounds_toArray, List.set_cons_zero, List.set_cons_succ]
  refine take_at (i := 3) (v := ?_) 44 rfl rfl (by kernel_rfl) (by kernel_rfl) (by kernel_rfl) (fun _ _ _ h => h) (Or.inl ⟨by rfl, ?_⟩) (by assumption) ?_
  rotate_left
  · intro w hSw; go_simp <;> with_reducible rfl
  try simp only [Act.put, List.setIfInBounds_toArray, List.set_cons_zero, List.set_cons_succ]
  refine take_at (i := 4) (v := ?_) 45 rfl rfl (by kernel_rfl) (by kernel_rfl) (by kernel_rfl) (fun _ _ _ h => h) (Or.inl ⟨by rfl, ?_⟩) (by assumption) ?_
  rotate_left
  · intro w hSw; go_simp <;> with_reducible rfl
  try simp only [Act.put, List.setIfInBounds_toArray, List.set_cons_zero, List.set_cons_succ]
  refine take_at (i := 5) (v := ?_) 46 rfl rfl (by kernel_rfl) (by kernel_rfl) (by kernel_rfl) (fun _ _ _ h => h) (Or.inl ⟨by rfl, ?_⟩) (by assumption) ?_
  rotate_left
  · intro w hSw; go_simp <;> with_reducible rfl
  try simp only [Act.put, List.setIfInBounds_toArray, List.set_cons_zero, List.set_cons_succ]
  refine take_at (i := 6) (v := ?_) 47 rfl rfl (by kernel_rfl) (by kernel_rfl) (by kernel_rfl) (fun _ _ _ h => h) (Or.inl ⟨by rfl, ?_⟩) (by assumption) ?_
  rotate_left
  · intro w hSw; go_simp <;> with_reducible rfl
  try simp only [Act.put, List.setIfInBounds_toArray, List.set_cons_zero, List.set_cons_succ]
  refine take_at (i := 7) (v := ?_) 48 rfl rfl (by kernel_rfl) (by kernel_rfl) (by kernel_rfl) (fun _ _ _ h => h) (Or.inl ⟨by rfl, ?_⟩) (by assumption) ?_
  rotate_left
  · intro w hSw; go_simp <;> with_reducible rfl
  try simp only [Act.put, List.setIfInBounds_toArray, List.set_cons_zero, List.set_cons_succ]
  refine take_at (i := 8) (v := ?_) 49 rfl rfl (by kernel_rfl) (by kernel_rfl) (by kernel_rfl) (fun _ _ _ h => h) (Or.inl ⟨by rfl, ?_⟩) (by assumption) ?_
  rotate_left
  · intro w hSw; go_simp <;> with_reducible rfl
  try simp only [Act.put, List.setIfInBounds_toArray, List.set_cons_zero, List.set_cons_succ]
  refine take_at (i := 9) (v := ?_) 50 rfl rfl (by kernel_rfl) (by kernel_rfl) (by kernel_rfl) (fun _ _ _ h => h) (Or.inl ⟨by rfl, ?_⟩) (by assumption) ?_
  rotate_left
  · intro w hSw; go_simp <;> with_reducible rfl
  try simp only [Act.put, List.setIfInBounds_toArray, List.set_cons_zero, List.set_cons_succ]
  have hb14 : Below u13.heap.size u13 ((u13.alloc (.cells #[.int .i64 1, .int .i64 1, .int .i64 10, .int .i64 7, .int .i64 1, .string (bs []), .int .i64 2, .int .i64 1, .int .i64 15, .int .i64 7, .int .i64 1, .string (bs []), .int .i64 1, .int .i64 2, .int .i64 20, .int .i64 7, .int .i64 2, .string (bs [])] 39)).drew) := (Joins.below_alloc1 u13 _).drew
  have HL14 : Hid (RecRow ScnE ((u13.alloc (.cells #[.int .i64 1, .int .i64 1, .int .i64 10, .int .i64 7, .int .i64 1, .string (bs []), .int .i64 2, .int .i64 1, .int .i64 15, .int .i64 7, .int .i64 1, .string (bs []), .int .i64 1, .int .i64 2, .int .i64 20, .int .i64 7, .int .i64 2, .string (bs [])] 39)).drew) u13.heap.size 39 [one0, two0, one1]) := rec_new _ (World.alloc_heap_new u13 _)
  refine wpAnyH_ready (rs := [10]) (by kernel_rfl) (by simp) ?_
  refine AllReadyH.cons rfl (fun K' hK => ?_) AllReadyH.nil
  go_simp
  go_simp
  refine hK.out _ _ (HK.out _ hb14) (fun hHeld => ?_)
  clear hK K'
  try simp only [Act.put, List.setIfInBounds_toArray, List.set_cons_zero, List.set_cons_succ]
  generalize (u13.alloc (.cells #[.int .i64 1, .int .i64 1, .int .i64 10, .int .i64 7, .int .i64 1, .string (bs []), .int .i64 2, .int .i64 1, .int .i64 15, .int .i64 7, .int .i64 1, .string (bs []), .int .i64 1, .int .i64 2, .int .i64 20, .int .i64 7, .int .i64 2, .string (bs [])] 39)).drew = u14 at *
  refine wpAnyH_ready (rs := [11]) (by kernel_rfl) (by simp) ?_
  refine AllReadyH.cons rfl (fun K' hK => ?_) AllReadyH.nil
  go_simp
  refine (scn_same la (some ⟨u13.heap.size, 0, none⟩) 3 lc 3 3 [one0, two0, one1] [one0, two0, one1] u14 (HXR13.out.below hb14) HL14.out.recs (by decide) (by decide)).mono ?_
  rintro e u15 ⟨he, hq⟩
  rw [show decide (([one0, two0, one1] : List Scn) = ([one0, two0, one1] : List Scn)) = true from decide_eq_true rfl] at he
  subst he
  have hb15 := hb14.trans (hq.below.mono hb14.size)
  clear hq
  go_simp
  refine hK.out _ _ (HK.out _ hb15) (fun hHeld => ?_)
  clear hK K'
  try simp only [Act.put, List.setIfInBounds_toArray, List.set_cons_zero, List.set_cons_succ]
  refine take_at (i := 12) (v := ?_) 53 rfl rfl (by kernel_rfl) (by kernel_rfl) (by kernel_rfl) (fun _ _ _ h => h) (Or.inl ⟨by rfl, ?_⟩) (by assumption) ?_
  rotate_left
  · intro w hSw; go_simp <;> with_reducible rfl
  try simp only [Act.put, List.setIfInBounds_toArray, List.set_cons_zero, List.set_cons_succ]
  refine take_at (i := 13) (v := ?_) 54 rfl rfl (by kernel_rfl) (by kernel_rfl) (by kernel_rfl) (fun _ _ _ h => h) (Or.inl ⟨by rfl, ?_⟩) (by assumption) ?_
  rotate_left
  · intro w hSw; go_simp <;> with_reducible rfl
  try simp only [Act.put, List.setIfInBounds_toArray, List.set_cons_zero, List.set_cons_succ]
  refine take_at (i := 14) (v := ?_) 55 rfl rfl (by kernel_rfl) (by kernel_rfl) (by kernel_rfl) (fun _ _ _ h => h) (Or.inl ⟨by rfl, ?_⟩) (by assumption) ?_
  rotate_left
  · intro w hSw; go_simp <;> with_reducible rfl
  try simp only [Act.put, List.setIfInBounds_toArray, List.set_cons_zero, List.set_cons_succ]
  have hb16 : Below u13.heap.size u13 (u15.alloc (.cells #[.int .i64 1, .int .i64 7, .int .i64 2, .int .i64 1, .int .i64 1, .int .i64 1] 48)) := hb15.trans ((Joins.below_alloc1 u15 _).mono hb15.size)
  have HL16 : Hid (RecRow BlmE (u15.alloc (.cells #[.int .i64 1, .int .i64 7, .int .i64 2, .int .i64 1, .int .i64 1, .int .i64 1] 48)) u15.heap.size 48 [⟨1, 7, 2, 1, 1, 1⟩]) := rec_new _ (World.alloc_heap_new u15 _)
  refine wpAnyH_ready (rs := [15]) (by kernel_rfl) (by simp) ?_
  refine AllReadyH.cons rfl (fun K' hK => ?_) AllReadyH.nil
  go_simp
  go_simp
  refine hK.out _ _ (HK.out _ hb16) (fun hHeld => ?_)
  clear hK K'
  try simp only [Act.put, List.setIfInBounds_toArray, List.set_cons_zero, List.set_cons_succ]
  generalize u15.alloc (.cells #[.int .i64 1, .int .i64 7, .int .i64 2, .int .i64 1, .int .i64 1, .int .i64 1] 48) = u16 at *
  refine wpAnyH_ready (rs := [16]) (by kernel_rfl) (by simp) ?_
  refine AllReadyH.cons rfl (fun K' hK => ?_) AllReadyH.nil
  go_simp
  refine (blm_same xa (some ⟨u15.heap.size, 0, none⟩) 1 xc 1 1 [⟨1, 7, 2, 1, 1, 1⟩] [⟨1, 7, 2, 1, 1, 1⟩] u16 (HA13.out.below hb16) HL16.out.recs (by decide) (by decide)).mono ?_
  rintro e u17 ⟨he, hq⟩
  rw [show decide (([⟨1, 7, 2, 1, 1, 1⟩] : List Blm) = ([⟨1, 7, 2, 1, 1, 1⟩] : List Blm)) = true from decide_eq_true rfl] at he
  subst he
  have hb17 := hb16.trans (hq.below.mono hb16.size)
  clear hq
  go_simp
  refine hK.out _ _ (HK.out _ hb17) (fun hHeld => ?_)
  clear hK K'
  try simp only [Act.put, List.setIfInBounds_toArray, List.set_cons_zero, List.set_cons_succ]
  refine take_at (i := 17) (v := ?_) 58 rfl rfl (by kernel_rfl) (by kernel_rfl) (by kernel_rfl) (fun _ _ _ h => h) (Or.inl ⟨by rfl, ?_⟩) (by assumption) ?_
  rotate_left
  · intro w hSw; go_simp <;> with_reducible rfl
  try simp only [Act.put, List.setIfInBounds_toArray, List.set_cons_zero, List.set_cons_succ]
  refine take_at (i := 18) (v := ?_) 59 rfl rfl (by kernel_rfl) (by kernel_rfl) (by kernel_rfl) (fun _ _ _ h => h) (Or.inl ⟨by rfl, ?_⟩) (by assumption) ?_
  rotate_left
  · intro w hSw; go_simp <;> with_reducible rfl
  try simp only [Act.put, List.setIfInBounds_toArray, List.set_cons_zero, List.set_cons_succ]
  refine take_at (i := 19) (v := ?_) 60 rfl rfl (by kernel_rfl) (by kernel_rfl) (by kernel_rfl) (fun _ _ _ h => h) (Or.inl ⟨by rfl, ?_⟩) (by assumption) ?_
  rotate_left
  · intro w hSw; go_simp <;> with_reducible rfl
  try simp only [Act.put, List.setIfInBounds_toArray, List.set_cons_zero, List.set_cons_succ]
  refine take_at (i := 20) (v := ?_) 61 rfl rfl (by kernel_rfl) (by kernel_rfl) (by kernel_rfl) (fun _ _ _ h => h) (Or.inl ⟨by rfl, ?_⟩) (by assumption) ?_
  rotate_left
  · intro w hSw; go_simp <;> with_reducible rfl
  try simp only [Act.put, List.setIfInBounds_toArray, List.set_cons_zero, List.set_cons_succ]
  refine wpAnyH_ready (rs := [21]) (by kernel_rfl) (by simp) ?_
  refine AllReadyH.cons rfl (fun K' hK => ?_) AllReadyH.nil
  go_simp
  refine (blm_same ya (some ⟨wb, 0, none⟩) 3 yc 3 3 [⟨1, 7, 2, 1, 1, 1⟩, ⟨4, 7, 1, 1, -1, 3⟩, ⟨4, 7, 2, 1, -1, 3⟩] [⟨1, 7, 2, 1, 1, 1⟩, ⟨4, 7, 1, 1, -1, 3⟩, ⟨4, 7, 2, 1, -1, 3⟩] u17 (HBB13.out.below hb17) (HW13.out.recs.below hb17) (by decide) (by decide)).mono ?_
  rintro e u18 ⟨he, hq⟩
  rw [show decide (([⟨1, 7, 2, 1, 1, 1⟩, ⟨4, 7, 1, 1, -1, 3⟩, ⟨4, 7, 2, 1, -1, 3⟩] : List Blm) = ([⟨1, 7, 2, 1, 1, 1⟩, ⟨4, 7, 1, 1, -1, 3⟩, ⟨4, 7, 2, 1, -1, 3⟩] : List Blm)) = true from decide_eq_true rfl] at he
  subst he
  have hb18 := hb17.trans (hq.below.mono hb17.size)
  clear hq
  go_simp
  refine hK.out _ _ (HK.out _ hb18) (fun hHeld => ?_)
  clear hK K'
  try simp only [Act.put, List.setIfInBounds_toArray, List.set_cons_zero, List.set_cons_succ]
  refine take_at (i := 22) (v := ?_) 63 rfl rfl (by kernel_rfl) (by kernel_rfl) (by kernel_rfl) (fun _ _ _ h => h) (Or.inl ⟨by rfl, ?_⟩) (by assumption) ?_
  rotate_left
  · intro w hSw; go_simp <;> with_reducible rfl
  try simp only [Act.put, List.setIfInBounds_toArray, List.set_cons_zero, List.set_cons_succ]
  refine take_at (i := 23) (v := ?_) 64 rfl rfl (by kernel_rfl) (by kernel_rfl) (by kernel_rfl) (fun _ _ _ h => h) (Or.inl ⟨by rfl, ?_⟩) (by assumption) ?_
  rotate_left
  · intro w hSw; go_simp <;> with_reducible rfl
  try simp only [Act.put, List.setIfInBounds_toArray, List.set_cons_zero, List.set_cons_succ]
  refine take_at (i := 24) (v := ?_) 65 rfl rfl (by kernel_rfl) (by kernel_rfl) (by kernel_rfl) (fun _ _ _ h => h) (Or.inl ⟨by rfl, ?_⟩) (by assumption) ?_
  rotate_left
  · intro w hSw; go_simp <;> with_reducible rfl
  try simp only [Act.put, List.setIfInBounds_toArray, List.set_cons_zero, List.set_cons_succ]
  refine take_at (i := 25) (v := ?_) 66 rfl rfl (by kernel_rfl) (by kernel_rfl) (by kernel_rfl) (fun _ _ _ h => h) (Or.inl ⟨by rfl, ?_⟩) (by assumption) ?_
  rotate_left
  · intro w hSw; go_simp <;> with_reducible rfl
  try simp only [Act.put, List.setIfInBounds_toArray, List.set_cons_zero, List.set_cons_succ]
  refine wpAnyH_ready (rs := [26]) (by kernel_rfl) (by simp) ?_
  refine AllReadyH.cons rfl (fun K' hK => ?_) AllReadyH.nil
  go_simp
  refine (blm_same za (some ⟨wb + 1, 0, none⟩) 1 zc 1 1 [⟨3, 0, 1, 1, -1, 2⟩] [⟨3, 0, 1, 1, -1, 2⟩] u18 (HZ13.out.below hb18) (HR13.out.recs.below hb18) (by decide) (by decide)).mono ?_
  rintro e u19 ⟨he, hq⟩
  rw [show decide (([⟨3, 0, 1, 1, -1, 2⟩] : List Blm) = ([⟨3, 0, 1, 1, -1, 2⟩] : List Blm)) = true from decide_eq_true rfl] at he
  subst he
  have hb19 := hb18.trans (hq.below.mono hb18.size)
  clear hq
  go_simp
  refine hK.out _ _ (HK.out _ hb19) (fun hHeld => ?_)
  clear hK K'
  try simp only [Act.put, List.setIfInBounds_toArray, List.set_cons_zero, List.set_cons_succ]
  refine take_at (i := 27) (v := ?_) 68 rfl rfl (by kernel_rfl) (by kernel_rfl) (by kernel_rfl) (fun _ _ _ h => h) (Or.inl ⟨by rfl, ?_⟩) (by assumption) ?_
  rotate_left
  · intro w hSw; go_simp <;> with_reducible rfl
  try simp only [Act.put, List.setIfInBounds_toArray, List.set_cons_zero, List.set_cons_succ]
  refine take_at (i := 28) (v := ?_) 69 rfl rfl (by kernel_rfl) (by kernel_rfl) (by kernel_rfl) (fun _ _ _ h => h) (Or.inl ⟨by rfl, ?_⟩) (by assumption) ?_
  rotate_left
  · intro w hSw; go_simp <;> with_reducible rfl
  try simp only [Act.put, List.setIfInBounds_toArray, List.set_cons_zero, List.set_cons_succ]
  refine take_at (i := 29) (v := ?_) 70 rfl rfl (by kernel_rfl) (by kernel_rfl) (by kernel_rfl) (fun _ _ _ h => h) (Or.inl ⟨by rfl, ?_⟩) (by assumption) ?_
  rotate_left
  · intro w hSw; go_simp <;> with_reducible rfl
  try simp only [Act.put, List.setIfInBounds_toArray, List.set_cons_zero, List.set_cons_succ]
  refine wpAnyH_ready (rs := [30]) (by kernel_rfl) (by simp) ?_
  refine AllReadyH.cons rfl (fun K' hK => ?_) AllReadyH.nil
  go_simp
  refine (inside_any u19 _ [one0, two0, one1] (HX13.out.below hb19) (by decide) (Nat.le_trans HM3.out (by decide)) HW3.out).mono ?_
  rintro e u20 ⟨v20, rfl, hio, hbl⟩
  rw [ex_in] at hio
  obtain ⟨pa, pc, rfl, _⟩ := Ints.of_own hio
  have hb20 := hb19.trans (hbl.mono hb19.size)
  clear hio hbl
  go_simp
  refine hK.out _ _ (HK.out _ hb20) (fun hHeld => ?_)
  clear hK K'
  try simp only [Act.put, List.setIfInBounds_toArray, List.set_cons_zero, List.set_cons_succ]
  refine take_at (i := 31) (v := ?_) 72 rfl rfl (by kernel_rfl) (by kernel_rfl) (by kernel_rfl) (fun _ _ _ h => h) (Or.inl ⟨by rfl, ?_⟩) (by assumption) ?_
  rotate_left
  · intro w hSw; go_simp <;> with_reducible rfl
  try simp only [Act.put, List.setIfInBounds_toArray, List.set_cons_zero, List.set_cons_succ]
  refine take_at (i := 32) (v := ?_) 73 rfl rfl (by kernel_rfl) (by kernel_rfl) (by kernel_rfl) (fun _ _ _ h => h) (Or.inl ⟨by rfl, ?_⟩) (by assumption) ?_
  rotate_left
  · intro w hSw; go_simp <;> with_reducible rfl
  try simp only [Act.put, List.setIfInBounds_toArray, List.set_cons_zero, List.set_cons_succ]
  refine take_at (i := 33) (v := ?_) 74 rfl rfl (by kernel_rfl) (by kernel_rfl) (by kernel_rfl) (fun _ _ _ h => h) (Or.inl ⟨by rfl, ?_⟩) (by assumption) ?_
  rotate_left
  · intro w hSw; go_simp <;> with_reducible rfl
  try simp only [Act.put, List.setIfInBounds_toArray, List.set_cons_zero, List.set_cons_succ]
  refine take_at (i := 34) (v := ?_) 75 rfl rfl (by kernel_rfl) (by kernel_rfl) (by kernel_rfl) (fun _ _ _ h => h) (Or.inl ⟨by rfl, ?_⟩) (by assumption) ?_
  rotate_left
  · intro w hSw; go_simp <;> with_reducible rfl
  try simp only [Act.put, List.setIfInBounds_toArray, List.set_cons_zero, List.set_cons_succ]
  refine take_at (i := 35) (v := ?_) 76 rfl rfl (by kernel_rfl) (by kernel_rfl) (by kernel_rfl) (fun _ _ _ h => h) (Or.inl ⟨by rfl, ?_⟩) (by assumption) ?_
  rotate_left
  · intro w hSw; go_simp <;> with_reducible rfl
  try simp only [Act.put, List.setIfInBounds_toArray, List.set_cons_zero, List.set_cons_succ]
  obtain ⟨lb, lo, rfl, _⟩ := HXR13.out.2 0 (by decide)
  have HX2 := Lib.hid (recs_two HXR13.out)
  have HW2 : Hid (∀ s ∈ [one0, two0], WfS s) := by show ∀ _ ∈ _, _; unfold WfS; decide +kernel
  have HM2 : Hid ((mergeS [one0, two0]).length ≤ 1000) := by show _ ≤ _; decide +kernel
  refine take_at (i := 36) (v := .slice (some ⟨lb, lo, none⟩) 2 lc) 77 rfl rfl (by kernel_rfl) (by kernel_rfl) (by kernel_rfl) (fun _ _ _ h => h) (Or.inl ⟨by rfl, ?_⟩) (by assumption) ?_
  · intro w hSw
    have hcc := HCAP.out
    go_simp
    first | (intro hh; omega) | (rw [if_pos ⟨by omega, by omega⟩]) | (rw [if_pos (by omega)])
  try simp only [Act.put, List.setIfInBounds_toArray, List.set_cons_zero, List.set_cons_succ]
  refine wpAnyH_ready (rs := [37, 38]) (by kernel_rfl) (by simp) ?_
  refine AllReadyH.cons rfl (fun K' hK => ?_) (AllReadyH.cons rfl (fun K' hK => ?_) AllReadyH.nil)
  · go_simp
    refine (inside_any u20 _ [one0, two0] ⟨_, _, rfl, HX2.out.below hb20, fun e => by cases e⟩ (by decide) HM2.out HW2.out).mono ?_
    rintro e u21 ⟨v21, rfl, hio, hbl⟩
    rw [ex_in2] at hio
    obtain ⟨pb, pd, rfl, hpb⟩ := Ints.of_own hio
    have hb21 := hb20.trans (hbl.mono hb20.size)
    clear hio hbl
    go_simp
    refine hK.out _ _ (HK.out _ hb21) (fun hHeld => ?_)
    clear hK K'
    try simp only [Act.put, List.setIfInBounds_toArray, List.set_cons_zero, List.set_cons_succ]
    have hb22 : Below u13.heap.size u13 (u21.alloc (.cells #[.int .i64 7] 3)) := hb21.trans ((Joins.below_alloc1 u21 _).mono hb21.size)
    have hN := int7 u21
    have hpb2 := hpb.below (Joins.below_alloc1 u21 (.cells #[.int .i64 7] 3))
    refine wpAnyH_ready (rs := [38]) (by kernel_rfl) (by simp) ?_
    refine AllReadyH.cons rfl (fun K' hK => ?_) AllReadyH.nil
    go_simp
    go_simp
    refine hK.out _ _ (HK.out _ hb22) (fun hHeld => ?_)
    clear hK K'
    try simp only [Act.put, List.setIfInBounds_toArray, List.set_cons_zero, List.set_cons_succ]
    generalize u21.alloc (.cells #[.int .i64 7] 3) = u22 at *
    refine wpAnyH_ready (rs := [39]) (by kernel_rfl) (by simp) ?_
    refine AllReadyH.cons rfl (fun K' hK => ?_) AllReadyH.nil
    go_simp
    refine (ints_any pb (some ⟨u21.heap.size, 0, none⟩) 1 pd 1 1 [7] [7] u22 hpb2 hN (by decide) (by decide)).mono ?_
    rintro e u23 ⟨he, hq⟩
    rw [show decide (([7] : List Int) = [7]) = true from decide_eq_true rfl] at he
    subst he
    have hb23 := hb22.trans (hq.below.mono hb22.size)
    clear hq
    go_simp
    refine hK.out _ _ (HK.out _ hb23) (fun hHeld => ?_)
    clear hK K'
    try simp only [Act.put, List.setIfInBounds_toArray, List.set_cons_zero, List.set_cons_succ]
    refine take_at (i := 40) (v := ?_) 81 rfl rfl (by kernel_rfl) (by kernel_rfl) (by kernel_rfl) (fun _ _ _ h => h) (Or.inl ⟨by rfl, ?_⟩) (by assumption) ?_
    rotate_left
    · intro w hSw; go_simp <;> with_reducible rfl
    try simp only [Act.put, List.setIfInBounds_toArray, List.set_cons_zero, List.set_cons_succ]
    refine take_at (i := 41) (v := ?_) 0 rfl rfl (by kernel_rfl) (by kernel_rfl) (by kernel_rfl) (fun _ _ _ h => h) (Or.inl ⟨by rfl, ?_⟩) (by assumption) ?_
    rotate_left
    · intro w hSw; go_simp <;> with_reducible rfl
    try simp only [Act.put, List.setIfInBounds_toArray, List.set_cons_zero, List.set_cons_succ]
    refine wpAnyH_done (by kernel_rfl) ?_ _
    go_wp2_with fail
    go_ret
    exact ⟨rfl, HB13.out.trans (hb23.mono HB13.out.size)⟩
  · have hb21 : Below u13.heap.size u13 (u20.alloc (.cells #[.int .i64 7] 3)) := hb20.trans ((Joins.below_alloc1 u20 _).mono hb20.size)
    have hN := int7 u20
    go_simp
    go_simp
    refine hK.out _ _ (HK.out _ hb21) (fun hHeld => ?_)
    clear hK K'
    try simp only [Act.put, List.setIfInBounds_toArray, List.set_cons_zero, List.set_cons_succ]
    generalize u20.alloc (.cells #[.int .i64 7] 3) = u21 at *
    refine wpAnyH_ready (rs := [37]) (by kernel_rfl) (by simp) ?_
    refine AllReadyH.cons rfl (fun K' hK => ?_) AllReadyH.nil
    go_simp
    refine (inside_any u21 _ [one0, two0] ⟨_, _, rfl, HX2.out.below hb21, fun e => by cases e⟩ (by decide) HM2.out HW2.out).mono ?_
    rintro e u22 ⟨v22, rfl, hio, hbl⟩
    rw [ex_in2] at hio
    obtain ⟨pb, pd, rfl, hpb⟩ := Ints.of_own hio
    have hb22 := hb21.trans (hbl.mono hb21.size)
    have hN2 := hN.below hbl
    clear hio hbl
    go_simp
    refine hK.out _ _ (HK.out _ hb22) (fun hHeld => ?_)
    clear hK K'
    try simp only [Act.put, List.setIfInBounds_toArray, List.set_cons_zero, List.set_cons_succ]
    refine wpAnyH_ready (rs := [39]) (by kernel_rfl) (by simp) ?_
    refine AllReadyH.cons rfl (fun K' hK => ?_) AllReadyH.nil
    go_simp
    refine (ints_any pb (some ⟨u20.heap.size, 0, none⟩) 1 pd 1 1 [7] [7] u22 hpb hN2 (by decide) (by decide)).mono ?_
    rintro e u23 ⟨he, hq⟩
    rw [show decide (([7] : List Int) = [7]) = true from decide_eq_true rfl] at he
    subst he
    have hb23 := hb22.trans (hq.below.mono hb22.size)
    clear hq
    go_simp
    refine hK.out _ _ (HK.out _ hb23) (fun hHeld => ?_)
    clear hK K'
    try simp only [Act.put, List.setIfInBounds_toArray, List.set_cons_zero, List.set_cons_succ]
    refine take_at (i := 40) (v := ?_) 81 rfl rfl (by kernel_rfl) (by kernel_rfl) (by kernel_rfl) (fun _ _ _ h => h) (Or.inl ⟨by rfl, ?_⟩) (by assumption) ?_
    rotate_left
    · intro w hSw; go_simp <;> with_reducible rfl
    try simp only [Act.put, List.setIfInBounds_toArray, List.set_cons_zero, List.set_cons_succ]
    refine take_at (i := 41) (v := ?_) 0 rfl rfl (by kernel_rfl) (by kernel_rfl) (by kernel_rfl) (fun _ _ _ h => h) (Or.inl ⟨by rfl, ?_⟩) (by assumption) ?_
    rotate_left
    · intro w hSw; go_simp <;> with_reducible rfl
    try simp only [Act.put, List.setIfInBounds_toArray, List.set_cons_zero, List.set_cons_succ]
    refine wpAnyH_done (by kernel_rfl) ?_ _
    go_wp2_with fail
    go_ret
    exact ⟨rfl, HB13.out.trans (hb23.mono HB13.out.size)⟩
end Go.Proofs.Ytpmoelkblngamaa
