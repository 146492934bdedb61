/- hall: foyerlaw10.head: the walk. -/
import Derived.Test.YtmcdhggnpfhlmaaGreatQHMR24

set_option linter.unusedVariables false
set_option linter.unusedSimpArgs false
namespace Go.Proofs.YtmcdhggnpfhlmaaGreat
open Go.RowKit Go.IntWalk
set_option linter.unusedSimpArgs false
set_option linter.unusedVariables false

theorem pcell {w : World} {b o n : Nat} {L : List PlaceR} (h : Recs PlaceE w (some ⟨b, o, none⟩) n L) (i j : Nat) (hi : i < n) (hj : j < 9) {v : Value} (hv : rc PlaceE L i j = v) {q : Nat} (hq : o + i * 9 + j = q) : w.cell? ⟨b, q, none⟩ = some v := by
 obtain ⟨b', o', e, hc⟩ := h.2 i hi
 simp only [Option.some.injEq, Addr.mk.injEq, and_true] at e
 obtain ⟨rfl, rfl⟩ := e
 rw [← hq, hc j hj, hv]
theorem nil_rows (w : World) : Rcs RowE w (.slice none ([] : List RowR).length 0) [] := ⟨none, 0, rfl, Recs.none w, fun _ => rfl⟩

set_option maxRecDepth 100000 in
set_option maxHeartbeats 64000000 in
theorem head_any (w : World) : Calls Tryz.prog 4 #[] w fun e w' => e = .returned (.bool true) ∧ Below w.heap.size w w' := by
 refine enter_fr (N := 159) [] (Tryz.func4) rfl Tryz.ntmps4 (by rfl) (fun a hF => ?_);replace hF := hF.kp [] rfl;revert hF;refine zrs [2] [] fun a hF => ?_
 have HB0 : Hid (Below w.heap.size w w) := Below.refl _ _
 refine wp_seq_k (fun K hK => ?_);refine region_seq (l := [0, 1, 2, 3, 4, 5, 6]) (by kernel_rfl) ?_;revert hF;refine zos fun K hK => ?_
 refine (example_any w none 0 0 [] (Recs.none _) (by omega) (fun e => by first | rfl | cases e) (fun m hm => by cases hm) none 0 [] (nil_rows _) (by simp) (fun r hr => by cases hr)).mono ?_
 rintro e we1 ⟨la, lc, g2, g3, g4, g5, rfl, hx⟩
 have HX := Lib.hid hx
 clear hx
 refine hK _ _ (fun a hF => ?_);clear hK K;revert hF;refine zos fun K hK => ?_
 refine (build_any we1 (exHall (exLev (exRow none 0 0 [] :: []) la ((exRow none 0 0 [] :: [])).length lc g2 g3 (some ⟨g4, 0, none⟩) 1 1 [⟨0, 0⟩]) g5) HX.out.hall (exLev_Sm (by simp) (by omega) (fun r hr => by
  simp only [List.mem_cons, List.not_mem_nil, or_false] at hr
  rcases hr with rfl <;> simp [exRow, exRow2])) exLev_ac).mono ?_
 rintro e wn1 ⟨⟨pa, pn, pc, fa, fm, fd, rfl, hp, hf⟩, hb⟩
 rw [ex_a] at hp hf
 dsimp only at hp hf
 obtain rfl : 3 = pn := hp.1
 obtain rfl : 0 = fm := hf.1
 have hbt : Below w.heap.size w wn1 := HX.out.below.trans (hb.mono HX.out.below.size)
 obtain ⟨ba, oa, rfl, -⟩ := hp.2 0 (by omega)
 have HA_1 := Lib.hid hp
 have HB1 : Hid (Below w.heap.size w wn1) := HB0.out.trans (hbt.mono HB0.out.size)
 clear hp hf hb hbt HB0 HX
 refine hK _ _ (fun a hF => ?_);clear hK K;revert hF;refine zre 2 [1, 4, 4, 2, 2] [1, 2] fun a hF => ?_;refine hK _ _ ?_;clear hK;refine wp_seq_k (fun K hK => ?_);revert hF;refine zrp [3] [1, 2, 3, 4, 5, 6, 7, 8] fun a hF => ?_;refine seq_one ?_;revert hF;refine qe1 fun a hF => ?_
 have hn := World.alloc_heap_new wn1 (.cells #[.int .i64 1, .int .i64 2, .int .i64 0] 46)
 have hb := Joins.below_alloc1 wn1 (.cells #[.int .i64 1, .int .i64 2, .int .i64 0] 46)
 have hr := recs_alloc MarkE wn1 46 [⟨1, 2, 0⟩] #[.int .i64 1, .int .i64 2, .int .i64 0] rfl
 generalize wn1.alloc (.cells #[.int .i64 1, .int .i64 2, .int .i64 0] 46) = wa2 at *
 obtain ⟨gm2, hg⟩ : ∃ g, g = wn1.heap.size := ⟨_, rfl⟩
 rw [← hg] at hF hr
 have HBa2 := Lib.hid hb
 have HRa2 := Lib.hid hr
 clear hg hn hb hr
 revert hF;refine zos fun K hK => ?_
 refine (example_any wa2 (some ⟨gm2, 0, none⟩) 1 1 [⟨1, 2, 0⟩] HRa2.out (by omega) (fun e => by first | rfl | cases e) (fun m hm => by simp only [List.mem_cons, List.not_mem_nil, or_false] at hm; rcases hm with rfl <;> exact ⟨by decide, by decide⟩) none 0 [] (nil_rows _) (by simp) (fun r hr => by cases hr)).mono ?_
 rintro e we2 ⟨la, lc, g2, g3, g4, g5, rfl, hx⟩
 have HX := Lib.hid hx
 clear hx
 refine hK _ _ (fun a hF => ?_);clear hK K;revert hF;refine zos fun K hK => ?_
 refine (build_any we2 (exHall (exLev (exRow (some ⟨gm2, 0, none⟩) 1 1 [⟨1, 2, 0⟩] :: []) la ((exRow (some ⟨gm2, 0, none⟩) 1 1 [⟨1, 2, 0⟩] :: [])).length lc g2 g3 (some ⟨g4, 0, none⟩) 1 1 [⟨0, 0⟩]) g5) HX.out.hall (exLev_Sm (by simp) (by omega) (fun r hr => by
  simp only [List.mem_cons, List.not_mem_nil, or_false] at hr
  rcases hr with rfl <;> simp [exRow, exRow2])) exLev_ac).mono ?_
 rintro e wn2 ⟨⟨pa, pn, pc, fa, fm, fd, rfl, hp, hf⟩, hb⟩
 rw [ex_b] at hp hf
 dsimp only at hp hf
 obtain rfl : 2 = pn := hp.1
 obtain rfl : 0 = fm := hf.1
 have hbt : Below wn1.heap.size wn1 wn2 := (HBa2.out.trans (HX.out.below.mono HBa2.out.size)).trans (hb.mono (HBa2.out.trans (HX.out.below.mono HBa2.out.size)).size)
 obtain ⟨bb, ob, rfl, -⟩ := hp.2 0 (by omega)
 have HB_2 := Lib.hid hp
 have HB2 : Hid (Below w.heap.size w wn2) := HB1.out.trans (hbt.mono HB1.out.size)
 have HA_2 := Lib.hid (HA_1.out.below hbt)
 clear HA_1
 clear hp hf hb hbt HB1 HX HBa2 HRa2
 refine hK _ _ (fun a hF => ?_);clear hK K;revert hF;refine zre 4 [1, 4, 4, 2, 2] [1, 2, 3, 4] fun a hF => ?_;refine hK _ _ ?_;clear hK;refine wp_seq_k (fun K hK => ?_);revert hF;refine zrp [3, 3] [2, 3, 4, 5, 6, 7, 8, 9] fun a hF => ?_;refine seq_one ?_;revert hF;refine qe2 fun a hF => ?_
 have hn := World.alloc_heap_new wn2 (.cells #[.int .i64 2, .int .i64 1, .int .i64 0, .int .i64 4, .int .i64 2, .int .i64 1] 46)
 have hb := Joins.below_alloc1 wn2 (.cells #[.int .i64 2, .int .i64 1, .int .i64 0, .int .i64 4, .int .i64 2, .int .i64 1] 46)
 have hr := recs_alloc MarkE wn2 46 [⟨2, 1, 0⟩, ⟨4, 2, 1⟩] #[.int .i64 2, .int .i64 1, .int .i64 0, .int .i64 4, .int .i64 2, .int .i64 1] rfl
 generalize wn2.alloc (.cells #[.int .i64 2, .int .i64 1, .int .i64 0, .int .i64 4, .int .i64 2, .int .i64 1] 46) = wa3 at *
 obtain ⟨gm3, hg⟩ : ∃ g, g = wn2.heap.size := ⟨_, rfl⟩
 rw [← hg] at hF hr
 have HBa3 := Lib.hid hb
 have HRa3 := Lib.hid hr
 clear hg hn hb hr
 revert hF;refine zos fun K hK => ?_
 refine (example_any wa3 (some ⟨gm3, 0, none⟩) 2 2 [⟨2, 1, 0⟩, ⟨4, 2, 1⟩] HRa3.out (by omega) (fun e => by first | rfl | cases e) (fun m hm => by simp only [List.mem_cons, List.not_mem_nil, or_false] at hm; rcases hm with rfl | rfl <;> exact ⟨by decide, by decide⟩) none 0 [] (nil_rows _) (by simp) (fun r hr => by cases hr)).mono ?_
 rintro e we3 ⟨la, lc, g2, g3, g4, g5, rfl, hx⟩
 have HX := Lib.hid hx
 clear hx
 refine hK _ _ (fun a hF => ?_);clear hK K;revert hF;refine zos fun K hK => ?_
 refine (build_any we3 (exHall (exLev (exRow (some ⟨gm3, 0, none⟩) 2 2 [⟨2, 1, 0⟩, ⟨4, 2, 1⟩] :: []) la ((exRow (some ⟨gm3, 0, none⟩) 2 2 [⟨2, 1, 0⟩, ⟨4, 2, 1⟩] :: [])).length lc g2 g3 (some ⟨g4, 0, none⟩) 1 1 [⟨0, 0⟩]) g5) HX.out.hall (exLev_Sm (by simp) (by omega) (fun r hr => by
  simp only [List.mem_cons, List.not_mem_nil, or_false] at hr
  rcases hr with rfl <;> simp [exRow, exRow2])) exLev_ac).mono ?_
 rintro e wn3 ⟨⟨pa, pn, pc, fa, fm, fd, rfl, hp, hf⟩, hb⟩
 rw [ex_c] at hp hf
 dsimp only at hp hf
 obtain rfl : 3 = pn := hp.1
 obtain rfl : 0 = fm := hf.1
 have hbt : Below wn2.heap.size wn2 wn3 := (HBa3.out.trans (HX.out.below.mono HBa3.out.size)).trans (hb.mono (HBa3.out.trans (HX.out.below.mono HBa3.out.size)).size)
 obtain ⟨bc, oc, rfl, -⟩ := hp.2 0 (by omega)
 have HC_3 := Lib.hid hp
 have HB3 : Hid (Below w.heap.size w wn3) := HB2.out.trans (hbt.mono HB2.out.size)
 have HA_3 := Lib.hid (HA_2.out.below hbt)
 have HB_3 := Lib.hid (HB_2.out.below hbt)
 clear HA_2 HB_2
 clear hp hf hb hbt HB2 HX HBa3 HRa3
 refine hK _ _ (fun a hF => ?_);clear hK K;revert hF;refine zre 5 [1, 4, 4, 2, 2] [1, 2, 3, 4, 5, 6] fun a hF => ?_;refine hK _ _ ?_;clear hK;refine wp_seq_k (fun K hK => ?_);revert hF;refine zrp [3] [1, 2, 3, 4, 5, 6, 7, 8] fun a hF => ?_;refine seq_one ?_;revert hF;refine qe1 fun a hF => ?_
 have hn := World.alloc_heap_new wn3 (.cells #[.string ⟨#[98]⟩, .int .i64 5, .int .i64 5, .int .i64 1, .int .i64 1, .int .i64 2, .slice none 0 0, .int .i64 9] 49)
 have hb := Joins.below_alloc1 wn3 (.cells #[.string ⟨#[98]⟩, .int .i64 5, .int .i64 5, .int .i64 1, .int .i64 1, .int .i64 2, .slice none 0 0, .int .i64 9] 49)
 have hr := recs_alloc RowE wn3 49 [exRow2] #[.string ⟨#[98]⟩, .int .i64 5, .int .i64 5, .int .i64 1, .int .i64 1, .int .i64 2, .slice none 0 0, .int .i64 9] rfl
 generalize wn3.alloc (.cells #[.string ⟨#[98]⟩, .int .i64 5, .int .i64 5, .int .i64 1, .int .i64 1, .int .i64 2, .slice none 0 0, .int .i64 9] 49) = wa4 at *
 obtain ⟨gm4, hg⟩ : ∃ g, g = wn3.heap.size := ⟨_, rfl⟩
 rw [← hg] at hF hr
 have HBa4 := Lib.hid hb
 have HRa4 := Lib.hid hr
 clear hg hn hb hr
 revert hF;refine zos fun K hK => ?_
 refine (example_any wa4 none 0 0 [] (Recs.none _) (by omega) (fun e => by first | rfl | cases e) (fun m hm => by cases hm) (some ⟨gm4, 0, none⟩) 1 [exRow2] ⟨_, _, rfl, HRa4.out, fun e => by cases e⟩ (by simp) (fun r hr => by
  obtain rfl : r = exRow2 := by simpa using hr
  exact ⟨Recs.none _, show (0 : Nat) ≤ 9223372036854775807 by omega, fun _ => rfl, show (2 : Int) ≤ 9223372036854775807 by omega, fun m hm => by cases hm⟩)).mono ?_
 rintro e we4 ⟨la, lc, g2, g3, g4, g5, rfl, hx⟩
 have HX := Lib.hid hx
 clear hx
 refine hK _ _ (fun a hF => ?_);clear hK K;revert hF;refine zos fun K hK => ?_
 refine (build_any we4 (exHall (exLev (exRow none 0 0 [] :: [exRow2]) la ((exRow none 0 0 [] :: [exRow2])).length lc g2 g3 (some ⟨g4, 0, none⟩) 1 1 [⟨0, 0⟩]) g5) HX.out.hall (exLev_Sm (by simp) (by omega) (fun r hr => by
  simp only [List.mem_cons, List.not_mem_nil, or_false] at hr
  rcases hr with rfl | rfl <;> simp [exRow, exRow2])) exLev_ac).mono ?_
 rintro e wn4 ⟨⟨pa, pn, pc, fa, fm, fd, rfl, hp, hf⟩, hb⟩
 rw [ex_h] at hp hf
 dsimp only at hp hf
 obtain rfl : 0 = pn := hp.1
 obtain rfl : 2 = fm := hf.1
 have hbt : Below wn3.heap.size wn3 wn4 := (HBa4.out.trans (HX.out.below.mono HBa4.out.size)).trans (hb.mono (HBa4.out.trans (HX.out.below.mono HBa4.out.size)).size)
 have HH_4 := Lib.hid hf
 have HB4 : Hid (Below w.heap.size w wn4) := HB3.out.trans (hbt.mono HB3.out.size)
 have HA_4 := Lib.hid (HA_3.out.below hbt)
 have HB_4 := Lib.hid (HB_3.out.below hbt)
 have HC_4 := Lib.hid (HC_3.out.below hbt)
 clear HA_3 HB_3 HC_3
 clear hp hf hb hbt HB3 HX HBa4 HRa4
 refine hK _ _ (fun a hF => ?_);clear hK K;revert hF;refine zre 4 [1, 4, 4, 2, 2] [1, 2, 3, 4, 5, 6, 8] fun a hF => ?_;refine hK _ _ ?_;clear hK;refine wp_seq_k (fun K hK => ?_);refine region_seq (l := [0, 1, 2]) (by kernel_rfl) ?_;revert hF;refine zos fun K hK => ?_
 refine (example_any wn4 none 0 0 [] (Recs.none _) (by omega) (fun e => by first | rfl | cases e) (fun m hm => by cases hm) none 0 [] (nil_rows _) (by simp) (fun r hr => by cases hr)).mono ?_
 rintro e we5 ⟨la, lc, g2, g3, g4, g5, rfl, hx⟩
 have HX := Lib.hid hx
 clear hx
 refine hK _ _ (fun a hF => ?_);clear hK K;refine seq_one ?_;revert hF;refine qe0 fun a hF => ?_
 have hn := World.alloc_heap_new we5 (.cells #[.string ⟨#[]⟩, .int .i64 0, .int .i64 0, .slice (some ⟨g5, 0, none⟩) 1 1] 26)
 have hb := Joins.below_alloc1 we5 (.cells #[.string ⟨#[]⟩, .int .i64 0, .int .i64 0, .slice (some ⟨g5, 0, none⟩) 1 1] 26)
 refine seq_one ?_;revert hF;refine qu2 fun a hF => ?_;refine seq_end ?_;replace hF := hF.kp [1, 2, 3, 4, 5, 6, 8, 9] rfl;refine hK _ _ ?_;clear hK
 have HG5 := Lib.hid ((hb.block g5 (lt_of_block HX.out.lev)).trans HX.out.lev)
 have HG2 := Lib.hid ((hb.block g2 (lt_of_block HX.out.blk)).trans HX.out.blk)
 have HG3 := Lib.hid ((hb.block g3 (lt_of_block HX.out.box)).trans HX.out.box)
 have HOW := Lib.hid (row_of_heap HX.out.own fun b hb2 => hb.block b (HX.out.own.lt b hb2).2)
 have HBS : Hid (Below wn4.heap.size wn4 (we5.alloc (.cells #[.string ⟨#[]⟩, .int .i64 0, .int .i64 0, .slice (some ⟨g5, 0, none⟩) 1 1] 26))) := HX.out.below.trans (hb.mono HX.out.below.size)
 have HFR : Hid (wn4.heap.size ≤ g5) := HX.out.fresh
 have HHN := Lib.hid hn
 clear hn hb HX
 generalize we5.alloc (.cells #[.string ⟨#[]⟩, .int .i64 0, .int .i64 0, .slice (some ⟨g5, 0, none⟩) 1 1] 26) = ws at *
 obtain ⟨gs, hg⟩ : ∃ g, g = we5.heap.size := ⟨_, rfl⟩
 rw [← hg] at hF HHN
 clear hg
 have s3 : ws.cell? ⟨gs, 3, none⟩ = some (.slice (some ⟨g5, 0, none⟩) 1 1) := boxed_cell (j := 3) HHN.out rfl
 have s6 : ws.cell? ⟨g5, 6, none⟩ = some (.slice (some ⟨g4, 0, none⟩) 1 1) := boxed_cell (j := 6) HG5.out rfl
 have f6 := free_var (o := 6) HG5.out
 refine wp_seq_k (fun K hK => ?_);revert hF;refine zrp [4, 4, 4, 4] [4] fun a hF => ?_;refine seq_one ?_;revert hF;refine qu1 fun a hF => ?_;refine seq_end ?_;replace hF := hF.kp [1, 2, 3, 4, 5, 6, 8, 9] rfl;refine hK _ _ ?_;clear hK
 clear s3 s6 f6
 have HG5' : Hid ((ws.setCell ⟨g5, 6, none⟩ (.slice none 0 0)).heap[g5]? = some (.cells #[.string ⟨#[108]⟩, .int .i64 0, .slice (some ⟨g2, 0, none⟩) 1 1, .slice none 0 0, .slice (some ⟨g3, 0, none⟩) 1 1, .slice none 0 0, .slice none 0 0, .int .i64 0] 32 (0, 0))) := set_in HG5.out
 have HG2' := Lib.hid (set_keep (u := .slice none 0 0) (o := 6) HG5.out HG2.out (by decide))
 have HG3' := Lib.hid (set_keep (u := .slice none 0 0) (o := 6) HG5.out HG3.out (by decide))
 have HHN' := Lib.hid (set_keep (u := .slice none 0 0) (o := 6) HG5.out HHN.out (by decide))
 have HOW' := Lib.hid (row_of_heap HOW.out fun b hb => by
  obtain ⟨cur, hh⟩ := own_type HOW.out hb
  exact (set_keep (u := .slice none 0 0) (o := 6) HG5.out hh (by decide)).trans hh.symm)
 have HBS' : Hid (Below wn4.heap.size wn4 (ws.setCell ⟨g5, 6, none⟩ (.slice none 0 0))) := HBS.out.trans (below_set HFR.out)
 clear HG5 HG2 HG3 HHN HOW HBS HFR
 generalize ws.setCell ⟨g5, 6, none⟩ (.slice none 0 0) = wt at *
 have s0 : wt.cell? ⟨gs, 0, none⟩ = some (.string ⟨#[]⟩) := boxed_cell (j := 0) HHN'.out rfl
 have s1 : wt.cell? ⟨gs, 1, none⟩ = some (.int .i64 0) := boxed_cell (j := 1) HHN'.out rfl
 have s2 : wt.cell? ⟨gs, 2, none⟩ = some (.int .i64 0) := boxed_cell (j := 2) HHN'.out rfl
 have s3 : wt.cell? ⟨gs, 3, none⟩ = some (.slice (some ⟨g5, 0, none⟩) 1 1) := boxed_cell (j := 3) HHN'.out rfl
 have HIN : Hid ((exHall (exLev (exRow none 0 0 [] :: []) la (exRow none 0 0 [] :: []).length lc g2 g3 none 0 0 []) g5).In wt) := by
  obtain ⟨la', c', e, hr, _⟩ := Rcs.of_own HOW'.out
  simp only [Value.slice.injEq] at e
  obtain ⟨rfl, _, _⟩ := e
  refine ex_in HG2'.out HG3'.out (Recs.none _) (by decide) (fun _ => rfl) HG5'.out hr (by simp) fun r hr2 => ?_
  obtain rfl : r = exRow none 0 0 [] := by simpa using hr2
  exact ⟨Recs.none _, show (0 : Nat) ≤ 9223372036854775807 by omega, fun _ => rfl, show (2 : Int) ≤ 9223372036854775807 by omega, fun m hm => by cases hm⟩
 clear HG5' HG2' HG3' HHN' HOW'
 have HX := HIN
 refine wp_seq_k (fun K hK => ?_);revert hF;refine zrp [4] [1, 2, 3, 4, 5, 6] fun a hF => ?_;revert hF;refine zos fun K hK => ?_
 refine (build_any wt (exHall (exLev (exRow none 0 0 [] :: []) la (exRow none 0 0 [] :: []).length lc g2 g3 none 0 0 []) g5) HX.out (exLev_Sm (by simp) (by omega) (fun r hr => by
  simp only [List.mem_cons, List.not_mem_nil, or_false] at hr
  rcases hr with rfl <;> simp [exRow])) exLev_ac).mono ?_
 clear s0 s1 s2 s3
 rintro e wn5 ⟨⟨pa, pn, pc, fa, fm, fd, rfl, hp, hf⟩, hb⟩
 rw [ex_i] at hp hf
 dsimp only at hp hf
 obtain rfl : 0 = pn := hp.1
 obtain rfl : 1 = fm := hf.1
 have hbt : Below wn4.heap.size wn4 wn5 := HBS'.out.trans (hb.mono HBS'.out.size)
 have HI_5 := Lib.hid hf
 have HB5 : Hid (Below w.heap.size w wn5) := HB4.out.trans (hbt.mono HB4.out.size)
 have HA_5 := Lib.hid (HA_4.out.below hbt)
 have HB_5 := Lib.hid (HB_4.out.below hbt)
 have HC_5 := Lib.hid (HC_4.out.below hbt)
 have HH_5 := Lib.hid (HH_4.out.below hbt)
 clear HA_4 HB_4 HC_4 HH_4
 clear hp hf hb hbt HB4 HX
 refine hK _ _ (fun a hF => ?_);clear hK K;revert hF;refine zre 2 [1, 4, 4, 2, 2] [1, 2, 3, 4, 5, 6, 8, 11] fun a hF => ?_;refine hK _ _ ?_;clear hK;refine wp_seq_k (fun K hK => ?_);revert hF;refine zrp [3] [1, 2, 3, 4, 5, 6, 7, 8] fun a hF => ?_;refine seq_one ?_;revert hF;refine qe1 fun a hF => ?_
 have hn := World.alloc_heap_new wn5 (.cells #[.int .i64 4, .int .i64 2, .int .i64 1] 46)
 have hb := Joins.below_alloc1 wn5 (.cells #[.int .i64 4, .int .i64 2, .int .i64 1] 46)
 have hr := recs_alloc MarkE wn5 46 [⟨4, 2, 1⟩] #[.int .i64 4, .int .i64 2, .int .i64 1] rfl
 generalize wn5.alloc (.cells #[.int .i64 4, .int .i64 2, .int .i64 1] 46) = wa6 at *
 obtain ⟨gm6, hg⟩ : ∃ g, g = wn5.heap.size := ⟨_, rfl⟩
 rw [← hg] at hF hr
 have HBa6 := Lib.hid hb
 have HRa6 := Lib.hid hr
 clear hg hn hb hr
 revert hF;refine zos fun K hK => ?_
 refine (example_any wa6 (some ⟨gm6, 0, none⟩) 1 1 [⟨4, 2, 1⟩] HRa6.out (by omega) (fun e => by first | rfl | cases e) (fun m hm => by simp only [List.mem_cons, List.not_mem_nil, or_false] at hm; rcases hm with rfl <;> exact ⟨by decide, by decide⟩) none 0 [] (nil_rows _) (by simp) (fun r hr => by cases hr)).mono ?_
 rintro e we6 ⟨la, lc, g2, g3, g4, g5, rfl, hx⟩
 have HX := Lib.hid hx
 clear hx
 refine hK _ _ (fun a hF => ?_);clear hK K;revert hF;refine zos fun K hK => ?_
 refine (build_any we6 (exHall (exLev (exRow (some ⟨gm6, 0, none⟩) 1 1 [⟨4, 2, 1⟩] :: []) la ((exRow (some ⟨gm6, 0, none⟩) 1 1 [⟨4, 2, 1⟩] :: [])).length lc g2 g3 (some ⟨g4, 0, none⟩) 1 1 [⟨0, 0⟩]) g5) HX.out.hall (exLev_Sm (by simp) (by omega) (fun r hr => by
  simp only [List.mem_cons, List.not_mem_nil, or_false] at hr
  rcases hr with rfl <;> simp [exRow, exRow2])) exLev_ac).mono ?_
 rintro e wn6 ⟨⟨pa, pn, pc, fa, fm, fd, rfl, hp, hf⟩, hb⟩
 rw [ex_j] at hp hf
 dsimp only at hp hf
 obtain rfl : 0 = pn := hp.1
 obtain rfl : 1 = fm := hf.1
 have hbt : Below wn5.heap.size wn5 wn6 := (HBa6.out.trans (HX.out.below.mono HBa6.out.size)).trans (hb.mono (HBa6.out.trans (HX.out.below.mono HBa6.out.size)).size)
 have HJ_6 := Lib.hid hf
 have HB6 : Hid (Below w.heap.size w wn6) := HB5.out.trans (hbt.mono HB5.out.size)
 have HA_6 := Lib.hid (HA_5.out.below hbt)
 have HB_6 := Lib.hid (HB_5.out.below hbt)
 have HC_6 := Lib.hid (HC_5.out.below hbt)
 have HH_6 := Lib.hid (HH_5.out.below hbt)
 have HI_6 := Lib.hid (HI_5.out.below hbt)
 clear HA_5 HB_5 HC_5 HH_5 HI_5
 clear hp hf hb hbt HB5 HX HBa6 HRa6
 refine hK _ _ (fun a hF => ?_);clear hK K;revert hF;refine zre 4 [1, 4, 4, 2, 2] [1, 2, 3, 4, 5, 6, 8, 11, 13] fun a hF => ?_;refine hK _ _ ?_;clear hK;refine wp_seq_k (fun K hK => ?_);revert hF;refine zrs [1, 4, 4, 1, 1, 4, 4, 5, 1, 1, 4, 4, 5, 1, 1, 4, 1, 4, 5, 1, 4, 5, 4, 5] [1, 3, 5, 8, 11, 13, 83] fun a hF => ?_
 refine cond_no hF rfl ?_
 refine wp_skip ?_
 refine hK _ _ ?_;clear hK;replace hF := hF.kp [1, 3, 5, 8, 11, 13] rfl
 have heq : ∀ wx, Sem.run Tryz.prog (binOp .eql 52 (.agg #[.int .i64 0, .int .i64 0, .int .i64 0, .int .i64 0, .int .i64 2, .int .i64 5, .int .i64 5, .int .i64 0, .int .i64 (-1)]) (.agg #[.int .i64 0, .int .i64 0, .int .i64 0, .int .i64 0, .int .i64 2, .int .i64 5, .int .i64 5, .int .i64 0, .int .i64 (-1)])) wx = .ok (.bool true) wx := fun wx => by
  rw [run_eql_struct, equal_plc ⟨0, 0, 0, 0, 2, 5, 5, 0, -1⟩ ⟨0, 0, 0, 0, 2, 5, 5, 0, -1⟩, decide_eq_true rfl]
  rfl
 have hgd : ∀ wx op q1 q2, Sem.run Tryz.prog (eqGuard op 52 q1 q2 (.agg #[.int .i64 0, .int .i64 0, .int .i64 0, .int .i64 0, .int .i64 2, .int .i64 5, .int .i64 5, .int .i64 0, .int .i64 (-1)]) (.agg #[.int .i64 0, .int .i64 0, .int .i64 0, .int .i64 0, .int .i64 2, .int .i64 5, .int .i64 5, .int .i64 0, .int .i64 (-1)])) wx = .ok () wx := fun wx op q1 q2 => guard_plc op q1 q2 ⟨0, 0, 0, 0, 2, 5, 5, 0, -1⟩ ⟨0, 0, 0, 0, 2, 5, 5, 0, -1⟩ wx
 have fa0_0 : wn6.cell? ⟨ba, oa + 9, none⟩ = some (.int .i64 0) := pcell HA_6.out 1 0 (by omega) (by omega) rfl (by omega)
 have fa1_0 : wn6.cell? ⟨ba, oa + 10, none⟩ = some (.int .i64 0) := pcell HA_6.out 1 1 (by omega) (by omega) rfl (by omega)
 have fa1_1 : wn6.cell? ⟨ba, oa + 9 + 1, none⟩ = some (.int .i64 0) := pcell HA_6.out 1 1 (by omega) (by omega) rfl (by omega)
 have fa2_0 : wn6.cell? ⟨ba, oa + 11, none⟩ = some (.int .i64 0) := pcell HA_6.out 1 2 (by omega) (by omega) rfl (by omega)
 have fa2_1 : wn6.cell? ⟨ba, oa + 9 + 2, none⟩ = some (.int .i64 0) := pcell HA_6.out 1 2 (by omega) (by omega) rfl (by omega)
 have fa3_0 : wn6.cell? ⟨ba, oa + 12, none⟩ = some (.int .i64 0) := pcell HA_6.out 1 3 (by omega) (by omega) rfl (by omega)
 have fa3_1 : wn6.cell? ⟨ba, oa + 9 + 3, none⟩ = some (.int .i64 0) := pcell HA_6.out 1 3 (by omega) (by omega) rfl (by omega)
 have fa4_0 : wn6.cell? ⟨ba, oa + 13, none⟩ = some (.int .i64 2) := pcell HA_6.out 1 4 (by omega) (by omega) rfl (by omega)
 have fa4_1 : wn6.cell? ⟨ba, oa + 9 + 4, none⟩ = some (.int .i64 2) := pcell HA_6.out 1 4 (by omega) (by omega) rfl (by omega)
 have fa5_0 : wn6.cell? ⟨ba, oa + 14, none⟩ = some (.int .i64 5) := pcell HA_6.out 1 5 (by omega) (by omega) rfl (by omega)
 have fa5_1 : wn6.cell? ⟨ba, oa + 9 + 5, none⟩ = some (.int .i64 5) := pcell HA_6.out 1 5 (by omega) (by omega) rfl (by omega)
 have fa6_0 : wn6.cell? ⟨ba, oa + 15, none⟩ = some (.int .i64 5) := pcell HA_6.out 1 6 (by omega) (by omega) rfl (by omega)
 have fa6_1 : wn6.cell? ⟨ba, oa + 9 + 6, none⟩ = some (.int .i64 5) := pcell HA_6.out 1 6 (by omega) (by omega) rfl (by omega)
 have fa7_0 : wn6.cell? ⟨ba, oa + 16, none⟩ = some (.int .i64 0) := pcell HA_6.out 1 7 (by omega) (by omega) rfl (by omega)
 have fa7_1 : wn6.cell? ⟨ba, oa + 9 + 7, none⟩ = some (.int .i64 0) := pcell HA_6.out 1 7 (by omega) (by omega) rfl (by omega)
 have fa8_0 : wn6.cell? ⟨ba, oa + 17, none⟩ = some (.int .i64 (-1)) := pcell HA_6.out 1 8 (by omega) (by omega) rfl (by omega)
 have fa8_1 : wn6.cell? ⟨ba, oa + 9 + 8, none⟩ = some (.int .i64 (-1)) := pcell HA_6.out 1 8 (by omega) (by omega) rfl (by omega)
 have fb_0 : wn6.cell? ⟨bb, ob + 13, none⟩ = some (.int .i64 3) := pcell HB_6.out 1 4 (by omega) (by omega) rfl (by omega)
 have fb_1 : wn6.cell? ⟨bb, ob + 9 + 4, none⟩ = some (.int .i64 3) := pcell HB_6.out 1 4 (by omega) (by omega) rfl (by omega)
 have fc0_0 : wn6.cell? ⟨bc, oc, none⟩ = some (.int .i64 1) := pcell HC_6.out 0 0 (by omega) (by omega) rfl (by omega)
 have fc1_0 : wn6.cell? ⟨bc, oc + 9, none⟩ = some (.int .i64 2) := pcell HC_6.out 1 0 (by omega) (by omega) rfl (by omega)
 have fc2_0 : wn6.cell? ⟨bc, oc + 18, none⟩ = some (.int .i64 0) := pcell HC_6.out 2 0 (by omega) (by omega) rfl (by omega)
 have fd0_0 : wn6.cell? ⟨bc, oc + 8, none⟩ = some (.int .i64 1) := pcell HC_6.out 0 8 (by omega) (by omega) rfl (by omega)
 have fd1_0 : wn6.cell? ⟨bc, oc + 17, none⟩ = some (.int .i64 0) := pcell HC_6.out 1 8 (by omega) (by omega) rfl (by omega)
 have fd1_1 : wn6.cell? ⟨bc, oc + 9 + 8, none⟩ = some (.int .i64 0) := pcell HC_6.out 1 8 (by omega) (by omega) rfl (by omega)
 have fd2_0 : wn6.cell? ⟨bc, oc + 26, none⟩ = some (.int .i64 (-1)) := pcell HC_6.out 2 8 (by omega) (by omega) rfl (by omega)
 have fd2_1 : wn6.cell? ⟨bc, oc + 18 + 8, none⟩ = some (.int .i64 (-1)) := pcell HC_6.out 2 8 (by omega) (by omega) rfl (by omega)
 revert hF;refine zrs [1, 4, 4, 3, 5, 1, 1, 4, 4, 4, 4, 5, 1, 1, 4, 4, 4, 4, 5, 1, 1, 4, 4, 4, 4, 5, 1, 1, 4, 4, 4, 4, 5, 1, 1, 4, 4, 4, 4, 5, 1, 1, 4, 4, 4, 4, 5, 1, 1, 4, 4, 4, 4, 5, 2] [8, 11, 13, 14] fun a hF => ?_
 clear heq hgd fa0_0 fa1_0 fa1_1 fa2_0 fa2_1 fa3_0 fa3_1 fa4_0 fa4_1 fa5_0 fa5_1 fa6_0 fa6_1 fa7_0 fa7_1 fa8_0 fa8_1 fb_0 fb_1 fc0_0 fc1_0 fc2_0 fd0_0 fd1_0 fd1_1 fd2_0 fd2_1
 refine wp_seq_k (fun K hK => ?_);revert hF;refine zrp [1, 3, 3] [3, 4, 5, 6, 7, 8, 9, 10, 11] fun a hF => ?_;refine seq_one ?_;revert hF;refine qe2 fun a hF => ?_
 have hn := recs_alloc FaultE wn6 55 ([⟨13, 9, 7⟩, ⟨14, 9, -1⟩] : List FaultR) #[.int .i64 13, .int .i64 9, .int .i64 7, .int .i64 14, .int .i64 9, .int .i64 (-1)] rfl
 have hb := Joins.below_alloc1 wn6 (.cells #[.int .i64 13, .int .i64 9, .int .i64 7, .int .i64 14, .int .i64 9, .int .i64 (-1)] 55)
 generalize wn6.alloc (.cells #[.int .i64 13, .int .i64 9, .int .i64 7, .int .i64 14, .int .i64 9, .int .i64 (-1)] 55) = wp1 at *
 have HN := Lib.hid hn
 have HBx := Lib.hid hb
 clear hn hb
 revert hF;refine zos fun K hK => ?_
 refine (same_flt wp1 _ _ _ _ _ _ ([⟨13, 9, 7⟩, ⟨14, 9, -1⟩] : List FaultR) ([⟨13, 9, 7⟩, ⟨14, 9, -1⟩] : List FaultR) (HH_6.out.below HBx.out) HN.out (by simp) (by simp)).mono ?_
 rintro e wq1 ⟨rfl, hb⟩
 have hbt : Below wn6.heap.size wn6 wq1 := HBx.out.trans (hb.mono HBx.out.size)
 have hd : decide (([⟨13, 9, 7⟩, ⟨14, 9, -1⟩] : List FaultR) = [⟨13, 9, 7⟩, ⟨14, 9, -1⟩]) = true := decide_eq_true rfl
 rw [hd]
 clear hd
 have HB7 : Hid (Below w.heap.size w wq1) := HB6.out.trans (hbt.mono HB6.out.size)
 have HI_7 := Lib.hid (HI_6.out.below hbt)
 have HJ_7 := Lib.hid (HJ_6.out.below hbt)
 clear hb hbt HBx HN HB6 HI_6 HJ_6 HH_6 HA_6 HB_6 HC_6
 refine hK _ _ (fun a hF => ?_);clear hK K;revert hF;refine zrc 5 [1, 1, 3] [8, 9, 10, 11] fun a hF => ?_;refine seq_one ?_;revert hF;refine qe1 fun a hF => ?_

 have hn := recs_alloc FaultE wq1 55 ([⟨14, 7, -1⟩] : List FaultR) #[.int .i64 14, .int .i64 7, .int .i64 (-1)] rfl
 have hb := Joins.below_alloc1 wq1 (.cells #[.int .i64 14, .int .i64 7, .int .i64 (-1)] 55)
 generalize wq1.alloc (.cells #[.int .i64 14, .int .i64 7, .int .i64 (-1)] 55) = wp2 at *
 have HN := Lib.hid hn
 have HBx := Lib.hid hb
 clear hn hb
 revert hF;refine zos fun K hK => ?_
 refine (same_flt wp2 _ _ _ _ _ _ ([⟨14, 7, -1⟩] : List FaultR) ([⟨14, 7, -1⟩] : List FaultR) (HI_7.out.below HBx.out) HN.out (by simp) (by simp)).mono ?_
 rintro e wq2 ⟨rfl, hb⟩
 have hbt : Below wq1.heap.size wq1 wq2 := HBx.out.trans (hb.mono HBx.out.size)
 have hd : decide (([⟨14, 7, -1⟩] : List FaultR) = [⟨14, 7, -1⟩]) = true := decide_eq_true rfl
 rw [hd]
 clear hd
 have HB8 : Hid (Below w.heap.size w wq2) := HB7.out.trans (hbt.mono HB7.out.size)
 have HJ_8 := Lib.hid (HJ_7.out.below hbt)
 clear hb hbt HBx HN HB7 HI_7 HJ_7
 refine hK _ _ (fun a hF => ?_);clear hK K;revert hF;refine zre 10 [5, 2] [13, 14, 15] fun a hF => ?_;refine hK _ _ ?_;clear hK;refine wp_seq_k (fun K hK => ?_);revert hF;refine zrp [1, 1, 1, 5, 1, 1, 3] [7, 8, 9, 10] fun a hF => ?_;refine seq_one ?_;revert hF;refine qe1 fun a hF => ?_
 have hn := recs_alloc FaultE wq2 55 ([⟨11, 7, -1⟩] : List FaultR) #[.int .i64 11, .int .i64 7, .int .i64 (-1)] rfl
 have hb := Joins.below_alloc1 wq2 (.cells #[.int .i64 11, .int .i64 7, .int .i64 (-1)] 55)
 generalize wq2.alloc (.cells #[.int .i64 11, .int .i64 7, .int .i64 (-1)] 55) = wp3 at *
 have HN := Lib.hid hn
 have HBx := Lib.hid hb
 clear hn hb
 revert hF;refine zos fun K hK => ?_
 refine (same_flt wp3 _ _ _ _ _ _ ([⟨11, 7, -1⟩] : List FaultR) ([⟨11, 7, -1⟩] : List FaultR) (HJ_8.out.below HBx.out) HN.out (by simp) (by simp)).mono ?_
 rintro e wq3 ⟨rfl, hb⟩
 have hbt : Below wq2.heap.size wq2 wq3 := HBx.out.trans (hb.mono HBx.out.size)
 have hd : decide (([⟨11, 7, -1⟩] : List FaultR) = [⟨11, 7, -1⟩]) = true := decide_eq_true rfl
 rw [hd]
 clear hd
 have HB9 : Hid (Below w.heap.size w wq3) := HB8.out.trans (hbt.mono HB8.out.size)
 clear hb hbt HBx HN HB8 HJ_8
 refine hK _ _ (fun a hF => ?_);clear hK K;revert hF;refine zre 9 [5, 2] [0] fun a hF => ?_;refine hK _ _ ?_;clear hK;refine wp_ret ?_;(try simp only [then_ret, block_ret, goto_ret]);revert hF;refine zq ?_
 exact ⟨rfl, HB9.out⟩
end Go.Proofs.YtmcdhggnpfhlmaaGreat
