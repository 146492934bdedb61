/- hall: the checker: area. -/
import Derived.Test.YtmcdhggnpfhlmaaQHCB11

namespace Go.Proofs.Ytmcdhggnpfhlmaa
open Go.RowKit Go.IntWalk
set_option linter.unusedSimpArgs false
set_option linter.unusedVariables false

set_option maxRecDepth 100000 in
set_option maxHeartbeats 16000000 in
theorem area_any (w0 : World) (h : HallR) (g : Nat) (w : World) (L : List FaultR) (n i : Nat) (hc : Chk w0 h g w L) (hL : L.length ≤ 800000) (hi : h.In w0) (l : LevR) (hl : h.levels[n]? = some l) (hia : i < l.areas.length) :
    Calls Try.prog 25 #[.pointer (some ⟨g, 0, none⟩), .int .i64 n, .int .i64 i] w fun en w' => en = .returned (.tuple #[]) ∧ Chk w0 h g w' (L ++ areaFault l i l.areas[i]) ∧ TUpd ChkT w w' := by
  obtain ⟨hn, hle⟩ := List.getElem?_eq_some_iff.1 hl
  have hll : h.levels.length = h.ln := hi.levels.1
  have hnl : n < h.ln := by omega
  have hni : (n : Int) < h.ln := by omega
  have HC := Lib.hid hc
  have HLI := Lib.hid (hi.lev h.levels[n] (List.getElem_mem hn))
  have c3 := hc.cell3
  obtain ⟨b, o, hla, c0, c1, c2, c4, c5, c6, c7, c8⟩ := lev_at (hi.levels.below hc.below) n hnl hn
  rw [hle] at c0 c1 c2 c4 c5 c6 c7 c8 HLI
  clear hc hi hll hl hle
  have hal : i < l.an := by have := HLI.out.areas.1; omega
  have hai : (i : Int) < l.an := by omega
  have HIX := Lib.hid (idx_found (p := fun x : AreaR => decide (x.name = l.areas[i].name)) hia (by simp))
  refine enter_fr (N := 77) [.pointer (some ⟨g, 0, none⟩), .int .i64 n, .int .i64 i] (Try.func25) rfl Try.ntmps25 (by rfl) (fun a hF => ?_);replace hF := hF.kp [0, 1, 2] rfl;refine wp_seq_k (fun K hK => ?_);refine region_sk [0, 1, 2, 3, 4, 5, 6, 7] [8, 9] hF fun C hC => ?_;clear hF;refine zm rfl rfl rfl ?_;refine zs1 10 rfl rfl ?_;refine zs1 11 rfl rfl ?_;refine zs1 12 rfl rfl ?_;refine zs1 13 rfl rfl ?_;refine zm rfl rfl rfl ?_;refine zs2 14 15 rfl rfl rfl ?_;refine zs1 16 rfl rfl ?_;refine hC _ (fun a hF => ?_);clear hC C;refine seq_one ?_;refine ze0 rfl rfl rfl hF rfl ?_;clear hF;refine fun a hF => ?_;refine seq_one ?_;refine zu2 6 17 rfl rfl hF rfl rfl rfl ?_;clear hF;refine fun a hF => ?_;refine seq_end ?_;replace hF := hF.kp [0, 2, 6] rfl;refine hK _ _ ?_;clear hK;(try clear K)
  have HBa := Lib.hid (Joins.below_alloc1 w (.cells #[.string (bs l.name), .int .i64 l.height, .slice l.ba l.bn l.bc, .slice l.aa l.an l.ac, .slice l.sa l.sn l.sc, .slice l.pa l.pn l.pc, .slice l.da l.dn l.dc, .int .i64 l.at'] 43))
  have HX : Hid (LevIn (w.alloc (.cells #[.string (bs l.name), .int .i64 l.height, .slice l.ba l.bn l.bc, .slice l.aa l.an l.ac, .slice l.sa l.sn l.sc, .slice l.pa l.pn l.pc, .slice l.da l.dn l.dc, .int .i64 l.at'] 43)) w.heap.size l) := World.alloc_heap_new w _
  have HC1 := Lib.hid (HC.out.down HBa.out)
  have HT1 : Hid (TUpd ChkT w (w.alloc (.cells #[.string (bs l.name), .int .i64 l.height, .slice l.ba l.bn l.bc, .slice l.aa l.an l.ac, .slice l.sa l.sn l.sc, .slice l.pa l.pn l.pc, .slice l.da l.dn l.dc, .int .i64 l.at'] 43))) := TUpd.of_below HBa.out
  clear HC c0 c1 c2 c3 c4 c5 c6 c7 c8 HBa hla
  generalize w.alloc (.cells #[.string (bs l.name), .int .i64 l.height, .slice l.ba l.bn l.bc, .slice l.aa l.an l.ac, .slice l.sa l.sn l.sc, .slice l.pa l.pn l.pc, .slice l.da l.dn l.dc, .int .i64 l.at'] 43) = w1 at *
  obtain ⟨gl, hgl⟩ : ∃ gl, gl = w.heap.size := ⟨_, rfl⟩
  rw [← hgl] at hF HX
  clear hgl
  obtain ⟨d0, d1, d2, d3, d4, d5, d6, d7⟩ := HX.out.cells
  obtain ⟨b, o, haa, c0, c1, c2, c3, c4, c5, c6⟩ := area_at (HLI.out.areas.below HC1.out.below) i hal hia
  have HRF : Hid (areaFault l i l.areas[i] = if l.blocks.findIdx (fun x => decide (x.name = l.areas[i].name)) < l.blocks.length then [⟨9, l.areas[i].at', ((l.blocks[l.blocks.findIdx fun x => decide (x.name = l.areas[i].name)]?).map (·.at')).getD 0⟩]
    else if l.areas.findIdx (fun x => decide (x.name = l.areas[i].name)) < i then [⟨9, l.areas[i].at', ((l.areas[l.areas.findIdx fun x => decide (x.name = l.areas[i].name)]?).map (·.at')).getD 0⟩]
    else if ¬ (boxB l.areas[i].box = true) ∨ l.areas[i].holds < 1 ∨ 4000 < l.areas[i].holds then [⟨2, l.areas[i].at', -1⟩] else []) := rfl
  generalize areaFault l i l.areas[i] = AF at *
  obtain ⟨x, hx⟩ : ∃ x, l.areas[i] = x := ⟨_, rfl⟩
  rw [hx] at c0 c1 c2 c3 c4 c5 c6 HIX HRF
  clear hx
  refine wp_seq_k (fun K hK => ?_);refine region_sk [0, 1, 2, 3, 4] [5, 6] hF fun C hC => ?_;clear hF;refine zs1 6 rfl rfl ?_;refine zs1 18 rfl rfl ?_;refine zm rfl rfl rfl ?_;refine zs2 19 20 rfl rfl rfl ?_;refine zs1 21 rfl rfl ?_;refine hC _ (fun a hF => ?_);clear hC C;refine seq_one ?_;refine ze0 rfl rfl rfl hF rfl ?_;clear hF;refine fun a hF => ?_;refine seq_one ?_;refine zu2 7 22 rfl rfl hF rfl rfl rfl ?_;clear hF;refine fun a hF => ?_;refine seq_end ?_;replace hF := hF.kp [0, 2, 6, 7] rfl;refine hK _ _ ?_;clear hK;(try clear K)
  have HBa := Lib.hid (Joins.below_alloc1 w1 (.cells #[.string (bs x.name), .int .i64 x.box.x, .int .i64 x.box.y, .int .i64 x.box.x2, .int .i64 x.box.y2, .int .i64 x.holds, .int .i64 x.at'] 48))
  have HA : Hid (AreaIn (w1.alloc (.cells #[.string (bs x.name), .int .i64 x.box.x, .int .i64 x.box.y, .int .i64 x.box.x2, .int .i64 x.box.y2, .int .i64 x.holds, .int .i64 x.at'] 48)) w1.heap.size x) := World.alloc_heap_new w1 _
  have HC2 := Lib.hid (HC1.out.down HBa.out)
  have HX2 := Lib.hid (HX.out.down HBa.out)
  have HT2 : Hid (TUpd ChkT w (w1.alloc (.cells #[.string (bs x.name), .int .i64 x.box.x, .int .i64 x.box.y, .int .i64 x.box.x2, .int .i64 x.box.y2, .int .i64 x.holds, .int .i64 x.at'] 48))) := HT1.out.trans (TUpd.of_below HBa.out)
  clear HC1 HX HT1 HBa c0 c1 c2 c3 c4 c5 c6 haa d0 d1 d2 d3 d4 d5 d6 d7
  generalize w1.alloc (.cells #[.string (bs x.name), .int .i64 x.box.x, .int .i64 x.box.y, .int .i64 x.box.x2, .int .i64 x.box.y2, .int .i64 x.holds, .int .i64 x.at'] 48) = w2 at *
  obtain ⟨gx, hgx⟩ : ∃ gx, gx = w1.heap.size := ⟨_, rfl⟩
  rw [← hgx] at hF HA
  clear hgx
  obtain ⟨d0, d1, d2, d3, d4, d5, d6, d7⟩ := HX2.out.cells
  refine wp_seq_k (fun K hK => ?_);refine region_sk [0, 1, 2] [3, 4] hF fun C hC => ?_;clear hF;refine zs1 6 rfl rfl ?_;refine zs1 23 rfl rfl ?_;refine zs1 7 rfl rfl ?_;refine hC _ (fun a hF => ?_);clear hC C;refine seq_one ?_;refine op_call [_, _] rfl rfl hF rfl (by kernel_rfl) ⟨rfl, rfl, trivial⟩ (fun K hK => ?_);clear hF
  refine (index_blk w2 l.ba l.bn l.bc l.blocks (HLI.out.blocks.below HC2.out.below) HLI.out.bn 50 [.pointer (some ⟨gx, 0, none⟩)] (fun y => decide (y.name = x.name)) (by kernel_rfl) (fun wx hb j hj => cl_area1 wx l.blocks[j] gx x (HA.out.down hb))).mono ?_
  rintro e w3 ⟨rfl, hb3⟩
  have HC3 := Lib.hid (HC2.out.down hb3)
  have HX3 := Lib.hid (HX2.out.down hb3)
  have HA3 := Lib.hid (HA.out.down hb3)
  have HT3 : Hid (TUpd ChkT w w3) := HT2.out.trans (TUpd.of_below hb3)
  clear HC2 HX2 HT2 HA hb3 d0 d1 d2 d3 d4 d5 d6 d7
  obtain ⟨d0, d1, d2, d3, d4, d5, d6, d7⟩ := HX3.out.cells
  have HFB : Hid (idxS (fun y : BlkR => decide (y.name = x.name)) l.blocks = if l.blocks.findIdx (fun y => decide (y.name = x.name)) < l.blocks.length then ((l.blocks.findIdx fun y => decide (y.name = x.name) : Nat) : Int) else -1) := rfl
  generalize idxS (fun y : BlkR => decide (y.name = x.name)) l.blocks = ib at *
  generalize l.blocks.findIdx (fun y => decide (y.name = x.name)) = fb at *
  refine hK _ _ (fun a hF => ?_);clear hK K;refine seq_ck [4] [] hF fun C hC => ?_;clear hF;refine za rfl rfl rfl ?_;refine hC _ (fun a hF => ?_);clear hC C;refine seq_end ?_;replace hF := hF.kp [0, 2, 6, 7, 8] rfl;refine hK _ _ ?_;clear hK;(try clear K);refine wp_seq_k (fun K hK => ?_);refine region_sk [0, 1, 2] [3, 4] hF fun C hC => ?_;clear hF;refine zs1 6 rfl rfl ?_;refine zs1 27 rfl rfl ?_;refine zs1 7 rfl rfl ?_;refine hC _ (fun a hF => ?_);clear hC C;refine seq_one ?_;refine op_call [_, _] rfl rfl hF rfl (by kernel_rfl) ⟨rfl, rfl, trivial⟩ (fun K hK => ?_);clear hF
  refine (index_area w3 l.aa l.an l.ac l.areas (HLI.out.areas.below HC3.out.below) HLI.out.an 52 [.pointer (some ⟨gx, 0, none⟩)] (fun y => decide (y.name = x.name)) (by kernel_rfl) (fun wx hb j hj => cl_area2 wx l.areas[j] gx x (HA3.out.down hb))).mono ?_
  rintro e w4 ⟨rfl, hb4⟩
  have HC4 := Lib.hid (HC3.out.down hb4)
  have HX4 := Lib.hid (HX3.out.down hb4)
  have HA4 := Lib.hid (HA3.out.down hb4)
  have HT4 : Hid (TUpd ChkT w w4) := HT3.out.trans (TUpd.of_below hb4)
  clear HC3 HX3 HT3 HA3 hb4 d0 d1 d2 d3 d4 d5 d6 d7
  have HFD : Hid (idxS (fun y : AreaR => decide (y.name = x.name)) l.areas = (l.areas.findIdx fun y => decide (y.name = x.name) : Nat)) := HIX.out.1
  have hfd := HIX.out.2
  rw [HFD.out]
  clear HIX HFD
  generalize l.areas.findIdx (fun y => decide (y.name = x.name)) = fi at *
  refine hK _ _ (fun a hF => ?_);clear hK K;refine seq_ck [4] [] hF fun C hC => ?_;clear hF;refine za rfl rfl rfl ?_;refine hC _ (fun a hF => ?_);clear hC C;refine seq_end ?_;replace hF := hF.kp [0, 2, 6, 7, 8, 9] rfl;refine hK _ _ ?_;clear hK;(try clear K)
  refine wp_block ?_
  refine wp_seq_k (fun K hK => ?_)
  have HBLL := Lib.hid HLI.out.blocks.1
  by_cases hbk : fb < l.blocks.length
  · have hib : ib = fb := by have := HFB.out; rw [if_pos hbk] at this; exact this
    have HRF2 := Lib.hid (HRF.out.trans (if_pos hbk))
    clear HRF HFB
    subst hib
    refine region_sk [0, 1, 2] [] hF fun C hC => ?_;clear hF;refine zm rfl rfl rfl ?_;refine zs1 32 rfl rfl ?_;refine za rfl rfl rfl ?_;refine hC _ (fun a hF => ?_);clear hC C;refine seq_end ?_;replace hF := hF.kp [0, 2, 6, 7, 8, 9, 31] rfl;refine hK _ _ ?_;clear hK;(try clear K)
    refine cond_yes hF rfl ?_
    have HC5 := Lib.hid (HC4.out.down (below_d (Below.refl _ _)))
    have HT5 : Hid (TUpd ChkT w w4.drew) := HT4.out.trans (TUpd.of_below (below_d (Below.refl _ _)))
    obtain ⟨d0, d1, d2, d3, d4, d5, d6, d7⟩ := LevIn.cells (w := w4.drew) HX4.out
    obtain ⟨a0, a1, a2, a3, a4, a5, a6⟩ := AreaIn.cells (w := w4.drew) HA4.out
    have hfl2 : fb < l.bn := by have := HBLL.out; omega
    have hfl4 : (fb : Int) < l.bn := by omega
    obtain ⟨b, o, hba, e0, e1, e2⟩ := blk_at (HLI.out.blocks.below HC5.out.below) fb hfl2 hbk
    have HAT : Hid (((l.blocks[fb]?).map (·.at')).getD 0 = l.blocks[fb].at') := by simp [Hid, hbk]
    clear d0 d1 d3 d4 d5 d6 d7 a0 a1 a2 a3 a4 a5 e0 e1
    generalize l.blocks[fb].at' = at2 at *
    refine region_any (by kernel_rfl) ?_;refine any_chain (fuel := 1) [(0, false), (1, false), (2, true), (3, false), (4, true), (5, false), (6, false), (7, false), (8, true)] [9] rfl (by kernel_rfl) (by kernel_rfl) hF (fun _ _ d _ _ h => by cases d <;> exact h) (fun C hC => ?_);clear hF;refine zm rfl rfl rfl ?_;refine zy1 7 rfl rfl ?_;refine zs1 35 rfl rfl ?_;refine zy1 6 rfl rfl ?_;refine zs1 37 rfl rfl ?_;refine zm rfl rfl rfl ?_;refine zy2 38 39 rfl rfl rfl ?_;refine zy1 40 rfl rfl ?_;refine zs1 41 rfl rfl ?_;refine hC _ (fun a hF => ?_);clear hC C;refine any_one (n := 9) (fuel := 0) (by kernel_rfl) ?_;refine op_call [_, _, _, _] rfl rfl hF rfl (by kernel_rfl) ⟨rfl, rfl, rfl, rfl, trivial⟩ (fun K hK => ?_);clear hF
    refine (add_any w0 h g _ L 9 x.at' at2 HC5.out (by omega)).mono ?_
    rintro e w6 ⟨rfl, hc6, ht6⟩
    refine hK _ _ (fun a hF => ?_);clear hK K;refine any_end (by kernel_rfl) ?_;replace hF := hF.kp [] rfl;(try simp only [then_exit, block_exit, block_norm, goto_norm, ↓reduceIte, Nat.reduceEqDiff]);refine end_fr (fn := Try.f25) (rs := []) rfl [] hF trivial ?_
    refine ⟨rfl, ?_, HT5.out.trans ht6⟩
    rw [HRF2.out, HAT.out]
    exact hc6
  have hib : ib = -1 := by have := HFB.out; rw [if_neg hbk] at this; exact this
  have HRF2 := Lib.hid (HRF.out.trans (if_neg hbk))
  clear HRF HFB
  subst hib
  refine region_sk [0, 1, 2] [] hF fun C hC => ?_;clear hF;refine zm rfl rfl rfl ?_;refine zs1 32 rfl rfl ?_;refine za rfl rfl rfl ?_;refine hC _ (fun a hF => ?_);clear hC C;refine seq_end ?_;replace hF := hF.kp [0, 2, 6, 7, 8, 9, 31] rfl;refine hK _ _ ?_;clear hK;(try clear K)
  refine cond_no hF rfl ?_
  refine wp_seq_k (fun K hK => ?_)
  by_cases hlt : fi < i
  · have hlti : (fi : Int) < i := by omega
    have HRF3 := Lib.hid (HRF2.out.trans (if_pos hlt))
    clear HRF2
    refine region_sk [0, 1, 2, 3] [] hF fun C hC => ?_;clear hF;refine zm rfl rfl rfl ?_;refine zm rfl rfl rfl ?_;refine zs2 45 46 rfl rfl rfl ?_;refine za rfl rfl rfl ?_;refine hC _ (fun a hF => ?_);clear hC C;refine seq_end ?_;replace hF := hF.kp [0, 6, 7, 9, 44] rfl;refine hK _ _ ?_;clear hK;(try clear K)
    refine cond_yes hF rfl ?_
    have HC5 := Lib.hid (HC4.out.down (below_d (Below.refl _ _)))
    have HT5 : Hid (TUpd ChkT w w4.drew) := HT4.out.trans (TUpd.of_below (below_d (Below.refl _ _)))
    obtain ⟨d0, d1, d2, d3, d4, d5, d6, d7⟩ := LevIn.cells (w := w4.drew) HX4.out
    obtain ⟨a0, a1, a2, a3, a4, a5, a6⟩ := AreaIn.cells (w := w4.drew) HA4.out
    have hfl2 : fi < l.an := by omega
    have hfl3 : fi < l.areas.length := by omega
    have hfl4 : (fi : Int) < l.an := by omega
    obtain ⟨b, o, hba, e0, e1, e2, e3, e4, e5, e6⟩ := area_at (HLI.out.areas.below HC5.out.below) fi hfl2 hfl3
    have HAT : Hid (((l.areas[fi]?).map (·.at')).getD 0 = l.areas[fi].at') := by simp [Hid, hfl3]
    clear d0 d1 d2 d4 d5 d6 d7 a0 a1 a2 a3 a4 a5 e0 e1 e2 e3 e4 e5
    generalize l.areas[fi].at' = at2 at *
    refine region_any (by kernel_rfl) ?_;refine any_chain (fuel := 1) [(0, false), (1, false), (2, true), (3, false), (4, true), (5, false), (6, false), (7, false), (8, true)] [9] rfl (by kernel_rfl) (by kernel_rfl) hF (fun _ _ d _ _ h => by cases d <;> exact h) (fun C hC => ?_);clear hF;refine zm rfl rfl rfl ?_;refine zy1 7 rfl rfl ?_;refine zs1 49 rfl rfl ?_;refine zy1 6 rfl rfl ?_;refine zs1 51 rfl rfl ?_;refine zm rfl rfl rfl ?_;refine zy2 52 53 rfl rfl rfl ?_;refine zy1 54 rfl rfl ?_;refine zs1 55 rfl rfl ?_;refine hC _ (fun a hF => ?_);clear hC C;refine any_one (n := 9) (fuel := 0) (by kernel_rfl) ?_;refine op_call [_, _, _, _] rfl rfl hF rfl (by kernel_rfl) ⟨rfl, rfl, rfl, rfl, trivial⟩ (fun K hK => ?_);clear hF
    refine (add_any w0 h g _ L 9 x.at' at2 HC5.out (by omega)).mono ?_
    rintro e w6 ⟨rfl, hc6, ht6⟩
    refine hK _ _ (fun a hF => ?_);clear hK K;refine any_end (by kernel_rfl) ?_;replace hF := hF.kp [] rfl;(try simp only [then_exit, block_exit, block_norm, goto_norm, ↓reduceIte, Nat.reduceEqDiff]);refine end_fr (fn := Try.f25) (rs := []) rfl [] hF trivial ?_
    refine ⟨rfl, ?_, HT5.out.trans ht6⟩
    rw [HRF3.out, HAT.out]
    exact hc6
  have hlti : ¬ (fi : Int) < i := by omega
  have HRF3 := Lib.hid (HRF2.out.trans (if_neg hlt))
  clear HRF2
  refine region_sk [0, 1, 2, 3] [] hF fun C hC => ?_;clear hF;refine zm rfl rfl rfl ?_;refine zm rfl rfl rfl ?_;refine zs2 45 46 rfl rfl rfl ?_;refine za rfl rfl rfl ?_;refine hC _ (fun a hF => ?_);clear hC C;refine seq_end ?_;replace hF := hF.kp [0, 6, 7, 9, 44] rfl;refine hK _ _ ?_;clear hK;(try clear K)
  refine cond_no hF rfl ?_
  clear hlti
  refine wp_seq_k (fun K hK => ?_)
  obtain ⟨a0, a1, a2, a3, a4, a5, a6⟩ := HA4.out.cells
  refine region_sk [0, 1] [2, 3, 4, 5, 6, 7, 8, 9, 10, 11, 12, 13, 14] hF fun C hC => ?_;clear hF;refine zs1 7 rfl rfl ?_;refine zs1 59 rfl rfl ?_;refine hC _ (fun a hF => ?_);clear hC C;refine seq_one ?_;refine op_call [_] rfl rfl hF rfl (by kernel_rfl) ⟨rfl, trivial⟩ (fun K hK => ?_);clear hF
  refine (box_any w4 x.box).mono ?_
  rintro e w5 ⟨rfl, hb5⟩
  have HC5 := Lib.hid (HC4.out.down hb5)
  have HA5 := Lib.hid (HA4.out.down hb5)
  have HT5 : Hid (TUpd ChkT w w5) := HT4.out.trans (TUpd.of_below hb5)
  clear HC4 HX4 HT4 HA4 hb5 a0 a1 a2 a3 a4 a5 a6
  obtain ⟨a0, a1, a2, a3, a4, a5, a6⟩ := HA5.out.cells
  clear a0 a1 a2 a3 a4
  generalize boxB x.box = yb at *
  generalize x.holds = hd at *
  cases yb
  · have HRF4 := Lib.hid (HRF3.out.trans (if_pos (Or.inl (by decide))))
    clear HRF3
    refine hK _ _ (fun a hF => ?_);clear hK K;refine seq_ck [3, 4, 5, 6, 7, 8, 9, 10, 11, 12, 13, 14] [] hF fun C hC => ?_;clear hF;refine zs1 61 rfl rfl ?_;refine zm rfl rfl rfl ?_;refine zx rfl ?_;refine zx rfl ?_;refine zx rfl ?_;refine zs2 63 66 rfl rfl rfl ?_;refine zm rfl rfl rfl ?_;refine zx rfl ?_;refine zx rfl ?_;refine zx rfl ?_;refine zs2 68 71 rfl rfl rfl ?_;refine za rfl rfl rfl ?_;refine hC _ (fun a hF => ?_);clear hC C;refine seq_end ?_;replace hF := hF.kp [0, 7, 58] rfl;refine hK _ _ ?_;clear hK;(try clear K)
    refine cond_yes hF rfl ?_
    refine region_sk [0, 1, 2] [3] hF fun C hC => ?_;clear hF;refine zm rfl rfl rfl ?_;refine zs1 7 rfl rfl ?_;refine zs1 74 rfl rfl ?_;refine hC _ (fun a hF => ?_);clear hC C;refine seq_one ?_;refine op_call [_, _, _, _] rfl rfl hF rfl (by kernel_rfl) ⟨rfl, rfl, rfl, rfl, trivial⟩ (fun K hK => ?_);clear hF
    refine (add_any w0 h g _ L 2 x.at' (-1) HC5.out (by omega)).mono ?_
    rintro e w6 ⟨rfl, hc6, ht6⟩
    refine hK _ _ (fun a hF => ?_);clear hK K;refine seq_end ?_;replace hF := hF.kp [] rfl;(try simp only [then_exit, block_exit, block_norm, goto_norm, ↓reduceIte, Nat.reduceEqDiff]);refine end_fr (fn := Try.f25) (rs := []) rfl [] hF trivial ?_
    refine ⟨rfl, ?_, HT5.out.trans ht6⟩
    rw [HRF4.out]
    exact hc6
  by_cases h1 : hd < 1
  · have HRF4 := Lib.hid (HRF3.out.trans (if_pos (Or.inr (Or.inl h1))))
    clear HRF3
    refine hK _ _ (fun a hF => ?_);clear hK K;refine seq_ck [3, 4, 5, 6, 7, 8, 9, 10, 11, 12, 13, 14] [] hF fun C hC => ?_;clear hF;refine zs1 61 rfl rfl ?_;refine zm rfl rfl rfl ?_;refine zs1 7 rfl rfl ?_;refine zs1 64 rfl rfl ?_;refine zs1 65 rfl rfl ?_;refine zs2 63 66 rfl rfl rfl ?_;refine zm rfl rfl rfl ?_;refine zx rfl ?_;refine zx rfl ?_;refine zx rfl ?_;refine zs2 68 71 rfl rfl rfl ?_;refine za rfl rfl rfl ?_;refine hC _ (fun a hF => ?_);clear hC C;refine seq_end ?_;replace hF := hF.kp [0, 7, 58] rfl;refine hK _ _ ?_;clear hK;(try clear K)
    refine cond_yes hF rfl ?_
    refine region_sk [0, 1, 2] [3] hF fun C hC => ?_;clear hF;refine zm rfl rfl rfl ?_;refine zs1 7 rfl rfl ?_;refine zs1 74 rfl rfl ?_;refine hC _ (fun a hF => ?_);clear hC C;refine seq_one ?_;refine op_call [_, _, _, _] rfl rfl hF rfl (by kernel_rfl) ⟨rfl, rfl, rfl, rfl, trivial⟩ (fun K hK => ?_);clear hF
    refine (add_any w0 h g _ L 2 x.at' (-1) HC5.out (by omega)).mono ?_
    rintro e w6 ⟨rfl, hc6, ht6⟩
    refine hK _ _ (fun a hF => ?_);clear hK K;refine seq_end ?_;replace hF := hF.kp [] rfl;(try simp only [then_exit, block_exit, block_norm, goto_norm, ↓reduceIte, Nat.reduceEqDiff]);refine end_fr (fn := Try.f25) (rs := []) rfl [] hF trivial ?_
    refine ⟨rfl, ?_, HT5.out.trans ht6⟩
    rw [HRF4.out]
    exact hc6
  by_cases h2 : 4000 < hd
  · have HRF4 := Lib.hid (HRF3.out.trans (if_pos (Or.inr (Or.inr h2))))
    clear HRF3
    refine hK _ _ (fun a hF => ?_);clear hK K;refine seq_ck [3, 4, 5, 6, 7, 8, 9, 10, 11, 12, 13, 14] [] hF fun C hC => ?_;clear hF;refine zs1 61 rfl rfl ?_;refine zm rfl rfl rfl ?_;refine zs1 7 rfl rfl ?_;refine zs1 64 rfl rfl ?_;refine zs1 65 rfl rfl ?_;refine zs2 63 66 rfl rfl rfl ?_;refine zm rfl rfl rfl ?_;refine zs1 7 rfl rfl ?_;refine zs1 69 rfl rfl ?_;refine zs1 70 rfl rfl ?_;refine zs2 68 71 rfl rfl rfl ?_;refine za rfl rfl rfl ?_;refine hC _ (fun a hF => ?_);clear hC C;refine seq_end ?_;replace hF := hF.kp [0, 7, 58] rfl;refine hK _ _ ?_;clear hK;(try clear K)
    refine cond_yes hF rfl ?_
    refine region_sk [0, 1, 2] [3] hF fun C hC => ?_;clear hF;refine zm rfl rfl rfl ?_;refine zs1 7 rfl rfl ?_;refine zs1 74 rfl rfl ?_;refine hC _ (fun a hF => ?_);clear hC C;refine seq_one ?_;refine op_call [_, _, _, _] rfl rfl hF rfl (by kernel_rfl) ⟨rfl, rfl, rfl, rfl, trivial⟩ (fun K hK => ?_);clear hF
    refine (add_any w0 h g _ L 2 x.at' (-1) HC5.out (by omega)).mono ?_
    rintro e w6 ⟨rfl, hc6, ht6⟩
    refine hK _ _ (fun a hF => ?_);clear hK K;refine seq_end ?_;replace hF := hF.kp [] rfl;(try simp only [then_exit, block_exit, block_norm, goto_norm, ↓reduceIte, Nat.reduceEqDiff]);refine end_fr (fn := Try.f25) (rs := []) rfl [] hF trivial ?_
    refine ⟨rfl, ?_, HT5.out.trans ht6⟩
    rw [HRF4.out]
    exact hc6
  have HRF4 := Lib.hid (HRF3.out.trans (if_neg (fun h => h.elim (fun h => h rfl) (fun h => h.elim h1 h2))))
  clear HRF3
  refine hK _ _ (fun a hF => ?_);clear hK K;refine seq_ck [3, 4, 5, 6, 7, 8, 9, 10, 11, 12, 13, 14] [] hF fun C hC => ?_;clear hF;refine zs1 61 rfl rfl ?_;refine zm rfl rfl rfl ?_;refine zs1 7 rfl rfl ?_;refine zs1 64 rfl rfl ?_;refine zs1 65 rfl rfl ?_;refine zs2 63 66 rfl rfl rfl ?_;refine zm rfl rfl rfl ?_;refine zs1 7 rfl rfl ?_;refine zs1 69 rfl rfl ?_;refine zs1 70 rfl rfl ?_;refine zs2 68 71 rfl rfl rfl ?_;refine za rfl rfl rfl ?_;refine hC _ (fun a hF => ?_);clear hC C;refine seq_end ?_;replace hF := hF.kp [0, 7, 58] rfl;refine hK _ _ ?_;clear hK;(try clear K)
  refine cond_no hF rfl ?_
  refine wp_skip ?_
  (try simp only [then_exit, block_exit, block_norm, goto_norm, ↓reduceIte, Nat.reduceEqDiff]);refine end_fr (fn := Try.f25) (rs := []) rfl [] hF trivial ?_
  refine ⟨rfl, ?_, HT5.out⟩
  rw [HRF4.out, List.append_nil]
  exact HC5.out
end Go.Proofs.Ytmcdhggnpfhlmaa
