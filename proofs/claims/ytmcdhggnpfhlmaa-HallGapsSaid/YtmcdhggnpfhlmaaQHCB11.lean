/- hall: the checker: block, area. -/
import Derived.Test.YtmcdhggnpfhlmaaQHCB10

namespace Go.Proofs.Ytmcdhggnpfhlmaa
open Go.RowKit Go.IntWalk
set_option linter.unusedSimpArgs false
set_option linter.unusedVariables false

set_option maxRecDepth 100000 in
set_option maxHeartbeats 16000000 in
theorem block_any (w0 : World) (h : HallR) (g : Nat) (w : World) (L : List FaultR) (n i : Nat) (hc : Chk w0 h g w L) (hL : L.length ≤ 800000) (hi : h.In w0) (l : LevR) (hl : h.levels[n]? = some l) (hib : i < l.blocks.length) :
    Calls Try.prog 23 #[.pointer (some ⟨g, 0, none⟩), .int .i64 n, .int .i64 i] w fun en w' => en = .returned (.tuple #[]) ∧ Chk w0 h g w' (L ++ blockFault l.blocks i l.blocks[i]) ∧ TUpd ChkT w w' := by
  obtain ⟨hn, hle⟩ := List.getElem?_eq_some_iff.1 hl
  have hll : h.levels.length = h.ln := hi.levels.1
  have hnl : n < h.ln := by omega
  have hni : (n : Int) < h.ln := by omega
  have HC := Lib.hid hc
  have HLI := Lib.hid (hi.lev h.levels[n] (List.getElem_mem hn))
  have c3 := hc.cell3
  obtain ⟨b, o, hla, c0, c1, c2, c4, c5, c6, c7, c8⟩ := lev_at (hi.levels.below hc.below) n hnl hn
  rw [hle] at c2 HLI
  clear hc hi hll c0 c1 c4 c5 c6 c7 c8 hl hle
  have hbl : i < l.bn := by have := HLI.out.blocks.1; omega
  have hbi : (i : Int) < l.bn := by omega
  have HIX := Lib.hid (idx_found (p := fun x : BlkR => decide (x.name = l.blocks[i].name)) hib (by simp))
  refine enter_fr (N := 51) [.pointer (some ⟨g, 0, none⟩), .int .i64 n, .int .i64 i] (Try.func23) rfl Try.ntmps23 (by rfl) (fun a hF => ?_);replace hF := hF.kp [0, 1, 2] rfl;refine wp_seq_k (fun K hK => ?_);refine region_seq (l := [0]) (by kernel_rfl) ?_;refine seq_one ?_;refine ze1 2 rfl rfl rfl hF rfl rfl ?_;clear hF;refine fun a hF => ?_
  have HN : Hid ((w.alloc (.cells #[.int .i64 i] 3)).heap[w.heap.size]? = some (.cells #[.int .i64 i] 3 (0, 0))) := World.alloc_heap_new w _
  have HBa := Lib.hid (Joins.below_alloc1 w (.cells #[.int .i64 i] 3))
  have HC1 := Lib.hid (HC.out.down HBa.out)
  have HT1 : Hid (TUpd ChkT w (w.alloc (.cells #[.int .i64 i] 3))) := TUpd.of_below HBa.out
  have d2 := Below.cell_of HBa.out c2
  have d3 := Below.cell_of HBa.out c3
  clear HC HBa c2 c3
  generalize w.alloc (.cells #[.int .i64 i] 3) = w1 at *
  obtain ⟨gi, hgi⟩ : ∃ gi, gi = w.heap.size := ⟨_, rfl⟩
  rw [← hgi] at hF HN
  clear hgi
  refine seq_end ?_;replace hF := hF.kp [0, 1, 5] rfl;refine hK _ _ ?_;clear hK;(try clear K);refine wp_seq_k (fun K hK => ?_);refine region_sk [0, 1, 2, 3, 4, 5, 6, 7, 8] [9, 10] hF fun C hC => ?_;clear hF;refine zm rfl rfl rfl ?_;refine zs1 8 rfl rfl ?_;refine zs1 9 rfl rfl ?_;refine zs1 10 rfl rfl ?_;refine zs1 11 rfl rfl ?_;refine zm rfl rfl rfl ?_;refine zs2 12 13 rfl rfl rfl ?_;refine zs1 14 rfl rfl ?_;refine zs1 15 rfl rfl ?_;refine hC _ (fun a hF => ?_);clear hC C;refine seq_one ?_;refine ze0 rfl rfl rfl hF rfl ?_;clear hF;refine fun a hF => ?_;refine seq_one ?_;refine zu2 6 16 rfl rfl hF rfl rfl rfl ?_;clear hF;refine fun a hF => ?_;refine hK _ _ ?_;clear hK;(try clear K)
  clear d2 d3 hla
  have HN2 : Hid ((w1.alloc (.cells #[.slice l.ba l.bn l.bc] 38)).heap[w1.heap.size]? = some (.cells #[.slice l.ba l.bn l.bc] 38 (0, 0))) := World.alloc_heap_new w1 _
  have HBa := Lib.hid (Joins.below_alloc1 w1 (.cells #[.slice l.ba l.bn l.bc] 38))
  have HC2 := Lib.hid (HC1.out.down HBa.out)
  have HT2 : Hid (TUpd ChkT w (w1.alloc (.cells #[.slice l.ba l.bn l.bc] 38))) := HT1.out.trans (TUpd.of_below HBa.out)
  have HN1 := Lib.hid ((HBa.out.block gi (lt_of_block HN.out)).trans HN.out)
  clear HC1 HT1 HN HBa
  generalize w1.alloc (.cells #[.slice l.ba l.bn l.bc] 38) = w2 at *
  obtain ⟨ga, hga⟩ : ∃ ga, ga = w1.heap.size := ⟨_, rfl⟩
  rw [← hga] at hF HN2
  clear hga
  have c1 : w2.cell? ⟨gi, 0, none⟩ = some (.int .i64 i) := boxed_cell (j := 0) HN1.out rfl
  have c2 : w2.cell? ⟨ga, 0, none⟩ = some (.slice l.ba l.bn l.bc) := boxed_cell (j := 0) HN2.out rfl
  refine wp_seq_k (fun K hK => ?_);refine region_sk [0, 1] [2, 3] hF fun C hC => ?_;clear hF;refine zs1 6 rfl rfl ?_;refine zs2 5 6 rfl rfl rfl ?_;refine hC _ (fun a hF => ?_);clear hC C;refine seq_one ?_;refine op_call [_, _] rfl rfl hF rfl (by kernel_rfl) ⟨rfl, rfl, trivial⟩ (fun K hK => ?_);clear hF
  refine (index_blk w2 l.ba l.bn l.bc l.blocks (HLI.out.blocks.below HC2.out.below) HLI.out.bn 45 [.pointer (some ⟨ga, 0, none⟩), .pointer (some ⟨gi, 0, none⟩)] (fun x => decide (x.name = l.blocks[i].name)) (by kernel_rfl)
    (fun wx hb j hj => cl_block wx l.blocks[j] ga gi l.ba l.bn l.bc i l.blocks ((HLI.out.blocks.below HC2.out.below).below hb) hib (Below.cell_of hb c2) (Below.cell_of hb c1))).mono ?_
  rintro e w3 ⟨rfl, hb3⟩
  have HC3 := Lib.hid (HC2.out.down hb3)
  have HT3 : Hid (TUpd ChkT w w3) := HT2.out.trans (TUpd.of_below hb3)
  have d1 := Below.cell_of hb3 c1
  have d2 := Below.cell_of hb3 c2
  clear HC2 HT2 hb3 c1 c2 HN1 HN2
  have HFD : Hid (idxS (fun x : BlkR => decide (x.name = l.blocks[i].name)) l.blocks = (l.blocks.findIdx fun x => decide (x.name = l.blocks[i].name) : Nat)) := HIX.out.1
  have hfd := HIX.out.2
  rw [HFD.out]
  have HBF : Hid (blockFault l.blocks i l.blocks[i] = if l.blocks.findIdx (fun x => decide (x.name = l.blocks[i].name)) < i then [⟨9, l.blocks[i].at', ((l.blocks[l.blocks.findIdx fun x => decide (x.name = l.blocks[i].name)]?).map (·.at')).getD 0⟩]
    else if 60 < l.blocks[i].rows.length then [⟨3, l.blocks[i].at', -1⟩] else []) := rfl
  clear HIX HFD
  generalize l.blocks.findIdx (fun x => decide (x.name = l.blocks[i].name)) = fi at *
  obtain ⟨b, o, hba, e0, e1, e2⟩ := blk_at (HLI.out.blocks.below HC3.out.below) i hbl hib
  have hrn : l.blocks[i].rows.length = l.blocks[i].rn := (HLI.out.blk _ (List.getElem_mem hib)).1.1
  rw [hrn] at HBF
  clear hrn e0
  refine hK _ _ (fun a hF => ?_);clear hK K;refine seq_ck [3] [] hF fun C hC => ?_;clear hF;refine za rfl rfl rfl ?_;refine hC _ (fun a hF => ?_);clear hC C;refine seq_end ?_;replace hF := hF.kp [0, 5, 6, 7] rfl;refine hK _ _ ?_;clear hK;(try clear K)
  refine wp_block ?_
  refine wp_seq_k (fun K hK => ?_)
  by_cases hlt : fi < i
  · have hlti : (fi : Int) < i := by omega
    have hfl2 : fi < l.bn := by omega
    have hfl3 : fi < l.blocks.length := by omega
    have hfl4 : (fi : Int) < l.bn := by omega
    have HBF2 := Lib.hid (HBF.out.trans (if_pos hlt))
    clear HBF
    refine region_sk [0, 1, 2, 3] [] hF fun C hC => ?_;clear hF;refine zm rfl rfl rfl ?_;refine zs1 5 rfl rfl ?_;refine zs2 21 22 rfl rfl rfl ?_;refine za rfl rfl rfl ?_;refine hC _ (fun a hF => ?_);clear hC C;refine seq_end ?_;replace hF := hF.kp [0, 5, 6, 7, 20] rfl;refine hK _ _ ?_;clear hK;(try clear K)
    refine cond_yes hF rfl ?_
    have HC4 := Lib.hid (HC3.out.down (below_d (Below.refl _ _)))
    have HT4 : Hid (TUpd ChkT w w3.drew) := HT3.out.trans (TUpd.of_below (below_d (Below.refl _ _)))
    have f1 : w3.drew.cell? ⟨gi, 0, none⟩ = some (.int .i64 i) := d1
    have f2 : w3.drew.cell? ⟨ga, 0, none⟩ = some (.slice l.ba l.bn l.bc) := d2
    have f3 : w3.drew.cell? ⟨b, o + i * 3 + 2, none⟩ = some (.int .i64 l.blocks[i].at') := e2
    obtain ⟨b', o', hba', e0', e1', e2'⟩ := blk_at (HLI.out.blocks.below HC4.out.below) fi hfl2 hfl3
    obtain ⟨rfl, rfl⟩ : b' = b ∧ o' = o := by rw [hba] at hba'; simpa using hba'.symm
    have HAT : Hid (((l.blocks[fi]?).map (·.at')).getD 0 = l.blocks[fi].at') := by simp [Hid, hfl3]
    clear hba' d1 d2 e1 e2 e0' e1'
    generalize l.blocks[i].at' = at1 at *
    generalize l.blocks[fi].at' = at2 at *
    refine region_any (by kernel_rfl) ?_;refine any_chain (fuel := 1) [(0, false), (1, true), (2, true), (3, false), (4, false), (5, true), (6, true), (7, false), (8, false), (9, false), (10, true)] [11] rfl (by kernel_rfl) (by kernel_rfl) hF (fun _ _ d _ _ h => by cases d <;> exact h) (fun C hC => ?_);clear hF;refine zm rfl rfl rfl ?_;refine zs1 6 rfl rfl ?_;refine zs1 5 rfl rfl ?_;refine zy2 25 26 rfl rfl rfl ?_;refine zy1 27 rfl rfl ?_;refine zs1 28 rfl rfl ?_;refine zs1 6 rfl rfl ?_;refine zm rfl rfl rfl ?_;refine zy2 30 31 rfl rfl rfl ?_;refine zy1 32 rfl rfl ?_;refine zs1 33 rfl rfl ?_;refine hC _ (fun a hF => ?_);clear hC C;refine any_one (n := 11) (fuel := 0) (by kernel_rfl) ?_;refine op_call [_, _, _, _] rfl rfl hF rfl (by kernel_rfl) ⟨rfl, rfl, rfl, rfl, trivial⟩ (fun K hK => ?_);clear hF
    refine (add_any w0 h g _ L 9 at1 at2 HC4.out (by omega)).mono ?_
    rintro e w6 ⟨rfl, hc6, ht6⟩
    refine hK _ _ (fun a hF => ?_);clear hK K;refine any_end (by kernel_rfl) ?_;replace hF := hF.kp [] rfl;(try simp only [then_exit, block_exit, block_norm, goto_norm, ↓reduceIte, Nat.reduceEqDiff]);refine end_fr (fn := Try.f23) (rs := []) rfl [] hF trivial ?_
    refine ⟨rfl, ?_, HT4.out.trans ht6⟩
    rw [HBF2.out, HAT.out]
    exact hc6
  have hlti : ¬ (fi : Int) < i := by omega
  have HBF2 := Lib.hid (HBF.out.trans (if_neg hlt))
  clear HBF
  refine region_sk [0, 1, 2, 3] [] hF fun C hC => ?_;clear hF;refine zm rfl rfl rfl ?_;refine zs1 5 rfl rfl ?_;refine zs2 21 22 rfl rfl rfl ?_;refine za rfl rfl rfl ?_;refine hC _ (fun a hF => ?_);clear hC C;refine seq_end ?_;replace hF := hF.kp [0, 5, 6, 7, 20] rfl;refine hK _ _ ?_;clear hK;(try clear K)
  refine cond_no hF rfl ?_
  clear hlti
  generalize l.blocks[i].at' = at1 at *
  generalize l.blocks[i].rn = rn at *
  refine wp_seq_k (fun K hK => ?_)
  by_cases h60 : 60 < rn
  · have h60i : (60 : Int) < rn := by omega
    have HBF3 := Lib.hid (HBF2.out.trans (if_pos h60))
    refine region_sk [0, 1, 2, 3, 4, 5, 6, 7] [] hF fun C hC => ?_;clear hF;refine zs1 6 rfl rfl ?_;refine zs1 5 rfl rfl ?_;refine zs2 37 38 rfl rfl rfl ?_;refine zs1 39 rfl rfl ?_;refine zs1 40 rfl rfl ?_;refine zs1 41 rfl rfl ?_;refine zs1 42 rfl rfl ?_;refine za rfl rfl rfl ?_;refine hC _ (fun a hF => ?_);clear hC C;refine seq_end ?_;replace hF := hF.kp [0, 5, 6, 36] rfl;refine hK _ _ ?_;clear hK;(try clear K)
    refine cond_yes hF rfl ?_
    refine region_sk [0, 1, 2, 3, 4, 5] [6] hF fun C hC => ?_;clear hF;refine zm rfl rfl rfl ?_;refine zs1 6 rfl rfl ?_;refine zs1 5 rfl rfl ?_;refine zs2 45 46 rfl rfl rfl ?_;refine zs1 47 rfl rfl ?_;refine zs1 48 rfl rfl ?_;refine hC _ (fun a hF => ?_);clear hC C;refine seq_one ?_;refine op_call [_, _, _, _] rfl rfl hF rfl (by kernel_rfl) ⟨rfl, rfl, rfl, rfl, trivial⟩ (fun K hK => ?_);clear hF
    refine (add_any w0 h g _ L 3 at1 (-1) HC3.out (by omega)).mono ?_
    rintro e w6 ⟨rfl, hc6, ht6⟩
    refine hK _ _ (fun a hF => ?_);clear hK K;refine seq_end ?_;replace hF := hF.kp [] rfl;(try simp only [then_exit, block_exit, block_norm, goto_norm, ↓reduceIte, Nat.reduceEqDiff]);refine end_fr (fn := Try.f23) (rs := []) rfl [] hF trivial ?_
    refine ⟨rfl, ?_, HT3.out.trans ht6⟩
    rw [HBF3.out]
    exact hc6
  · have h60i : ¬ (60 : Int) < rn := by omega
    have HBF3 := Lib.hid (HBF2.out.trans (if_neg h60))
    refine region_sk [0, 1, 2, 3, 4, 5, 6, 7] [] hF fun C hC => ?_;clear hF;refine zs1 6 rfl rfl ?_;refine zs1 5 rfl rfl ?_;refine zs2 37 38 rfl rfl rfl ?_;refine zs1 39 rfl rfl ?_;refine zs1 40 rfl rfl ?_;refine zs1 41 rfl rfl ?_;refine zs1 42 rfl rfl ?_;refine za rfl rfl rfl ?_;refine hC _ (fun a hF => ?_);clear hC C;refine seq_end ?_;replace hF := hF.kp [0, 5, 6, 36] rfl;refine hK _ _ ?_;clear hK;(try clear K)
    refine cond_no hF rfl ?_
    refine wp_skip ?_
    (try simp only [then_exit, block_exit, block_norm, goto_norm, ↓reduceIte, Nat.reduceEqDiff]);refine end_fr (fn := Try.f23) (rs := []) rfl [] hF trivial ?_
    refine ⟨rfl, ?_, HT3.out⟩
    rw [HBF3.out, List.append_nil]
    exact HC3.out
end Go.Proofs.Ytmcdhggnpfhlmaa
