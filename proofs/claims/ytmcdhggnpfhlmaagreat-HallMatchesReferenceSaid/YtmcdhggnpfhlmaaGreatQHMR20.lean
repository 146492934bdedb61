/- hall: places: the walk. -/
import Derived.Test.YtmcdhggnpfhlmaaGreatQHMR19

set_option linter.unusedVariables false
set_option linter.unusedSimpArgs false
namespace Go.Proofs.YtmcdhggnpfhlmaaGreat
open Go.RowKit Go.IntWalk Go.Maps Go.WideMaps
set_option linter.unusedSimpArgs false
set_option linter.unusedVariables false

theorem setRow_other (w : World) (cs : Array Value) {g b : Nat} (h : g ≠ b) : (w.setRow g cs).heap[b]? = w.heap[b]? := by
 unfold World.setRow
 simp [Array.getElem?_modify, h]

/-- A plan without faults. -/
structure PlanOk (h : HallR) : Prop where
 rows : ∀ l ∈ h.levels, ∀ b ∈ l.blocks, ∀ r ∈ b.rows, RowOk r ∧ Wheels r
 areas : ∀ l ∈ h.levels, ∀ a ∈ l.areas, 0 ≤ a.box.x ∧ a.box.x ≤ 10000 ∧ 0 ≤ a.box.y ∧ a.box.y ≤ 10000 ∧ 0 ≤ a.box.x2 ∧ a.box.x2 ≤ 10000 ∧ 0 ≤ a.box.y2 ∧ a.box.y2 ≤ 10000 ∧ 0 ≤ a.holds ∧ a.holds ≤ 4000
 ln : h.ln ≤ 1000
 small : ∀ l ∈ h.levels, l.bn ≤ 1000 ∧ l.an ≤ 1000 ∧ l.pn ≤ 1000 ∧ ∀ b ∈ l.blocks, b.rn ≤ 1000
 few : (placesS h).length ≤ 4000

set_option maxRecDepth 100000 in
set_option maxHeartbeats 64000000 in
theorem places_any (w0 : World) (h : HallR) (hh : h.In w0) (hok : PlanOk h) :
  Calls Tryz.prog 23 #[.agg #[.string (bs h.name), .int .i64 h.stage.x, .int .i64 h.stage.y, .slice h.la h.ln h.lc]] w0 fun e w' => (∃ la c, e = .returned (.slice la (placesS h).length c) ∧ Recs PlaceE w' la (placesS h).length (placesS h)) ∧ Below w0.heap.size w0 w' := by
 have HH := Lib.hid hh
 have HOK := Lib.hid hok
 have HLL : Hid (h.levels.length = h.ln) := hh.levels.1
 have hln := hok.ln
 clear hh hok
 refine enter_fr (N := 104) [.agg #[.string (bs h.name), .int .i64 h.stage.x, .int .i64 h.stage.y, .slice h.la h.ln h.lc]] (Tryz.func23) rfl Tryz.ntmps23 (by rfl) (fun a hF => ?_);replace hF := hF.kp [0] rfl;refine wp_seq_k (fun K hK => ?_);refine region_seq (l := [0, 1]) (by kernel_rfl) ?_;refine seq_one ?_;revert hF;refine qe1 fun a hF => ?_;revert hF;refine zre 1 [2] [1] fun a hF => ?_;refine hK _ _ ?_;clear hK
 have HX : Hid (HallIn (w0.alloc (.cells #[.string (bs h.name), .int .i64 h.stage.x, .int .i64 h.stage.y, .slice h.la h.ln h.lc] 26)) w0.heap.size h) := World.alloc_heap_new w0 _
 have HB : Hid (Below w0.heap.size w0 (w0.alloc (.cells #[.string (bs h.name), .int .i64 h.stage.x, .int .i64 h.stage.y, .slice h.la h.ln h.lc] 26))) := Joins.below_alloc1 w0 _
 generalize w0.alloc (.cells #[.string (bs h.name), .int .i64 h.stage.x, .int .i64 h.stage.y, .slice h.la h.ln h.lc] 26) = w1 at *
 obtain ⟨gh, hgh⟩ : ∃ g, g = w0.heap.size := ⟨_, rfl⟩
 rw [← hgh] at hF HX
 clear hgh
 refine wp_seq_k (fun K hK => ?_);refine region_seq (l := [0]) (by kernel_rfl) ?_;refine seq_one ?_;revert hF;refine qe0 fun a hF => ?_;refine seq_end ?_;replace hF := hF.kp [1, 3] rfl;refine hK _ _ ?_;clear hK
 have HBa := Lib.hid (Joins.below_alloc1 w1 (.cells #[.slice none 0 0] 35))
 have HV : Hid ((w1.alloc (.cells #[.slice none 0 0] 35)).heap[w1.heap.size]? = some (.cells #[.slice none 0 0] 35 (0, 0))) := World.alloc_heap_new w1 _
 have HP : Hid (PlcL w0 h gh w1.heap.size (w1.alloc (.cells #[.slice none 0 0] 35)) (foldT (putLevel h) h.levels 0 [])) := ⟨HB.out.trans (HBa.out.mono HB.out.size), HX.out.down HBa.out, HB.out.size, .slice none 0 0, HV.out, nil_row⟩
 clear HB HX HBa HV
 generalize w1.alloc (.cells #[.slice none 0 0] 35) = w2 at *
 obtain ⟨g3, hg3⟩ : ∃ g, g = w1.heap.size := ⟨_, rfl⟩
 rw [← hg3] at hF HP
 clear hg3
 have HALL : Hid (∀ i, foldT (putLevel h) h.levels i [] <+: placesS h) := fun i => foldT_pre (putLevel h) (putLevel_pre h) h.levels i []
 obtain ⟨c0, c1, c2, c3⟩ := HP.out.hall.cells
 refine wp_seq_k (fun KA hKA => ?_);revert hF;refine zrs [4, 4, 4, 1] [1, 3, 18, 19, 20] fun a hF => ?_
 clear c0 c1 c2 c3
 refine wp_block ?_
 refine loop_fr (fun m a' w' => ∃ n : Nat, n + m = h.ln ∧ FrF 104 [] [(1, .pointer (some ⟨gh, 0, none⟩)), (3, .pointer (some ⟨g3, 0, none⟩)), (18, .slice h.la h.ln h.lc), (19, .int .i64 h.ln), (20, .int .i64 n)] a' ∧ Hid (PlcL w0 h gh g3 w' (foldT (putLevel h) h.levels n []))) h.ln ⟨0, by omega, hF, HP⟩ ?_
 clear hF HP
 rintro rk a w3 ⟨n, hnk, hF, HP⟩ KB hKB
 by_cases hlt : n < h.ln
 rotate_left
 ·
  revert hF;refine zrs [5] [1, 3, 18, 19, 20, 21] fun a hF => ?_;refine wp_seq_k (fun K hK => ?_)
  refine cond_no hF rfl ?_
  refine wp_exit ?_
  refine hKA _ _ ?_;clear hKA
  have hne : n = h.levels.length := by rw [HLL.out]; omega
  rw [hne, foldT_all] at HP
  have HP2 : Hid (PlcL w0 h gh g3 w3 (placesS h)) := HP
  obtain ⟨v, hv, ho⟩ := HP2.out.out.row
  obtain ⟨la, c, e, hr, _⟩ := Rcs.of_own ho
  subst e
  have c3 : w3.cell? ⟨g3, 0, none⟩ = some (.slice la (placesS h).length c) := boxed_cell (j := 0) hv rfl
  have HFIN := Lib.hid (And.intro hr HP2.out.below)
  clear hne HP hv ho hr
  revert hF;refine zrs [4, 2] [2] fun a hF => ?_;refine wp_ret ?_;(try simp only [then_ret, block_ret, goto_ret]);revert hF;refine zq ?_
  exact ⟨⟨la, c, rfl, HFIN.out.1⟩, HFIN.out.2⟩
 revert hF;refine zrs [5] [1, 3, 18, 19, 20, 21] fun a hF => ?_;refine wp_seq_k (fun K hK => ?_)
 refine cond_yes hF rfl ?_
 refine wp_skip ?_
 refine hK _ _ ?_;clear hK;replace hF := hF.kp [1, 3, 18, 19, 20] rfl
 clear hKA
 have hnl : n < h.levels.length := by rw [HLL.out]; exact hlt
 have hni : (n : Int) < h.ln := by omega
 obtain ⟨bb, oo, hla, d0, d1, d2, d3, d4, d5, d6, d7⟩ := lev_at (HH.out.levels.below HP.out.below) n hlt hnl
 refine seq_cut (fun a' w' => FrF 104 [] [(1, .pointer (some ⟨gh, 0, none⟩)), (3, .pointer (some ⟨g3, 0, none⟩)), (18, .slice h.la h.ln h.lc), (19, .int .i64 h.ln), (20, .int .i64 n)] a' ∧ Hid (PlcL w0 h gh g3 w' (foldT (putLevel h) h.levels (n + 1) []))) (fun KC hKC => ?_) ?_
 rotate_left
 ·
  clear hF HP d0 d1 d2 d3 d4 d5 d6 d7 hla
  rintro a w' ⟨hF, HP⟩
  have hws : IntKind.i64.wrap ((n : Int) + 1) = ((n + 1 : Nat) : Int) := wrap_succ (by omega)
  revert hF;refine zrg [4, 1] [1, 3, 18, 19, 20] fun a hF => ?_
  exact hKB (h.ln - (n + 1)) _ _ (by omega) ⟨n + 1, by omega, hF, HP⟩
 clear hKB hnk
 have HNX := Lib.hid (foldT_next (putLevel h) hnl [])
 have HPR := Lib.hid (HALL.out (n + 1))
 rw [HNX.out] at hKC HPR
 clear HNX
 have hlm : h.levels[n] ∈ h.levels := List.getElem_mem hnl
 have HLV := Lib.hid (HH.out.lev _ hlm)
 have HRO := Lib.hid (HOK.out.rows _ hlm)
 have HAO := Lib.hid (HOK.out.areas _ hlm)
 have HSM := Lib.hid (HOK.out.small _ hlm)
 have HLN : Hid (h.levels[n]? = some h.levels[n]) := List.getElem?_eq_getElem hnl
 clear hlm
 generalize h.levels[n] = l at *
 generalize foldT (putLevel h) h.levels n [] = O at *
 refine wp_block ?_
 refine wp_seq_k (fun K hK => ?_);revert hF;refine zrp [1, 5, 4] [3, 4, 5, 6] fun a hF => ?_;refine seq_one ?_;revert hF;refine qe0 fun a hF => ?_
 have hi0 : (w3.alloc (.cells #[.int .i64 0] 3)).heap[w3.heap.size]? = some (.cells #[.int .i64 0] 3 (0, 0)) := World.alloc_heap_new _ _
 have hb1 := Joins.below_alloc1 w3 (.cells #[.int .i64 0] 3)
 generalize w3.alloc (.cells #[.int .i64 0] 3) = wa at *
 obtain ⟨gn, hgv⟩ : ∃ g, g = w3.heap.size := ⟨_, rfl⟩
 have hgw : w3.heap.size ≤ gn := Nat.le_of_eq hgv.symm
 rw [← hgv] at hF hi0
 clear hgv
 refine seq_one ?_;revert hF;refine qe0 fun a hF => ?_
 have hs0 : (wa.alloc (.cells #[.string ⟨#[]⟩, .int .i64 0, .slice none 0 0, .slice none 0 0, .slice none 0 0, .slice none 0 0, .slice none 0 0, .int .i64 0] 32)).heap[wa.heap.size]? = some (.cells #[.string ⟨#[]⟩, .int .i64 0, .slice none 0 0, .slice none 0 0, .slice none 0 0, .slice none 0 0, .slice none 0 0, .int .i64 0] 32 (0, 0)) := World.alloc_heap_new _ _
 have hb2 := Joins.below_alloc1 wa (.cells #[.string ⟨#[]⟩, .int .i64 0, .slice none 0 0, .slice none 0 0, .slice none 0 0, .slice none 0 0, .slice none 0 0, .int .i64 0] 32)
 have hi1 := (hb2.block gn (lt_of_block hi0)).trans hi0
 have hb3 := hb1.trans (hb2.mono hb1.size)
 have hgs : w3.heap.size ≤ wa.heap.size := hb1.size
 generalize wa.alloc (.cells #[.string ⟨#[]⟩, .int .i64 0, .slice none 0 0, .slice none 0 0, .slice none 0 0, .slice none 0 0, .slice none 0 0, .int .i64 0] 32) = wb at *
 obtain ⟨gl, hgv⟩ : ∃ g, g = wa.heap.size := ⟨_, rfl⟩
 rw [← hgv] at hF hs0 hgs
 clear hgv hi0 hb1 hb2
 have ci := boxed_cell (j := 0) hi1 rfl
 have fi := free_var (o := 0) hi1
 refine seq_one ?_;revert hF;refine qu2 fun a hF => ?_
 clear ci fi
 have hi2 : (wb.setCell ⟨gn, 0, none⟩ (.int .i64 n)).heap[gn]? = some (.cells #[.int .i64 n] 3 (0, 0)) := set_var hi1
 have hs1 := set_keep (u := .int .i64 n) (o := 0) hi1 hs0 (by decide)
 have hb4 : Below w3.heap.size w3 (wb.setCell ⟨gn, 0, none⟩ (.int .i64 n)) := hb3.trans (below_set hgw)
 clear hi1 hs0 hb3
 generalize wb.setCell ⟨gn, 0, none⟩ (.int .i64 n) = wc at *
 have hSV := run_storeVar_row (P := Tryz.prog) wc gl 32 32 #[.string ⟨#[]⟩, .int .i64 0, .slice none 0 0, .slice none 0 0, .slice none 0 0, .slice none 0 0, .slice none 0 0, .int .i64 0] #[.string (bs l.name), .int .i64 l.height, .slice l.ba l.bn l.bc, .slice l.aa l.an l.ac, .slice l.sa l.sn l.sc, .slice l.pa l.pn l.pc, .slice l.da l.dn l.dc, .int .i64 l.at'] hs1 (by kernel_rfl) rfl (by simp [Value.oneCell'])
 have hs2 := setRow_heap wc gl #[.string ⟨#[]⟩, .int .i64 0, .slice none 0 0, .slice none 0 0, .slice none 0 0, .slice none 0 0, .slice none 0 0, .int .i64 0] #[.string (bs l.name), .int .i64 l.height, .slice l.ba l.bn l.bc, .slice l.aa l.an l.ac, .slice l.sa l.sn l.sc, .slice l.pa l.pn l.pc, .slice l.da l.dn l.dc, .int .i64 l.at'] 32 (0, 0) hs1
 have hb5 : Below w3.heap.size w3 (wc.setRow gl #[.string (bs l.name), .int .i64 l.height, .slice l.ba l.bn l.bc, .slice l.aa l.an l.ac, .slice l.sa l.sn l.sc, .slice l.pa l.pn l.pc, .slice l.da l.dn l.dc, .int .i64 l.at']) := below_setRow hb4 hgs #[.string (bs l.name), .int .i64 l.height, .slice l.ba l.bn l.bc, .slice l.aa l.an l.ac, .slice l.sa l.sn l.sc, .slice l.pa l.pn l.pc, .slice l.da l.dn l.dc, .int .i64 l.at']
 have hi3 : (wc.setRow gl #[.string (bs l.name), .int .i64 l.height, .slice l.ba l.bn l.bc, .slice l.aa l.an l.ac, .slice l.sa l.sn l.sc, .slice l.pa l.pn l.pc, .slice l.da l.dn l.dc, .int .i64 l.at']).heap[gn]? = some (.cells #[.int .i64 n] 3 (0, 0)) := (setRow_other wc #[.string (bs l.name), .int .i64 l.height, .slice l.ba l.bn l.bc, .slice l.aa l.an l.ac, .slice l.sa l.sn l.sc, .slice l.pa l.pn l.pc, .slice l.da l.dn l.dc, .int .i64 l.at'] (fun e => type_ne hi2 hs1 (by decide) e.symm)).trans hi2
 have HTW := Lib.hid (And.intro hb5 (And.intro hi3 hs2))
 clear hs1 hs2 hb4 hb5 hi2 hi3 hgs hgw
 refine seq_one ?_;refine op_storev rfl rfl hF rfl rfl rfl rfl hSV ?_;clear hF;refine fun a hF => ?_;refine seq_end ?_;replace hF := hF.kp [1, 3, 4, 5, 18, 19, 20] rfl
 clear hSV
 refine hK _ _ ?_;clear hK
 generalize wc.setRow gl #[.string (bs l.name), .int .i64 l.height, .slice l.ba l.bn l.bc, .slice l.aa l.an l.ac, .slice l.sa l.sn l.sc, .slice l.pa l.pn l.pc, .slice l.da l.dn l.dc, .int .i64 l.at'] = w4 at *
 have HP4 := Lib.hid (HP.out.down HTW.out.1)
 have HN4 : Hid (VarI w4 gn n) := HTW.out.2.1
 have HL4 : Hid (LevIn w4 gl l) := HTW.out.2.2
 clear HP HTW d0 d1 d2 d3 d4 d5 d6 d7 hla
 have HBP : Hid (∀ i, foldT (putBlk h l n) l.blocks i O <+: placesS h) := fun i => (foldT_pre _ (putBlk_pre h l n) l.blocks i O).trans ((fold_pre _ (putArea_pre h l n) l.areas.zipIdx _).trans HPR.out)
 have HBL : Hid (l.blocks.length = l.bn) := HLV.out.blocks.1
 have HAL : Hid (l.areas.length = l.an) := HLV.out.areas.1
 have hbn : l.bn ≤ 1000 := HSM.out.1
 have han : l.an ≤ 1000 := HSM.out.2.1
 have hpn : l.pn ≤ 1000 := HSM.out.2.2.1
 refine seq_cut (fun a' w' => FrF 104 [] [(1, .pointer (some ⟨gh, 0, none⟩)), (3, .pointer (some ⟨g3, 0, none⟩)), (4, .pointer (some ⟨gn, 0, none⟩)), (5, .pointer (some ⟨gl, 0, none⟩)), (18, .slice h.la h.ln h.lc), (19, .int .i64 h.ln), (20, .int .i64 n)] a' ∧ Hid (PlcL w0 h gh g3 w' (l.blocks.zipIdx.foldl (putBlk h l n) O)) ∧ Hid (VarI w' gn n) ∧ Hid (LevIn w' gl l)) (fun KA hKA => ?_) ?_
 ·
  clear hKC
  obtain ⟨d0, d1, d2, d3, d4, d5, d6, d7⟩ := HL4.out.cells
  revert hF;refine zrs [4, 4, 4, 1] [1, 3, 4, 5, 18, 19, 20, 26, 27, 28] fun a hF => ?_
  clear d0 d1 d2 d3 d4 d5 d6 d7
  refine wp_block ?_
  refine loop_fr (fun m a' w' => ∃ i : Nat, i + m = l.bn ∧ FrF 104 [] [(1, .pointer (some ⟨gh, 0, none⟩)), (3, .pointer (some ⟨g3, 0, none⟩)), (4, .pointer (some ⟨gn, 0, none⟩)), (5, .pointer (some ⟨gl, 0, none⟩)), (18, .slice h.la h.ln h.lc), (19, .int .i64 h.ln), (20, .int .i64 n), (26, .slice l.ba l.bn l.bc), (27, .int .i64 l.bn), (28, .int .i64 i)] a' ∧ Hid (PlcL w0 h gh g3 w' (foldT (putBlk h l n) l.blocks i O)) ∧ Hid (VarI w' gn n) ∧ Hid (LevIn w' gl l)) l.bn ⟨0, by omega, hF, HP4, HN4, HL4⟩ ?_
  clear hF HP4 HN4 HL4
  rintro rk a w5 ⟨i, hik, hF, HP, HN, HL⟩ KB hKB
  by_cases hlti : i < l.bn
  rotate_left
  ·
   revert hF;refine zrs [5] [1, 3, 4, 5, 18, 19, 20, 26, 27, 28, 29] fun a hF => ?_;refine wp_seq_k (fun K hK => ?_)
   refine cond_no hF rfl ?_
   refine wp_exit ?_
   have hie : i = l.blocks.length := by rw [HBL.out]; omega
   rw [hie, foldT_all] at HP
   exact hKA _ _ ⟨hF.sub ⟨rfl, rfl, rfl, rfl, rfl, rfl, rfl, trivial⟩, HP, HN, HL⟩
  revert hF;refine zrs [5] [1, 3, 4, 5, 18, 19, 20, 26, 27, 28, 29] fun a hF => ?_;refine wp_seq_k (fun K hK => ?_)
  refine cond_yes hF rfl ?_
  refine wp_skip ?_
  refine hK _ _ ?_;clear hK;replace hF := hF.kp [1, 3, 4, 5, 18, 19, 20, 26, 27, 28] rfl
  clear hKA
  have hil : i < l.blocks.length := by rw [HBL.out]; exact hlti
  have hii : (i : Int) < l.bn := by omega
  obtain ⟨bb, oo, hba, d0, d1, d2⟩ := blk_at (HLV.out.blocks.below HP.out.below) i hlti hil
  refine seq_cut (fun a' w' => FrF 104 [] [(1, .pointer (some ⟨gh, 0, none⟩)), (3, .pointer (some ⟨g3, 0, none⟩)), (4, .pointer (some ⟨gn, 0, none⟩)), (5, .pointer (some ⟨gl, 0, none⟩)), (18, .slice h.la h.ln h.lc), (19, .int .i64 h.ln), (20, .int .i64 n), (26, .slice l.ba l.bn l.bc), (27, .int .i64 l.bn), (28, .int .i64 i)] a' ∧ Hid (PlcL w0 h gh g3 w' (foldT (putBlk h l n) l.blocks (i + 1) O)) ∧ Hid (VarI w' gn n) ∧ Hid (LevIn w' gl l)) (fun KC hKC => ?_) ?_
  rotate_left
  ·
   clear hF HP HN HL d0 d1 d2 hba
   rintro a w' ⟨hF, HP, HN, HL⟩
   have hws : IntKind.i64.wrap ((i : Int) + 1) = ((i + 1 : Nat) : Int) := wrap_succ (by omega)
   revert hF;refine zrg [4, 1] [1, 3, 4, 5, 18, 19, 20, 26, 27, 28] fun a hF => ?_
   exact hKB (l.bn - (i + 1)) _ _ (by omega) ⟨i + 1, by omega, hF, HP, HN, HL⟩
  clear hKB hik
  have HNX := Lib.hid (foldT_next (putBlk h l n) hil O)
  have HPB := Lib.hid (HBP.out (i + 1))
  rw [HNX.out] at hKC HPB
  clear HNX
  have hbm : l.blocks[i] ∈ l.blocks := List.getElem_mem hil
  have HBV := Lib.hid (HLV.out.blk _ hbm)
  have HRB := Lib.hid (HRO.out _ hbm)
  have HRN := Lib.hid (HSM.out.2.2.2 _ hbm)
  clear hbm
  generalize l.blocks[i] = b at *
  generalize foldT (putBlk h l n) l.blocks i O = O1 at *
  refine wp_block ?_
  refine wp_seq_k (fun K hK => ?_);revert hF;refine zrp [1, 5, 4] [3, 4, 5, 6] fun a hF => ?_;refine seq_one ?_;revert hF;refine qe0 fun a hF => ?_
  have hi0 : (w5.alloc (.cells #[.int .i64 0] 3)).heap[w5.heap.size]? = some (.cells #[.int .i64 0] 3 (0, 0)) := World.alloc_heap_new _ _
  have hb1 := Joins.below_alloc1 w5 (.cells #[.int .i64 0] 3)
  generalize w5.alloc (.cells #[.int .i64 0] 3) = wa at *
  obtain ⟨gi, hgv⟩ : ∃ g, g = w5.heap.size := ⟨_, rfl⟩
  have hgw : w5.heap.size ≤ gi := Nat.le_of_eq hgv.symm
  rw [← hgv] at hF hi0
  clear hgv
  refine seq_one ?_;revert hF;refine qe0 fun a hF => ?_
  have hs0 : (wa.alloc (.cells #[.string ⟨#[]⟩, .slice none 0 0, .int .i64 0] 57)).heap[wa.heap.size]? = some (.cells #[.string ⟨#[]⟩, .slice none 0 0, .int .i64 0] 57 (0, 0)) := World.alloc_heap_new _ _
  have hb2 := Joins.below_alloc1 wa (.cells #[.string ⟨#[]⟩, .slice none 0 0, .int .i64 0] 57)
  have hi1 := (hb2.block gi (lt_of_block hi0)).trans hi0
  have hb3 := hb1.trans (hb2.mono hb1.size)
  have hgs : w5.heap.size ≤ wa.heap.size := hb1.size
  generalize wa.alloc (.cells #[.string ⟨#[]⟩, .slice none 0 0, .int .i64 0] 57) = wb at *
  obtain ⟨gb, hgv⟩ : ∃ g, g = wa.heap.size := ⟨_, rfl⟩
  rw [← hgv] at hF hs0 hgs
  clear hgv hi0 hb1 hb2
  have ci := boxed_cell (j := 0) hi1 rfl
  have fi := free_var (o := 0) hi1
  refine seq_one ?_;revert hF;refine qu2 fun a hF => ?_
  clear ci fi
  have hi2 : (wb.setCell ⟨gi, 0, none⟩ (.int .i64 i)).heap[gi]? = some (.cells #[.int .i64 i] 3 (0, 0)) := set_var hi1
  have hs1 := set_keep (u := .int .i64 i) (o := 0) hi1 hs0 (by decide)
  have hb4 : Below w5.heap.size w5 (wb.setCell ⟨gi, 0, none⟩ (.int .i64 i)) := hb3.trans (below_set hgw)
  clear hi1 hs0 hb3
  generalize wb.setCell ⟨gi, 0, none⟩ (.int .i64 i) = wc at *
  have hSV := run_storeVar_row (P := Tryz.prog) wc gb 57 57 #[.string ⟨#[]⟩, .slice none 0 0, .int .i64 0] #[.string (bs b.name), .slice b.ra b.rn b.rc, .int .i64 b.at'] hs1 (by kernel_rfl) rfl (by simp [Value.oneCell'])
  have hs2 := setRow_heap wc gb #[.string ⟨#[]⟩, .slice none 0 0, .int .i64 0] #[.string (bs b.name), .slice b.ra b.rn b.rc, .int .i64 b.at'] 57 (0, 0) hs1
  have hb5 : Below w5.heap.size w5 (wc.setRow gb #[.string (bs b.name), .slice b.ra b.rn b.rc, .int .i64 b.at']) := below_setRow hb4 hgs #[.string (bs b.name), .slice b.ra b.rn b.rc, .int .i64 b.at']
  have hi3 : (wc.setRow gb #[.string (bs b.name), .slice b.ra b.rn b.rc, .int .i64 b.at']).heap[gi]? = some (.cells #[.int .i64 i] 3 (0, 0)) := (setRow_other wc #[.string (bs b.name), .slice b.ra b.rn b.rc, .int .i64 b.at'] (fun e => type_ne hi2 hs1 (by decide) e.symm)).trans hi2
  have HTW := Lib.hid (And.intro hb5 (And.intro hi3 hs2))
  clear hs1 hs2 hb4 hb5 hi2 hi3 hgs hgw
  refine seq_one ?_;refine op_storev rfl rfl hF rfl rfl rfl rfl hSV ?_;clear hF;refine fun a hF => ?_;refine seq_end ?_;replace hF := hF.kp [1, 3, 4, 5, 6, 7, 18, 19, 20, 26, 27, 28] rfl
  clear hSV
  refine hK _ _ ?_;clear hK
  generalize wc.setRow gb #[.string (bs b.name), .slice b.ra b.rn b.rc, .int .i64 b.at'] = w6 at *
  have HP6 := Lib.hid (HP.out.down HTW.out.1)
  have HN6 : Hid (VarI w6 gn n) := (HTW.out.1.block gn (lt_of_block HN.out)).trans HN.out
  have HL6 := Lib.hid (HL.out.down HTW.out.1)
  have HI6 : Hid (VarI w6 gi i) := HTW.out.2.1
  have HB6 : Hid (BlkIn w6 gb b) := HTW.out.2.2
  clear HP HN HL HTW d0 d1 d2 hba
  have HRP : Hid (∀ k, foldT (putRow h l n i) b.rows k O1 <+: placesS h) := fun k => (foldT_pre _ (putRow_pre h l n i) b.rows k O1).trans HPB.out
  have HRL : Hid (b.rows.length = b.rn) := HBV.out.1.1
  have hrn : b.rn ≤ 1000 := HRN.out
  obtain ⟨d0, d1, d2⟩ := HB6.out.cells
  revert hF;refine zrs [4, 4, 4, 1] [1, 3, 4, 5, 6, 18, 19, 20, 26, 27, 28, 34, 35, 36] fun a hF => ?_
  clear d0 d1 d2 HB6
  refine wp_block ?_
  refine loop_fr (fun m a' w' => ∃ k : Nat, k + m = b.rn ∧ FrF 104 [] [(1, .pointer (some ⟨gh, 0, none⟩)), (3, .pointer (some ⟨g3, 0, none⟩)), (4, .pointer (some ⟨gn, 0, none⟩)), (5, .pointer (some ⟨gl, 0, none⟩)), (6, .pointer (some ⟨gi, 0, none⟩)), (18, .slice h.la h.ln h.lc), (19, .int .i64 h.ln), (20, .int .i64 n), (26, .slice l.ba l.bn l.bc), (27, .int .i64 l.bn), (28, .int .i64 i), (34, .slice b.ra b.rn b.rc), (35, .int .i64 b.rn), (36, .int .i64 k)] a' ∧ Hid (PlcL w0 h gh g3 w' (foldT (putRow h l n i) b.rows k O1)) ∧ Hid (VarI w' gn n) ∧ Hid (LevIn w' gl l) ∧ Hid (VarI w' gi i)) b.rn ⟨0, by omega, hF, HP6, HN6, HL6, HI6⟩ ?_
  clear hF HP6 HN6 HL6 HI6
  rintro rj a w7 ⟨k, hkk, hF, HP, HN, HL, HI⟩ KE hKE
  by_cases hltk : k < b.rn
  rotate_left
  ·
   revert hF;refine zrs [5] [1, 3, 4, 5, 6, 18, 19, 20, 26, 27, 28, 34, 35, 36, 37] fun a hF => ?_;refine wp_seq_k (fun K hK => ?_)
   refine cond_no hF rfl ?_
   refine wp_exit ?_
   have hke : k = b.rows.length := by rw [HRL.out]; omega
   rw [hke, foldT_all] at HP
   exact hKC _ _ ⟨hF.sub ⟨rfl, rfl, rfl, rfl, rfl, rfl, rfl, rfl, rfl, rfl, trivial⟩, HP, HN, HL⟩
  revert hF;refine zrs [5] [1, 3, 4, 5, 6, 18, 19, 20, 26, 27, 28, 34, 35, 36, 37] fun a hF => ?_;refine wp_seq_k (fun K hK => ?_)
  refine cond_yes hF rfl ?_
  refine wp_skip ?_
  refine hK _ _ ?_;clear hK;replace hF := hF.kp [1, 3, 4, 5, 6, 18, 19, 20, 26, 27, 28, 34, 35, 36] rfl
  clear hKC
  have hkl : k < b.rows.length := by rw [HRL.out]; exact hltk
  have hki : (k : Int) < b.rn := by omega
  obtain ⟨bb, oo, hra, d0, d1, d2, d3, d4, d5, d6, d7⟩ := row_at (HBV.out.1.below HP.out.below) k hltk hkl
  refine seq_cut (fun a' w' => FrF 104 [] [(1, .pointer (some ⟨gh, 0, none⟩)), (3, .pointer (some ⟨g3, 0, none⟩)), (4, .pointer (some ⟨gn, 0, none⟩)), (5, .pointer (some ⟨gl, 0, none⟩)), (6, .pointer (some ⟨gi, 0, none⟩)), (18, .slice h.la h.ln h.lc), (19, .int .i64 h.ln), (20, .int .i64 n), (26, .slice l.ba l.bn l.bc), (27, .int .i64 l.bn), (28, .int .i64 i), (34, .slice b.ra b.rn b.rc), (35, .int .i64 b.rn), (36, .int .i64 k)] a' ∧ Hid (PlcL w0 h gh g3 w' (foldT (putRow h l n i) b.rows (k + 1) O1)) ∧ Hid (VarI w' gn n) ∧ Hid (LevIn w' gl l) ∧ Hid (VarI w' gi i)) (fun KH hKH => ?_) ?_
  rotate_left
  ·
   clear hF HP HN HL HI d0 d1 d2 d3 d4 d5 d6 d7 hra
   rintro a w' ⟨hF, HP, HN, HL, HI⟩
   have hws : IntKind.i64.wrap ((k : Int) + 1) = ((k + 1 : Nat) : Int) := wrap_succ (by omega)
   revert hF;refine zrg [4, 1] [1, 3, 4, 5, 6, 18, 19, 20, 26, 27, 28, 34, 35, 36] fun a hF => ?_
   exact hKE (b.rn - (k + 1)) _ _ (by omega) ⟨k + 1, by omega, hF, HP, HN, HL, HI⟩
  clear hKE hkk
  have HNX := Lib.hid (foldT_next (putRow h l n i) hkl O1)
  have HPW := Lib.hid (HRP.out k)
  rw [HNX.out] at hKH
  clear HNX
  have hrm : b.rows[k] ∈ b.rows := List.getElem_mem hkl
  have HRI := Lib.hid (HBV.out.2.2 _ hrm)
  obtain ⟨hrok, hrwh⟩ := HRB.out _ hrm
  have HROK := Lib.hid hrok
  have HRWH := Lib.hid hrwh
  clear hrm hrok hrwh
  generalize b.rows[k] = r at *
  generalize foldT (putRow h l n i) b.rows k O1 = O2 at *
  refine wp_block ?_
  refine wp_seq_k (fun K hK => ?_);revert hF;refine zrp [1, 5, 4] [3, 4, 5, 6] fun a hF => ?_;refine seq_one ?_;revert hF;refine qe0 fun a hF => ?_
  have hi0 : (w7.alloc (.cells #[.int .i64 0] 3)).heap[w7.heap.size]? = some (.cells #[.int .i64 0] 3 (0, 0)) := World.alloc_heap_new _ _
  have hb1 := Joins.below_alloc1 w7 (.cells #[.int .i64 0] 3)
  generalize w7.alloc (.cells #[.int .i64 0] 3) = wa at *
  obtain ⟨gk, hgv⟩ : ∃ g, g = w7.heap.size := ⟨_, rfl⟩
  have hgw : w7.heap.size ≤ gk := Nat.le_of_eq hgv.symm
  rw [← hgv] at hF hi0
  clear hgv
  refine seq_one ?_;revert hF;refine qe0 fun a hF => ?_
  have hs0 : (wa.alloc (.cells #[.string ⟨#[]⟩, .int .i64 0, .int .i64 0, .int .i64 0, .int .i64 0, .int .i64 0, .slice none 0 0, .int .i64 0] 49)).heap[wa.heap.size]? = some (.cells #[.string ⟨#[]⟩, .int .i64 0, .int .i64 0, .int .i64 0, .int .i64 0, .int .i64 0, .slice none 0 0, .int .i64 0] 49 (0, 0)) := World.alloc_heap_new _ _
  have hb2 := Joins.below_alloc1 wa (.cells #[.string ⟨#[]⟩, .int .i64 0, .int .i64 0, .int .i64 0, .int .i64 0, .int .i64 0, .slice none 0 0, .int .i64 0] 49)
  have hi1 := (hb2.block gk (lt_of_block hi0)).trans hi0
  have hb3 := hb1.trans (hb2.mono hb1.size)
  have hgs : w7.heap.size ≤ wa.heap.size := hb1.size
  generalize wa.alloc (.cells #[.string ⟨#[]⟩, .int .i64 0, .int .i64 0, .int .i64 0, .int .i64 0, .int .i64 0, .slice none 0 0, .int .i64 0] 49) = wb at *
  obtain ⟨gr, hgv⟩ : ∃ g, g = wa.heap.size := ⟨_, rfl⟩
  rw [← hgv] at hF hs0 hgs
  clear hgv hi0 hb1 hb2
  have ci := boxed_cell (j := 0) hi1 rfl
  have fi := free_var (o := 0) hi1
  refine seq_one ?_;revert hF;refine qu2 fun a hF => ?_
  clear ci fi
  have hi2 : (wb.setCell ⟨gk, 0, none⟩ (.int .i64 k)).heap[gk]? = some (.cells #[.int .i64 k] 3 (0, 0)) := set_var hi1
  have hs1 := set_keep (u := .int .i64 k) (o := 0) hi1 hs0 (by decide)
  have hb4 : Below w7.heap.size w7 (wb.setCell ⟨gk, 0, none⟩ (.int .i64 k)) := hb3.trans (below_set hgw)
  clear hi1 hs0 hb3
  generalize wb.setCell ⟨gk, 0, none⟩ (.int .i64 k) = wc at *
  have hSV := run_storeVar_row (P := Tryz.prog) wc gr 49 49 #[.string ⟨#[]⟩, .int .i64 0, .int .i64 0, .int .i64 0, .int .i64 0, .int .i64 0, .slice none 0 0, .int .i64 0] #[.string (bs r.name), .int .i64 r.x, .int .i64 r.y, .int .i64 r.fr, .int .i64 r.to, .int .i64 r.step, .slice r.ma r.mn r.mc, .int .i64 r.at'] hs1 (by kernel_rfl) rfl (by simp [Value.oneCell'])
  have hs2 := setRow_heap wc gr #[.string ⟨#[]⟩, .int .i64 0, .int .i64 0, .int .i64 0, .int .i64 0, .int .i64 0, .slice none 0 0, .int .i64 0] #[.string (bs r.name), .int .i64 r.x, .int .i64 r.y, .int .i64 r.fr, .int .i64 r.to, .int .i64 r.step, .slice r.ma r.mn r.mc, .int .i64 r.at'] 49 (0, 0) hs1
  have hb5 : Below w7.heap.size w7 (wc.setRow gr #[.string (bs r.name), .int .i64 r.x, .int .i64 r.y, .int .i64 r.fr, .int .i64 r.to, .int .i64 r.step, .slice r.ma r.mn r.mc, .int .i64 r.at']) := below_setRow hb4 hgs #[.string (bs r.name), .int .i64 r.x, .int .i64 r.y, .int .i64 r.fr, .int .i64 r.to, .int .i64 r.step, .slice r.ma r.mn r.mc, .int .i64 r.at']
  have hi3 : (wc.setRow gr #[.string (bs r.name), .int .i64 r.x, .int .i64 r.y, .int .i64 r.fr, .int .i64 r.to, .int .i64 r.step, .slice r.ma r.mn r.mc, .int .i64 r.at']).heap[gk]? = some (.cells #[.int .i64 k] 3 (0, 0)) := (setRow_other wc #[.string (bs r.name), .int .i64 r.x, .int .i64 r.y, .int .i64 r.fr, .int .i64 r.to, .int .i64 r.step, .slice r.ma r.mn r.mc, .int .i64 r.at'] (fun e => type_ne hi2 hs1 (by decide) e.symm)).trans hi2
  have HTW := Lib.hid (And.intro hb5 (And.intro hi3 hs2))
  clear hs1 hs2 hb4 hb5 hi2 hi3 hgs hgw
  refine seq_one ?_;refine op_storev rfl rfl hF rfl rfl rfl rfl hSV ?_;clear hF;refine fun a hF => ?_;refine seq_end ?_;replace hF := hF.kp [1, 3, 4, 5, 6, 8, 9, 18, 19, 20, 26, 27, 28, 34, 35, 36] rfl
  clear hSV
  refine hK _ _ ?_;clear hK
  generalize wc.setRow gr #[.string (bs r.name), .int .i64 r.x, .int .i64 r.y, .int .i64 r.fr, .int .i64 r.to, .int .i64 r.step, .slice r.ma r.mn r.mc, .int .i64 r.at'] = w8 at *
  have HP8 := Lib.hid (HP.out.down HTW.out.1)
  have HN8 : Hid (VarI w8 gn n) := (HTW.out.1.block gn (lt_of_block HN.out)).trans HN.out
  have HL8 := Lib.hid (HL.out.down HTW.out.1)
  have HI8 : Hid (VarI w8 gi i) := (HTW.out.1.block gi (lt_of_block HI.out)).trans HI.out
  have HK8 : Hid (VarI w8 gk k) := HTW.out.2.1
  have HR8 : Hid (RowIn w8 gr r) := HTW.out.2.2
  clear HP HN HL HI HTW d0 d1 d2 d3 d4 d5 d6 d7 hra
  have hmm := @run_makeMap Tryz.prog
  refine wp_seq_k (fun K hK => ?_);refine region_seq (l := [0, 1, 2]) (by kernel_rfl) ?_;refine seq_one ?_;revert hF;refine qe0 fun a hF => ?_
  clear hmm
  have HBa := Lib.hid (Joins.below_alloc1 w8 (.map #[] 0))
  have HM := Lib.hid (IMap.made w8)
  have HSM8 : Hid (w0.heap.size ≤ w8.heap.size) := HP8.out.below.size
  have HP9 := Lib.hid (HP8.out.down HBa.out)
  have HN9 : Hid (VarI (w8.alloc (.map #[] 0)) gn n) := (HBa.out.block gn (lt_of_block HN8.out)).trans HN8.out
  have HL9 := Lib.hid (HL8.out.down HBa.out)
  have HI9 : Hid (VarI (w8.alloc (.map #[] 0)) gi i) := (HBa.out.block gi (lt_of_block HI8.out)).trans HI8.out
  have HK9 : Hid (VarI (w8.alloc (.map #[] 0)) gk k) := (HBa.out.block gk (lt_of_block HK8.out)).trans HK8.out
  have HR9 := Lib.hid (HR8.out.down HBa.out)
  clear HP8 HN8 HL8 HI8 HK8 HR8 HBa
  generalize w8.alloc (.map #[] 0) = w9 at *
  obtain ⟨M, hM⟩ : ∃ M, M = w8.heap.size := ⟨_, rfl⟩
  rw [← hM] at hF HM HSM8
  clear hM
  refine seq_one ?_;revert hF;refine qe0 fun a hF => ?_;refine seq_one ?_;revert hF;refine qu2 fun a hF => ?_;refine seq_end ?_;replace hF := hF.kp [1, 3, 4, 5, 6, 8, 9, 10, 18, 19, 20, 26, 27, 28, 34, 35, 36] rfl;refine hK _ _ ?_;clear hK
  have HBa := Lib.hid (Joins.below_alloc1 w9 (.cells #[.map (some M)] 104))
  have HMV : Hid ((w9.alloc (.cells #[.map (some M)] 104)).heap[w9.heap.size]? = some (.cells #[.map (some M)] 104 (0, 0))) := World.alloc_heap_new w9 _
  have HP1 : Hid (Plc1 w0 h r n i k gn gi gk gr gh g3 w9.heap.size M (w9.alloc (.cells #[.map (some M)] 104)) O2 0 (fun _ => 0)) := by
   have hp := HP9.out.down HBa.out
   exact ⟨hp.below, (HBa.out.block gn (lt_of_block HN9.out)).trans HN9.out, (HBa.out.block gi (lt_of_block HI9.out)).trans HI9.out, (HBa.out.block gk (lt_of_block HK9.out)).trans HK9.out, HR9.out.down HBa.out, hp.hall, hp.out, HSM8.out, HMV.out, HM.out.down HBa.out⟩
  have HL10 := Lib.hid (HL9.out.down HBa.out)
  clear HP9 HN9 HL9 HI9 HK9 HR9 HBa HMV HM HSM8
  generalize w9.alloc (.cells #[.map (some M)] 104) = w10 at *
  obtain ⟨gm, hgm⟩ : ∃ gm, gm = w9.heap.size := ⟨_, rfl⟩
  rw [← hgm] at hF HP1
  clear hgm
  obtain ⟨q0, q1, q2, q3, q4, q5, q6, q7⟩ := HP1.out.row.cells
  have HOL : Hid (O2.length ≤ 4000) := Nat.le_trans HPW.out.length_le HOK.out.few
  refine wp_seq_k (fun K hK => ?_);revert hF;refine zrp [4, 7] [2] fun a hF => ?_;revert hF;refine zos fun K hK => ?_
  refine (first_any w0 h l r n i k gn gi gk gr gh g3 gm M w10 O2 HP1.out HH.out HLN.out (by omega) HRI.out HROK.out (by have := HOL.out; omega)).mono ?_
  rintro e w11 ⟨rfl, hp11, hk11⟩
  have HP11 := Lib.hid hp11
  have HL11 : Hid (LevIn w11 gl l) := by
   obtain ⟨es, c, hM⟩ := HP1.out.map.blk
   obtain ⟨v, hv, _⟩ := HP1.out.out.row
   exact PlT.keep hk11 hM hv HL10.out (by decide) (by decide)
  clear q0 q1 q2 q3 q4 q5 q6 q7 HP1 HL10 hp11 hk11
  refine hK _ _ (fun a hF => ?_);clear hK K;refine seq_end ?_;replace hF := hF.kp [1, 3, 4, 5, 6, 9, 10, 18, 19, 20, 26, 27, 28, 34, 35, 36] rfl;refine hK _ _ ?_;clear hK
  obtain ⟨q0, q1, q2, q3, q4, q5, q6, q7⟩ := HP11.out.row.cells
  revert hF;refine zrp [4, 6] [2] fun a hF => ?_;revert hF;refine zos fun K hK => ?_
  refine (second_any w0 h l r n i k gn gi gk gr gh g3 gm M w11 O2 _ HP11.out HRI.out HROK.out HRWH.out).mono ?_
  rintro e w12 ⟨rfl, hp12, hk12⟩
  have HP12 := Lib.hid hp12
  have HL12 : Hid (LevIn w12 gl l) := by
   obtain ⟨es, c, hM⟩ := HP11.out.map.blk
   obtain ⟨v, hv, _⟩ := HP11.out.out.row
   exact PlT.keep hk12 hM hv HL11.out (by decide) (by decide)
  clear q0 q1 q2 q3 q4 q5 q6 q7 HP11 HL11 hp12 hk12
  refine hK _ _ (fun a hF => ?_);clear hK K;refine seq_end ?_;replace hF := hF.kp [1, 3, 4, 5, 6, 18, 19, 20, 26, 27, 28, 34, 35, 36] rfl
  exact hKH _ _ ⟨hF, PlcL.of HP12.out, HP12.out.cn, HL12, HP12.out.ci⟩
 clear hF HP4 HN4 HL4 HBP HRO
 rintro a w5 ⟨hF, HP, HN, HL⟩
 rw [show putLevel h O (l, n) = foldT (putArea h l n) l.areas l.areas.length (l.blocks.zipIdx.foldl (putBlk h l n) O) from by rw [foldT_all]; rfl] at hKC HPR
 have HAP : Hid (∀ j, foldT (putArea h l n) l.areas j (l.blocks.zipIdx.foldl (putBlk h l n) O) <+: placesS h) := fun j => by
  have h1 := foldT_pre _ (putArea_pre h l n) l.areas j (l.blocks.zipIdx.foldl (putBlk h l n) O)
  rw [← foldT_all (putArea h l n)] at h1
  exact h1.trans HPR.out
 clear HPR
 generalize l.blocks.zipIdx.foldl (putBlk h l n) O = O2 at *
 obtain ⟨d0, d1, d2, d3, d4, d5, d6, d7⟩ := HL.out.cells
 revert hF;refine zrs [4, 4, 4, 1] [1, 3, 4, 5, 18, 19, 20, 51, 52, 53] fun a hF => ?_
 clear d0 d1 d2 d3 d4 d5 d6 d7
 refine wp_block ?_
 refine loop_fr (fun m a' w' => ∃ j : Nat, j + m = l.an ∧ FrF 104 [] [(1, .pointer (some ⟨gh, 0, none⟩)), (3, .pointer (some ⟨g3, 0, none⟩)), (4, .pointer (some ⟨gn, 0, none⟩)), (5, .pointer (some ⟨gl, 0, none⟩)), (18, .slice h.la h.ln h.lc), (19, .int .i64 h.ln), (20, .int .i64 n), (51, .slice l.aa l.an l.ac), (52, .int .i64 l.an), (53, .int .i64 j)] a' ∧ Hid (PlcL w0 h gh g3 w' (foldT (putArea h l n) l.areas j O2)) ∧ Hid (VarI w' gn n) ∧ Hid (LevIn w' gl l)) l.an ⟨0, by omega, hF, HP, HN, HL⟩ ?_
 clear hF HP HN HL
 rintro rj a w6 ⟨j, hjk, hF, HP, HN, HL⟩ KB hKB
 by_cases hltj : j < l.an
 rotate_left
 ·
  revert hF;refine zrs [5] [1, 3, 4, 5, 18, 19, 20, 51, 52, 53, 54] fun a hF => ?_;refine wp_seq_k (fun K hK => ?_)
  refine cond_no hF rfl ?_
  refine wp_exit ?_
  have hje : j = l.areas.length := by rw [HAL.out]; omega
  rw [hje] at HP
  exact hKC _ _ ⟨hF.sub ⟨rfl, rfl, rfl, rfl, rfl, trivial⟩, HP⟩
 revert hF;refine zrs [5] [1, 3, 4, 5, 18, 19, 20, 51, 52, 53, 54] fun a hF => ?_;refine wp_seq_k (fun K hK => ?_)
 refine cond_yes hF rfl ?_
 refine wp_skip ?_
 refine hK _ _ ?_;clear hK;replace hF := hF.kp [1, 3, 4, 5, 18, 19, 20, 51, 52, 53] rfl
 clear hKC
 have hjl : j < l.areas.length := by rw [HAL.out]; exact hltj
 have hji : (j : Int) < l.an := by omega
 obtain ⟨bb, oo, haa, d0, d1, d2, d3, d4, d5, d6⟩ := area_at (HLV.out.areas.below HP.out.below) j hltj hjl
 refine seq_cut (fun a' w' => FrF 104 [] [(1, .pointer (some ⟨gh, 0, none⟩)), (3, .pointer (some ⟨g3, 0, none⟩)), (4, .pointer (some ⟨gn, 0, none⟩)), (5, .pointer (some ⟨gl, 0, none⟩)), (18, .slice h.la h.ln h.lc), (19, .int .i64 h.ln), (20, .int .i64 n), (51, .slice l.aa l.an l.ac), (52, .int .i64 l.an), (53, .int .i64 j)] a' ∧ Hid (PlcL w0 h gh g3 w' (foldT (putArea h l n) l.areas (j + 1) O2)) ∧ Hid (VarI w' gn n) ∧ Hid (LevIn w' gl l)) (fun KC hKC => ?_) ?_
 rotate_left
 ·
  clear hF HP HN HL d0 d1 d2 d3 d4 d5 d6 haa
  rintro a w' ⟨hF, HP, HN, HL⟩
  have hws : IntKind.i64.wrap ((j : Int) + 1) = ((j + 1 : Nat) : Int) := wrap_succ (by omega)
  revert hF;refine zrg [4, 1] [1, 3, 4, 5, 18, 19, 20, 51, 52, 53] fun a hF => ?_
  exact hKB (l.an - (j + 1)) _ _ (by omega) ⟨j + 1, by omega, hF, HP, HN, HL⟩
 clear hKB hjk
 have HNX := Lib.hid (foldT_next (putArea h l n) hjl O2)
 have HPA := Lib.hid (HAP.out (j + 1))
 rw [HNX.out] at hKC HPA
 clear HNX
 have HARO := Lib.hid (HAO.out _ (List.getElem_mem hjl))
 generalize l.areas[j] = ar at *
 generalize foldT (putArea h l n) l.areas j O2 = O3 at *
 unfold putArea at hKC HPA
 dsimp only at hKC HPA
 refine wp_block ?_
 refine wp_seq_k (fun K hK => ?_);revert hF;refine zrp [1, 5, 4] [3, 4, 5] fun a hF => ?_;refine seq_one ?_;revert hF;refine qe0 fun a hF => ?_;revert hF;refine zrc 4 [2] [5] fun a hF => ?_;refine seq_one ?_;revert hF;refine qu2 fun a hF => ?_;refine seq_end ?_;replace hF := hF.kp [1, 3, 4, 5, 11, 12, 18, 19, 20, 51, 52, 53] rfl;refine hK _ _ ?_;clear hK
 have HX : Hid (AreaIn (w6.alloc (.cells #[.string (bs ar.name), .int .i64 ar.box.x, .int .i64 ar.box.y, .int .i64 ar.box.x2, .int .i64 ar.box.y2, .int .i64 ar.holds, .int .i64 ar.at'] 61)) w6.heap.size ar) := World.alloc_heap_new w6 _
 have HBa := Lib.hid (Joins.below_alloc1 w6 (.cells #[.string (bs ar.name), .int .i64 ar.box.x, .int .i64 ar.box.y, .int .i64 ar.box.x2, .int .i64 ar.box.y2, .int .i64 ar.holds, .int .i64 ar.at'] 61))
 have HP7 := Lib.hid (HP.out.down HBa.out)
 have HN7 : Hid (VarI (w6.alloc (.cells #[.string (bs ar.name), .int .i64 ar.box.x, .int .i64 ar.box.y, .int .i64 ar.box.x2, .int .i64 ar.box.y2, .int .i64 ar.holds, .int .i64 ar.at'] 61)) gn n) := (HBa.out.block gn (lt_of_block HN.out)).trans HN.out
 have HL7 := Lib.hid (HL.out.down HBa.out)
 clear HP HN HL HBa d0 d1 d2 d3 d4 d5 d6 haa
 generalize w6.alloc (.cells #[.string (bs ar.name), .int .i64 ar.box.x, .int .i64 ar.box.y, .int .i64 ar.box.x2, .int .i64 ar.box.y2, .int .i64 ar.holds, .int .i64 ar.at'] 61) = w7 at *
 obtain ⟨ga, hga⟩ : ∃ ga, ga = w6.heap.size := ⟨_, rfl⟩
 rw [← hga] at hF HX
 clear hga
 obtain ⟨a1, a2, a3, a4, a5, a6, a7, a8, a9, a10⟩ := HARO.out
 have x1 : w7.drew.cell? ⟨ga, 1, none⟩ = some (.int .i64 ar.box.x) := HX.out.cells.2.1
 have x2 : w7.drew.cell? ⟨ga, 2, none⟩ = some (.int .i64 ar.box.y) := HX.out.cells.2.2.1
 have x3 : w7.drew.cell? ⟨ga, 3, none⟩ = some (.int .i64 ar.box.x2) := HX.out.cells.2.2.2.1
 have x4 : w7.drew.cell? ⟨ga, 4, none⟩ = some (.int .i64 ar.box.y2) := HX.out.cells.2.2.2.2.1
 have hw1 : IntKind.i64.wrap (ar.box.x + ar.box.x2) = ar.box.x + ar.box.x2 := wrap_in (by omega) (by omega)
 have hw2 : IntKind.i64.wrap (ar.box.y + ar.box.y2) = ar.box.y + ar.box.y2 := wrap_in (by omega) (by omega)
 obtain ⟨cx, hcx⟩ : ∃ c, Int.tdiv (ar.box.x + ar.box.x2) 2 = c := ⟨_, rfl⟩
 obtain ⟨cy, hcy⟩ : ∃ c, Int.tdiv (ar.box.y + ar.box.y2) 2 = c := ⟨_, rfl⟩
 have hcx1 : 0 ≤ cx ∧ cx ≤ 10000 := by
  rw [← hcx, Int.tdiv_eq_ediv_of_nonneg (by omega)]
  omega
 have hcy1 : 0 ≤ cy ∧ cy ≤ 10000 := by
  rw [← hcy, Int.tdiv_eq_ediv_of_nonneg (by omega)]
  omega
 have hw3 : IntKind.i64.wrap cx = cx := wrap_in (by omega) (by omega)
 have hw4 : IntKind.i64.wrap cy = cy := wrap_in (by omega) (by omega)
 clear a1 a2 a3 a4 a5 a6 a7 a8
 refine wp_seq_k (fun K hK => ?_);refine region_any (by kernel_rfl) ?_;revert hF;refine zrb (fuel := 0) [9, 41, 84, 105, 137, 180, 202, 233, 265, 297, 340, 361, 393, 436, 458, 489, 514, 546] [1, 3, 4, 5, 11, 12, 13, 14, 18, 19, 20, 51, 52, 53] fun a hF => ?_;refine hK _ _ ?_;clear hK
 clear x1 x2 x3 x4 hw1 hw2 hw3 hw4
 have HP8 : Hid (PlcL w0 h gh g3 w7.drew O3) := HP7.out.down (below_d (Below.refl _ _))
 have HN8 : Hid (VarI w7.drew gn n) := HN7.out
 have HL8 : Hid (LevIn w7.drew gl l) := HL7.out
 have HX8 : Hid (AreaIn w7.drew ga ar) := HX.out
 clear HP7 HN7 HL7 HX
 generalize w7.drew = w8 at *
 obtain ⟨vw, hvw⟩ : ∃ v, viewS h.stage l ⟨cx, cy⟩ = v := ⟨_, rfl⟩
 have HAE : Hid (areaPlaces h l n j ar = (List.range ar.holds.toNat).map fun (s : Nat) => (⟨3, n, (l.blocks.length + j : Nat), -1, (s : Int) + 1, cx, cy, vw, -1⟩ : PlaceR)) := by
  show _ = _
  unfold areaPlaces
  rw [hcx, hcy]
  dsimp only
  rw [hvw]
 obtain ⟨bj, hbj0⟩ : ∃ m, l.blocks.length + j = m := ⟨_, rfl⟩
 rw [hbj0] at HAE
 have HBJ := Lib.hid hbj0
 clear hbj0
 have HVA := Lib.hid (view_any w8 h n ⟨cx, cy⟩ (HH.out.below HP8.out.below) l HLN.out (by omega))
 rw [hvw] at HVA
 clear hvw hcx hcy
 obtain ⟨q0, q1, q2, q3⟩ := HP8.out.hall.cells
 have cn : w8.cell? ⟨gn, 0, none⟩ = some (.int .i64 n) := boxed_cell (j := 0) HN8.out rfl
 refine wp_seq_k (fun K hK => ?_);revert hF;refine zrp [4, 4, 1, 1, 5] [5, 6] fun a hF => ?_;revert hF;refine zos fun K hK => ?_
 refine HVA.out.mono ?_
 rintro e w9 ⟨rfl, hb9⟩
 have HP9 := Lib.hid (HP8.out.down hb9)
 have HN9 : Hid (VarI w9 gn n) := (hb9.block gn (lt_of_block HN8.out)).trans HN8.out
 have HL9 := Lib.hid (HL8.out.down hb9)
 have HX9 := Lib.hid (HX8.out.down hb9)
 clear q0 q1 q2 q3 cn HVA HP8 HN8 HL8 HX8 hb9
 refine hK _ _ (fun a hF => ?_);clear hK K;revert hF;refine zre 6 [2] [1, 3, 4, 5, 11, 12, 13, 14, 15, 18, 19, 20, 51, 52, 53] fun a hF => ?_;refine hK _ _ ?_;clear hK
 have c5 := HX9.out.cells.2.2.2.2.2.1
 revert hF;refine zrs [4, 4, 1] [1, 3, 4, 5, 11, 13, 14, 15, 18, 19, 20, 51, 52, 53, 81, 82] fun a hF => ?_
 clear c5 HX9
 have hhn : (ar.holds.toNat : Int) = ar.holds := Int.toNat_of_nonneg a9
 have HHN := Lib.hid hhn
 have HTK : Hid ((areaPlaces h l n j ar).length = ar.holds.toNat) := areaPlaces_len h l n j ar
 refine wp_block ?_
 refine loop_fr (fun m a' w' => ∃ s : Nat, s + m = ar.holds.toNat ∧ FrF 104 [] [(1, .pointer (some ⟨gh, 0, none⟩)), (3, .pointer (some ⟨g3, 0, none⟩)), (4, .pointer (some ⟨gn, 0, none⟩)), (5, .pointer (some ⟨gl, 0, none⟩)), (11, .int .i64 j), (13, .int .i64 cx), (14, .int .i64 cy), (15, .int .i64 vw), (18, .slice h.la h.ln h.lc), (19, .int .i64 h.ln), (20, .int .i64 n), (51, .slice l.aa l.an l.ac), (52, .int .i64 l.an), (53, .int .i64 j), (81, .int .i64 ar.holds), (82, .int .i64 s)] a' ∧ Hid (PlcL w0 h gh g3 w' (O3 ++ (areaPlaces h l n j ar).take s)) ∧ Hid (VarI w' gn n) ∧ Hid (LevIn w' gl l)) ar.holds.toNat ⟨0, by omega, hF, by rw [List.take_zero, List.append_nil]; exact HP9, HN9, HL9⟩ ?_
 clear hF HP9 HN9 HL9
 rintro rs a w10 ⟨s, hsk, hF, HP, HN, HL⟩ KE hKE
 by_cases hlts : s < ar.holds.toNat
 rotate_left
 ·
  have hsn : ¬ (s : Int) < ar.holds := by omega
  clear hhn
  revert hF;refine zrs [5] [1, 3, 4, 5, 11, 13, 14, 15, 18, 19, 20, 51, 52, 53, 81, 82, 83] fun a hF => ?_;refine wp_seq_k (fun K hK => ?_)
  refine cond_no hF rfl ?_
  refine wp_exit ?_
  rw [List.take_of_length_le (by rw [HTK.out]; omega)] at HP
  exact hKC _ _ ⟨hF.sub ⟨rfl, rfl, rfl, rfl, rfl, rfl, rfl, rfl, rfl, rfl, trivial⟩, HP, HN, HL⟩
 have hsi : (s : Int) < ar.holds := by omega
 have hs4 : s ≤ 4000 := by omega
 clear hhn
 revert hF;refine zrs [5] [1, 3, 4, 5, 11, 13, 14, 15, 18, 19, 20, 51, 52, 53, 81, 82, 83] fun a hF => ?_;refine wp_seq_k (fun K hK => ?_)
 refine cond_yes hF rfl ?_
 refine wp_skip ?_
 refine hK _ _ ?_;clear hK;replace hF := hF.kp [1, 3, 4, 5, 11, 13, 14, 15, 18, 19, 20, 51, 52, 53, 81, 82] rfl
 clear hKC
 refine seq_cut (fun a' w' => FrF 104 [] [(1, .pointer (some ⟨gh, 0, none⟩)), (3, .pointer (some ⟨g3, 0, none⟩)), (4, .pointer (some ⟨gn, 0, none⟩)), (5, .pointer (some ⟨gl, 0, none⟩)), (11, .int .i64 j), (13, .int .i64 cx), (14, .int .i64 cy), (15, .int .i64 vw), (18, .slice h.la h.ln h.lc), (19, .int .i64 h.ln), (20, .int .i64 n), (51, .slice l.aa l.an l.ac), (52, .int .i64 l.an), (53, .int .i64 j), (81, .int .i64 ar.holds), (82, .int .i64 s)] a' ∧ Hid (PlcL w0 h gh g3 w' (O3 ++ (areaPlaces h l n j ar).take (s + 1))) ∧ Hid (VarI w' gn n) ∧ Hid (LevIn w' gl l)) (fun KF hKF => ?_) ?_
 rotate_left
 ·
  clear hF HP HN HL
  rintro a w' ⟨hF, HP, HN, HL⟩
  have hws : IntKind.i64.wrap ((s : Int) + 1) = ((s + 1 : Nat) : Int) := wrap_succ (by omega)
  revert hF;refine zrg [4, 1] [1, 3, 4, 5, 11, 13, 14, 15, 18, 19, 20, 51, 52, 53, 81, 82] fun a hF => ?_
  exact hKE (ar.holds.toNat - (s + 1)) _ _ (by omega) ⟨s + 1, by omega, hF, HP, HN, HL⟩
 clear hKE hsk
 have HTS : Hid ((areaPlaces h l n j ar).take (s + 1) = (areaPlaces h l n j ar).take s ++ [(⟨3, n, (bj : Nat), -1, (s : Int) + 1, cx, cy, vw, -1⟩ : PlaceR)]) := by
  have h1 : s < (areaPlaces h l n j ar).length := by rw [HTK.out]; exact hlts
  show _ = _
  rw [List.take_succ_eq_append_getElem h1]
  congr 1
  simp only [HAE.out, List.getElem_map, List.getElem_range]
 have HOL : Hid ((O3 ++ (areaPlaces h l n j ar).take s).length ≤ 4000) := by
  have h1 := Nat.le_trans HPA.out.length_le HOK.out.few
  rw [List.length_append] at h1
  show _ ≤ _
  rw [List.length_append, List.length_take]
  omega
 rw [HTS.out, ← List.append_assoc] at hKF
 clear HTS
 generalize O3 ++ (areaPlaces h l n j ar).take s = OO at *
 have hbj : IntKind.i64.wrap ((l.bn : Int) + (j : Int)) = ((bj : Nat) : Int) := by
  have := HBL.out
  have := HBJ.out
  rw [wrap_in (by omega) (by omega)]
  omega
 have hs1 : IntKind.i64.wrap ((s : Int) + 1) = (s : Int) + 1 := wrap_in (by omega) (by omega)
 refine wp_block ?_
 revert hF;refine zrs [1, 2] [1, 3, 4, 5, 11, 13, 14, 15, 16, 18, 19, 20, 51, 52, 53, 81, 82] fun a hF => ?_
 obtain ⟨ov, hov, horow⟩ := HP.out.out.row
 obtain ⟨la, lc, rfl, _⟩ := OwnRecs.of_row horow
 have HOV := Lib.hid hov
 have HROW := Lib.hid horow
 have co : w10.cell? ⟨g3, 0, none⟩ = some (.slice la OO.length lc) := boxed_cell (j := 0) hov rfl
 have cn : w10.cell? ⟨gn, 0, none⟩ = some (.int .i64 n) := boxed_cell (j := 0) HN.out rfl
 obtain ⟨_, _, d2, _, _, _, _, _⟩ := HL.out.cells
 clear hov horow
 revert hF;refine zrp [4, 4, 4, 4, 4, 1, 5, 1, 4, 1, 1, 1, 7] [13, 14, 15] fun a hF => ?_;refine seq_one ?_;revert hF;refine qe1 fun a hF => ?_
 have HNR := Lib.hid (recs_alloc PlaceE w10 52 [(⟨3, n, (bj : Nat), -1, (s : Int) + 1, cx, cy, vw, -1⟩ : PlaceR)] #[.int .i64 3, .int .i64 n, .int .i64 (bj : Nat), .int .i64 (-1), .int .i64 ((s : Int) + 1), .int .i64 cx, .int .i64 cy, .int .i64 vw, .int .i64 (-1)] rfl)
 have HBa := Lib.hid (Joins.below_alloc1 w10 (.cells #[.int .i64 3, .int .i64 n, .int .i64 (bj : Nat), .int .i64 (-1), .int .i64 ((s : Int) + 1), .int .i64 cx, .int .i64 cy, .int .i64 vw, .int .i64 (-1)] 52))
 have HP11 := Lib.hid (HP.out.down HBa.out)
 have HN11 : Hid (VarI (w10.alloc (.cells #[.int .i64 3, .int .i64 n, .int .i64 (bj : Nat), .int .i64 (-1), .int .i64 ((s : Int) + 1), .int .i64 cx, .int .i64 cy, .int .i64 vw, .int .i64 (-1)] 52)) gn n) := (HBa.out.block gn (lt_of_block HN.out)).trans HN.out
 have HL11 := Lib.hid (HL.out.down HBa.out)
 have HOV11 := Lib.hid ((HBa.out.block g3 (lt_of_block HOV.out)).trans HOV.out)
 have HROW11 := Lib.hid (row_of_heap HROW.out fun b hb => HBa.out.block b (HROW.out.lt b hb).2)
 clear co cn d2 hbj hs1 HP HN HL HOV HROW HBa
 generalize w10.alloc (.cells #[.int .i64 3, .int .i64 n, .int .i64 (bj : Nat), .int .i64 (-1), .int .i64 ((s : Int) + 1), .int .i64 cx, .int .i64 cy, .int .i64 vw, .int .i64 (-1)] 52) = w11 at *
 obtain ⟨v', w12, hAPP, ho, hg, _⟩ := append_recs (E := PlaceE) 35 52 35 Tryz.underlying35 info_place rfl (by decide) HROW11.out (u := .slice (some ⟨w10.heap.size, 0, none⟩) 1 1) ⟨_, _, rfl, HNR.out, fun h => by cases h⟩ (by have := HOL.out; simp; omega) HP11.out.below.size
 obtain ⟨la4, lc4, rfl, _⟩ := OwnRecs.of_row ho
 have hkeep : ∀ {b : Nat} {A : Array Value} {T : TypeId} {x : Nat × Nat}, w11.heap[b]? = some (.cells A T x) → T ≠ 52 → w12.heap[b]? = some (.cells A T x) := fun hb hT => (hg.block _ (lt_of_block hb) (fun e => by
  obtain ⟨cur, hh⟩ := own_type HROW11.out e.symm
  exact type_ne hb hh hT rfl)).trans hb
 have hR5 := hkeep HOV11.out (by decide)
 have c6 : w12.cell? ⟨g3, 0, none⟩ = some (.slice la OO.length lc) := boxed_cell (j := 0) hR5 rfl
 have f6 := free_var (o := 0) hR5
 have hb5 : Below w0.heap.size w0 w12 := HP11.out.below.grown hg HP11.out.below.size (fun k hk => (HROW11.out.lt k hk).1)
 have hOUT : OutAt w0 (w12.setCell ⟨g3, 0, none⟩ (.slice la4 (OO.length + [(⟨3, n, (bj : Nat), -1, (s : Int) + 1, cx, cy, vw, -1⟩ : PlaceR)].length) lc4)) g3 (OO ++ [(⟨3, n, (bj : Nat), -1, (s : Int) + 1, cx, cy, vw, -1⟩ : PlaceR)]) := ⟨HP11.out.out.base, _, set_var hR5, by
  rw [List.length_append]
  refine row_of_heap ho fun b hb => ?_
  obtain ⟨cur, hh⟩ := own_type ho hb
  rw [set_keep hR5 hh (by decide), hh]⟩
 have HFIN : Hid (PlcL w0 h gh g3 (w12.setCell ⟨g3, 0, none⟩ (.slice la4 (OO.length + [(⟨3, n, (bj : Nat), -1, (s : Int) + 1, cx, cy, vw, -1⟩ : PlaceR)].length) lc4)) (OO ++ [(⟨3, n, (bj : Nat), -1, (s : Int) + 1, cx, cy, vw, -1⟩ : PlaceR)])) := ⟨hb5.trans (below_set HP11.out.out.base), set_keep hR5 (hkeep HP11.out.hall (by decide)) (by decide), hOUT⟩
 have HNF : Hid (VarI (w12.setCell ⟨g3, 0, none⟩ (.slice la4 (OO.length + [(⟨3, n, (bj : Nat), -1, (s : Int) + 1, cx, cy, vw, -1⟩ : PlaceR)].length) lc4)) gn n) := set_keep hR5 (hkeep HN11.out (by decide)) (by decide)
 have HLF : Hid (LevIn (w12.setCell ⟨g3, 0, none⟩ (.slice la4 (OO.length + [(⟨3, n, (bj : Nat), -1, (s : Int) + 1, cx, cy, vw, -1⟩ : PlaceR)].length) lc4)) gl l) := set_keep hR5 (hkeep HL11.out (by decide)) (by decide)
 clear ho hg hkeep hR5 hb5 hOUT HP11 HN11 HL11 HOV11 HROW11 HNR
 refine seq_one ?_;refine op_append rfl rfl rfl rfl rfl hF rfl rfl rfl hAPP (fun a hF => ?_);clear hAPP;refine seq_one ?_;revert hF;refine qu2 fun a hF => ?_
 clear c6 f6
 refine seq_end ?_;replace hF := hF.kp [1, 3, 4, 5, 11, 13, 14, 15, 18, 19, 20, 51, 52, 53, 81, 82] rfl
 exact hKF _ _ ⟨hF, HFIN, HNF, HLF⟩
end Go.Proofs.YtmcdhggnpfhlmaaGreat
