/- sight: the reference: View. -/
import Derived.Test.YtmcdhggnpfhlmaaGreatQHMR15
import Derived.Test.YtmcdhggnpfhlmaaGreatQHMR39

set_option linter.unusedVariables false
set_option linter.unusedSimpArgs false
namespace Go.Proofs.YtmcdhggnpfhlmaaGreat
open Go.RowKit Go.IntWalk
set_option linter.unusedSimpArgs false
set_option linter.unusedVariables false

set_option maxRecDepth 100000 in
set_option maxHeartbeats 16000000 in
theorem rview_any (w : World) (h : HallR) (n : Nat) (p : PntR) (hh : h.In w) (l : LevR) (hn : h.levels[n]? = some l) (hpn : l.pn ≤ 100000) :
  Calls Tryz.prog 26 #[.agg #[.string (bs h.name), .int .i64 h.stage.x, .int .i64 h.stage.y, .slice h.la h.ln h.lc], .int .i64 n, .agg #[.int .i64 p.x, .int .i64 p.y]] w fun e w' => e = .returned (.int .i64 (viewS h.stage l p)) ∧ Below w.heap.size w w' := by
 obtain ⟨hnl, hle⟩ := List.getElem?_eq_some_iff.1 hn
 have hll : h.levels.length = h.ln := hh.levels.1
 have hnn : n < h.ln := by omega
 have hni : (n : Int) < h.ln := by omega
 have hn1 : ¬ (n : Int) < 0 := by omega
 have hn2 : ¬ (h.ln : Int) ≤ n := by omega
 have HLI := Lib.hid (hh.lev l (by rw [← hle]; exact List.getElem_mem hnl))
 have HRL := Lib.hid hh.levels
 have HLE := Lib.hid hle
 clear hn hh hll hle
 refine enter_fr (N := 101) [.agg #[.string (bs h.name), .int .i64 h.stage.x, .int .i64 h.stage.y, .slice h.la h.ln h.lc], .int .i64 n, .agg #[.int .i64 p.x, .int .i64 p.y]] (Tryz.func26) rfl Tryz.ntmps26 (by rfl) (fun a hF => ?_);replace hF := hF.kp [0, 1, 2] rfl;refine wp_seq_k (fun K hK => ?_);refine region_seq (l := [0, 1, 2]) (by kernel_rfl) ?_;refine seq_one ?_;revert hF;refine qe1 fun a hF => ?_;refine seq_one ?_;revert hF;refine qe1 fun a hF => ?_
 have HB1 := Lib.hid (Joins.below_alloc1 w (.cells #[.string (bs h.name), .int .i64 h.stage.x, .int .i64 h.stage.y, .slice h.la h.ln h.lc] 26))
 have HX1 : Hid (HallIn (w.alloc (.cells #[.string (bs h.name), .int .i64 h.stage.x, .int .i64 h.stage.y, .slice h.la h.ln h.lc] 26)) w.heap.size h) := World.alloc_heap_new w _
 have hs1 : (w.alloc (.cells #[.string (bs h.name), .int .i64 h.stage.x, .int .i64 h.stage.y, .slice h.la h.ln h.lc] 26)).heap.size = w.heap.size + 1 := by simp only [World.alloc, Array.size_push]
 generalize w.alloc (.cells #[.string (bs h.name), .int .i64 h.stage.x, .int .i64 h.stage.y, .slice h.la h.ln h.lc] 26) = w1 at *
 revert hF;refine zre 2 [2] [1, 3, 5] fun a hF => ?_
 have HB2 := Lib.hid (Joins.below_alloc1 w1 (.cells #[.int .i64 p.x, .int .i64 p.y] 23))
 have HX2 : Hid (PntIn (w1.alloc (.cells #[.int .i64 p.x, .int .i64 p.y] 23)) w1.heap.size p) := World.alloc_heap_new w1 _
 rw [hs1] at HX2
 generalize w1.alloc (.cells #[.int .i64 p.x, .int .i64 p.y] 23) = w2 at *
 refine hK _ _ ?_;clear hK
 have HBB : Hid (Below w.heap.size w w2) := HB1.out.trans (HB2.out.mono HB1.out.size)
 have HH := Lib.hid (HX1.out.down HB2.out)
 have HP := HX2
 clear HX1 HX2 HB1 HB2 hs1
 obtain ⟨gh, hgh⟩ : ∃ g, g = w.heap.size := ⟨_, rfl⟩
 obtain ⟨gp, hgp⟩ : ∃ g, g = w.heap.size + 1 := ⟨_, rfl⟩
 rw [← hgp, ← hgh] at hF
 rw [← hgh] at HH
 rw [← hgp] at HP
 clear hgh hgp
 obtain ⟨_, c1, c2, c3⟩ := HH.out.cells
 obtain ⟨e0, e1⟩ := HP.out.cells
 obtain ⟨bb, oo, hla, d0, d1, d2, d3, d4, d5, d6, d7⟩ := lev_at (HRL.out.below HBB.out) n hnn hnl
 rw [HLE.out] at d0 d1 d2 d3 d4 d5 d6 d7
 rw [hla] at c3
 clear hla
 refine wp_seq_k (fun K hK => ?_);refine wp_seq_k (fun K hK => ?_);refine region_any (by kernel_rfl) ?_;revert hF;refine zra (fuel := 4) [1, 41, 65, 97, 137, 180, 201, 234, 266, 289, 329, 372, 393, 436, 457, 489, 532, 553, 585, 628, 649, 692, 705, 746, 777, 820] [26, 27] fun a hF => ?_;refine any_one (n := 26) (fuel := 3) (by kernel_rfl) ?_;refine op_eff (v := ?_) (w' := ?_) rfl rfl rfl hF rfl ?_ ?_
 rotate_left 2
 ·
  intro a hF
  have s24 := hF.slot 24 _ rfl
  have s26 := hF.slot 26 _ rfl
  have s29 := hF.slot 29 _ rfl
  have s32 := hF.slot 32 _ rfl
  have s38 := hF.slot 38 _ rfl
  clear hF
  go_simp <;> first | with_reducible rfl | (constructor <;> with_reducible rfl)
 clear hF;refine fun a hF => ?_
 have HBa : Hid (Below w2.heap.size w2 (w2.alloc (.cells #[.int .i64 p.x, .int .i64 p.y, .int .i64 h.stage.x, .int .i64 h.stage.y, .int .i64 l.height] 3)).drew) := below_d (Joins.below_alloc1 w2 (.cells #[.int .i64 p.x, .int .i64 p.y, .int .i64 h.stage.x, .int .i64 h.stage.y, .int .i64 l.height] 3))
 have HR : Hid (Recs IntE (w2.alloc (.cells #[.int .i64 p.x, .int .i64 p.y, .int .i64 h.stage.x, .int .i64 h.stage.y, .int .i64 l.height] 3)).drew (some ⟨w2.heap.size, 0, none⟩) 5 [p.x, p.y, h.stage.x, h.stage.y, l.height]) := recs_alloc IntE w2 3 [p.x, p.y, h.stage.x, h.stage.y, l.height] #[.int .i64 p.x, .int .i64 p.y, .int .i64 h.stage.x, .int .i64 h.stage.y, .int .i64 l.height] rfl
 have HBB4 : Hid (Below w.heap.size w (w2.alloc (.cells #[.int .i64 p.x, .int .i64 p.y, .int .i64 h.stage.x, .int .i64 h.stage.y, .int .i64 l.height] 3)).drew) := HBB.out.trans (HBa.out.mono HBB.out.size)
 have HH4 := Lib.hid (HH.out.down HBa.out)
 have HP4 := Lib.hid (HP.out.down HBa.out)
 clear HBB HH HP HBa c1 c2 c3 e0 e1 d0 d1 d2 d3 d4 d5 d6 d7
 have HC := Lib.hid (rok_any _ _ _ 5 _ HR.out (by simp))
 refine any_one (n := 27) (fuel := 2) (by kernel_rfl) ?_;revert hF;refine zoc fun K hK => ?_
 generalize (w2.alloc (.cells #[.int .i64 p.x, .int .i64 p.y, .int .i64 h.stage.x, .int .i64 h.stage.y, .int .i64 l.height] 3)).drew = w4 at *
 refine HC.out.mono ?_
 rintro e w5 ⟨rfl, hb5⟩
 have HBB5 : Hid (Below w.heap.size w w5) := HBB4.out.trans (hb5.mono HBB4.out.size)
 have HH5 := Lib.hid (HH4.out.down hb5)
 have HP5 := Lib.hid (HP4.out.down hb5)
 have HOFF := Lib.hid (view_off (p := p) (stage := h.stage) (l := l))
 have HON := Lib.hid (view_on (p := p) (stage := h.stage) (l := l))
 obtain ⟨y, hy⟩ : ∃ y, [p.x, p.y, h.stage.x, h.stage.y, l.height].all coordB = y := ⟨_, rfl⟩
 have HY := Lib.hid hy
 rw [hy] at HOFF HON ⊢
 clear hy HC HR HBB4 HH4 HP4 hb5
 cases y
 ·
  refine hK _ _ (fun a hF => ?_);clear hK K;revert hF;refine zrb (fuel := 0) [905, 938] [1, 3, 5, 42] fun a hF => ?_;refine hK _ _ ?_;clear hK
  refine cond_yes hF rfl ?_
  revert hF;refine zrs [2] [6] fun a hF => ?_;refine wp_ret ?_;(try simp only [then_ret, block_ret, goto_ret]);revert hF;refine zq ?_
  exact ⟨by rw [HOFF.out rfl]; rfl, HBB5.out⟩
 refine hK _ _ (fun a hF => ?_);clear hK K;revert hF;refine zrb (fuel := 0) [905, 938] [1, 3, 5, 42] fun a hF => ?_;refine hK _ _ ?_;clear hK
 refine cond_no hF rfl ?_
 refine wp_skip ?_
 refine hK _ _ ?_;clear hK;replace hF := hF.kp [1, 3, 5] rfl
 have HVS := Lib.hid (HON.out rfl)
 clear HOFF HON
 have hco : ∀ n ∈ [p.x, p.y, h.stage.x, h.stage.y, l.height], 0 ≤ n ∧ n ≤ 10000 := fun n hn => by
  have := List.all_eq_true.1 HY.out n hn
  simpa [coordB] using this
 obtain ⟨p1, p2⟩ := hco p.x (by simp)
 obtain ⟨p3, p4⟩ := hco p.y (by simp)
 obtain ⟨p5, p6⟩ := hco h.stage.x (by simp)
 obtain ⟨p7, p8⟩ := hco h.stage.y (by simp)
 obtain ⟨p9, p10⟩ := hco l.height (by simp)
 clear hco HY
 obtain ⟨m1, m2⟩ := mul_bd (x := p.x - h.stage.x) (y := p.x - h.stage.x) (by omega) (by omega) (by omega) (by omega)
 obtain ⟨m3, m4⟩ := mul_bd (x := p.y - h.stage.y) (y := p.y - h.stage.y) (by omega) (by omega) (by omega) (by omega)
 obtain ⟨m5, m6⟩ := mul_bd (x := l.height) (y := l.height) (by omega) (by omega) (by omega) (by omega)
 have HW1 : Hid (IntKind.i64.wrap (p.x - h.stage.x) = p.x - h.stage.x) := wrap_in (by omega) (by omega)
 have HW2 : Hid (IntKind.i64.wrap (p.y - h.stage.y) = p.y - h.stage.y) := wrap_in (by omega) (by omega)
 clear p1 p2 p3 p4 p5 p6 p7 p8 p9 p10
 have HMB := Lib.hid (And.intro (And.intro m1 m2) (And.intro (And.intro m3 m4) (And.intro m5 m6)))
 clear m1 m2 m3 m4 m5 m6
 obtain ⟨_, c1, c2, c3⟩ := HH5.out.cells
 obtain ⟨bb, oo, hla, d0, d1, d2, d3, d4, d5, d6, d7⟩ := lev_at (HRL.out.below HBB5.out) n hnn hnl
 rw [HLE.out] at d0 d1 d2 d3 d4 d5 d6 d7
 rw [hla] at c3
 clear hla
 refine wp_seq_k (fun K hK => ?_);revert hF;refine zrp [4, 4, 1, 5, 4] [5, 6] fun a hF => ?_;refine seq_one ?_;revert hF;refine qe0 fun a hF => ?_
 clear c1 c2 c3 d0 d1 d2 d3 d4 d5 d6 d7
 have hs0 : (w5.alloc (.cells #[.string ⟨#[]⟩, .int .i64 0, .slice none 0 0, .slice none 0 0, .slice none 0 0, .slice none 0 0, .slice none 0 0, .int .i64 0] 32)).heap[w5.heap.size]? = some (.cells #[.string ⟨#[]⟩, .int .i64 0, .slice none 0 0, .slice none 0 0, .slice none 0 0, .slice none 0 0, .slice none 0 0, .int .i64 0] 32 (0, 0)) := World.alloc_heap_new _ _
 have hb1 := Joins.below_alloc1 w5 (.cells #[.string ⟨#[]⟩, .int .i64 0, .slice none 0 0, .slice none 0 0, .slice none 0 0, .slice none 0 0, .slice none 0 0, .int .i64 0] 32)
 generalize w5.alloc (.cells #[.string ⟨#[]⟩, .int .i64 0, .slice none 0 0, .slice none 0 0, .slice none 0 0, .slice none 0 0, .slice none 0 0, .int .i64 0] 32) = wa at *
 obtain ⟨gl, hgv⟩ : ∃ g, g = w5.heap.size := ⟨_, rfl⟩
 have hgw : w5.heap.size ≤ gl := Nat.le_of_eq hgv.symm
 rw [← hgv] at hF hs0
 clear hgv
 have hSV := run_storeVar_row (P := Tryz.prog) wa gl 32 32 #[.string ⟨#[]⟩, .int .i64 0, .slice none 0 0, .slice none 0 0, .slice none 0 0, .slice none 0 0, .slice none 0 0, .int .i64 0] #[.string (bs l.name), .int .i64 l.height, .slice l.ba l.bn l.bc, .slice l.aa l.an l.ac, .slice l.sa l.sn l.sc, .slice l.pa l.pn l.pc, .slice l.da l.dn l.dc, .int .i64 l.at'] hs0 (by kernel_rfl) rfl (by simp [Value.oneCell'])
 have HL : Hid (LevIn (wa.setRow gl #[.string (bs l.name), .int .i64 l.height, .slice l.ba l.bn l.bc, .slice l.aa l.an l.ac, .slice l.sa l.sn l.sc, .slice l.pa l.pn l.pc, .slice l.da l.dn l.dc, .int .i64 l.at']) gl l) := setRow_heap wa gl #[.string ⟨#[]⟩, .int .i64 0, .slice none 0 0, .slice none 0 0, .slice none 0 0, .slice none 0 0, .slice none 0 0, .int .i64 0] #[.string (bs l.name), .int .i64 l.height, .slice l.ba l.bn l.bc, .slice l.aa l.an l.ac, .slice l.sa l.sn l.sc, .slice l.pa l.pn l.pc, .slice l.da l.dn l.dc, .int .i64 l.at'] 32 (0, 0) hs0
 have hb2 : Below w5.heap.size w5 (wa.setRow gl #[.string (bs l.name), .int .i64 l.height, .slice l.ba l.bn l.bc, .slice l.aa l.an l.ac, .slice l.sa l.sn l.sc, .slice l.pa l.pn l.pc, .slice l.da l.dn l.dc, .int .i64 l.at']) := below_setRow hb1 hgw #[.string (bs l.name), .int .i64 l.height, .slice l.ba l.bn l.bc, .slice l.aa l.an l.ac, .slice l.sa l.sn l.sc, .slice l.pa l.pn l.pc, .slice l.da l.dn l.dc, .int .i64 l.at']
 clear hs0 hb1
 have HBB6 : Hid (Below w.heap.size w (wa.setRow gl #[.string (bs l.name), .int .i64 l.height, .slice l.ba l.bn l.bc, .slice l.aa l.an l.ac, .slice l.sa l.sn l.sc, .slice l.pa l.pn l.pc, .slice l.da l.dn l.dc, .int .i64 l.at'])) := HBB5.out.trans (hb2.mono HBB5.out.size)
 have HH6 := Lib.hid (HH5.out.down hb2)
 have HP6 := Lib.hid (HP5.out.down hb2)
 clear hb2 HBB5 HH5 HP5
 refine seq_one ?_;refine op_storev rfl rfl hF rfl rfl rfl rfl hSV ?_;clear hF;refine fun a hF => ?_
 clear hSV
 refine hK _ _ ?_;clear hK
 generalize wa.setRow gl #[.string (bs l.name), .int .i64 l.height, .slice l.ba l.bn l.bc, .slice l.aa l.an l.ac, .slice l.sa l.sn l.sc, .slice l.pa l.pn l.pc, .slice l.da l.dn l.dc, .int .i64 l.at'] = w6 at *
 clear hgw
 obtain ⟨_, c1, c2, _⟩ := HH6.out.cells
 obtain ⟨e0, e1⟩ := HP6.out.cells
 obtain ⟨_, f1, _, _, _, _, _, _⟩ := HL.out.cells
 have hw1 := HW1.out
 revert hF;refine zrs [4, 4, 4, 4, 4, 5, 2] [3, 5, 7, 8] fun a hF => ?_
 clear hw1
 have hw2 := HW2.out
 revert hF;refine zrs [4, 4, 4, 4, 4, 5, 2] [3, 5, 7, 8, 9] fun a hF => ?_
 clear hw2 c1 c2 e0 e1
 obtain ⟨⟨m1, m2⟩, ⟨m3, m4⟩, m5, m6⟩ := HMB.out
 clear HMB HW1 HW2
 have HD : Hid (distS p h.stage l = (p.x - h.stage.x) * (p.x - h.stage.x) + (p.y - h.stage.y) * (p.y - h.stage.y) + l.height * l.height) := rfl
 obtain ⟨x1, hx1⟩ : ∃ x, (p.x - h.stage.x) * (p.x - h.stage.x) = x := ⟨_, rfl⟩
 obtain ⟨x2, hx2⟩ : ∃ x, (p.y - h.stage.y) * (p.y - h.stage.y) = x := ⟨_, rfl⟩
 obtain ⟨x3, hx3⟩ : ∃ x, l.height * l.height = x := ⟨_, rfl⟩
 rw [hx1, hx2, hx3] at HD
 rw [hx1] at m1 m2
 rw [hx2] at m3 m4
 rw [hx3] at m5 m6
 have hw3 : IntKind.i64.wrap ((p.x - h.stage.x) * (p.x - h.stage.x)) = x1 := by rw [hx1]; exact wrap_in (by omega) (by omega)
 have hw4 : IntKind.i64.wrap ((p.y - h.stage.y) * (p.y - h.stage.y)) = x2 := by rw [hx2]; exact wrap_in (by omega) (by omega)
 have hw5 : IntKind.i64.wrap (l.height * l.height) = x3 := by rw [hx3]; exact wrap_in (by omega) (by omega)
 have hw6 : IntKind.i64.wrap (x1 + x2) = x1 + x2 := wrap_in (by omega) (by omega)
 have hw7 : IntKind.i64.wrap (x1 + x2 + x3) = x1 + x2 + x3 := wrap_in (by omega) (by omega)
 clear hx1 hx2 hx3 m1 m2 m3 m4 m5 m6
 rw [HD.out] at HVS
 revert hF;refine zrs [1, 1, 5, 1, 1, 5, 5, 4, 4, 4, 4, 5, 5, 2] [3, 5, 7, 10] fun a hF => ?_
 clear hw3 hw4 hw5 hw6 hw7 HD f1
 generalize x1 + x2 + x3 = d at *
 revert hF;refine zrs [2] [3, 5, 7, 10, 11] fun a hF => ?_;replace hF := hF.kp [3, 5, 7, 10, 11] rfl
 obtain ⟨v1, hv0⟩ : ∃ v : Int, v = 0 + (if 1000000 < d then 1 else 0) := ⟨_, rfl⟩
 have hvb0 : 0 ≤ v1 ∧ v1 ≤ 1 := by rw [hv0]; split <;> omega
 have HV0 := Lib.hid hv0
 clear hv0
 refine seq_cut (fun a' w' => FrF 101 [] [(3, .pointer (some ⟨gh, 0, none⟩)), (5, .pointer (some ⟨gp, 0, none⟩)), (7, .pointer (some ⟨gl, 0, none⟩)), (10, .int .i64 d), (11, .int .i64 v1)] a' ∧ w' = w6) (fun KC hKC => ?_) ?_
 ·
  skip
  by_cases hd : 1000000 < d
  ·
   have hws : IntKind.i64.wrap (0 + 1) = 0 + 1 := wrap_in (by omega) (by omega)
   revert hF;refine zrs [1, 4] [3, 5, 7, 10, 11, 74] fun a hF => ?_
   refine cond_yes hF rfl ?_
   revert hF;refine zrg [1, 4, 2] [3, 5, 7, 10, 11] fun a hF => ?_
   refine hKC _ _ ⟨?_, rfl⟩
   rw [HV0.out, if_pos hd]
   exact hF
  revert hF;refine zrs [1, 4] [3, 5, 7, 10, 11, 74] fun a hF => ?_
  refine cond_no hF rfl ?_
  refine wp_skip ?_
  refine hKC _ _ ⟨?_, rfl⟩
  rw [HV0.out, if_neg hd, Int.add_zero]
  exact hF.sub ⟨rfl, rfl, rfl, rfl, rfl, trivial⟩
 clear hF
 rintro a wq ⟨hF, hwq⟩
 rw [hwq]
 clear hwq
 obtain ⟨v2, hv1⟩ : ∃ v : Int, v = v1 + (if 9000000 < d then 1 else 0) := ⟨_, rfl⟩
 have hvb1 : 0 ≤ v2 ∧ v2 ≤ 2 := by rw [hv1]; split <;> omega
 have HV1 := Lib.hid hv1
 clear hv1
 refine seq_cut (fun a' w' => FrF 101 [] [(3, .pointer (some ⟨gh, 0, none⟩)), (5, .pointer (some ⟨gp, 0, none⟩)), (7, .pointer (some ⟨gl, 0, none⟩)), (11, .int .i64 v2)] a' ∧ w' = w6) (fun KC hKC => ?_) ?_
 ·
  skip
  by_cases hd : 9000000 < d
  ·
   have hws : IntKind.i64.wrap (v1 + 1) = v1 + 1 := wrap_in (by omega) (by omega)
   revert hF;refine zrs [1, 4] [3, 5, 7, 11, 78] fun a hF => ?_
   refine cond_yes hF rfl ?_
   revert hF;refine zrg [1, 4, 2] [3, 5, 7, 11] fun a hF => ?_
   refine hKC _ _ ⟨?_, rfl⟩
   rw [HV1.out, if_pos hd]
   exact hF
  revert hF;refine zrs [1, 4] [3, 5, 7, 11, 78] fun a hF => ?_
  refine cond_no hF rfl ?_
  refine wp_skip ?_
  refine hKC _ _ ⟨?_, rfl⟩
  rw [HV1.out, if_neg hd, Int.add_zero]
  exact hF.sub ⟨rfl, rfl, rfl, rfl, trivial⟩
 clear hF
 rintro a wq ⟨hF, hwq⟩
 rw [hwq]
 clear hwq
 have HFAR : Hid (farS d = v2) := by
  show _ = _
  rw [HV1.out, HV0.out]
  unfold farS
  simp only [Int.zero_add]
 rw [HFAR.out] at HVS
 clear HFAR HV0 HV1
 have HPL : Hid (l.pillars.length = l.pn) := HLI.out.pillars.1
 refine wp_seq_k (fun KA hKA => ?_);revert hF;refine zrs [2] [3, 5, 7, 11, 12] fun a hF => ?_
 refine wp_block ?_
 refine loop_fr (fun m a' w' => ∃ i : Nat, i + m = l.pn ∧ FrF 101 [] [(3, .pointer (some ⟨gh, 0, none⟩)), (5, .pointer (some ⟨gp, 0, none⟩)), (7, .pointer (some ⟨gl, 0, none⟩)), (11, .int .i64 (v2 + (pilS p h.stage l.pillars i : Nat))), (12, .int .i64 i)] a' ∧ Hid (Below w.heap.size w w') ∧ Hid (HallIn w' gh h) ∧ Hid (PntIn w' gp p) ∧ Hid (LevIn w' gl l)) l.pn ⟨0, by omega, by simpa [pilS] using hF.sub (e' := [(3, .pointer (some ⟨gh, 0, none⟩)), (5, .pointer (some ⟨gp, 0, none⟩)), (7, .pointer (some ⟨gl, 0, none⟩)), (11, .int .i64 v2), (12, .int .i64 0)]) ⟨rfl, rfl, rfl, rfl, rfl, trivial⟩, HBB6, HH6, HP6, HL⟩ ?_
 clear hF HBB6 HH6 HP6 HL
 rintro rk a wr ⟨i, hik, hF, HBB, HH, HP, HL⟩ KB hKB
 have hpi := pil_le p h.stage l.pillars i
 refine wp_seq_k (fun K hK => ?_)
 obtain ⟨_, _, _, _, _, f5, _, _⟩ := HL.out.cells
 by_cases hlt : i < l.pn
 rotate_left
 ·
  have hlti : ¬ (i : Int) < (l.pn : Nat) := by omega
  revert hF;refine zrs [1, 4, 4, 4, 5] [3, 5, 7, 11, 12, 85] fun a hF => ?_
  refine cond_no hF rfl ?_
  refine wp_exit ?_
  refine hKA _ _ ?_;clear hKA
  have hie : i = l.pillars.length := by rw [HPL.out]; omega
  rw [← hie] at HVS
  obtain ⟨vv, hvv⟩ : ∃ v : Int, v2 + (pilS p h.stage l.pillars i : Nat) = v := ⟨_, rfl⟩
  rw [hvv] at hF HVS
  obtain ⟨mm, hmm⟩ : ∃ m : Int, (if 3 < vv then 3 else vv) = m := ⟨_, rfl⟩
  have HMM : Hid (min vv 3 = mm) := by
   show _ = _
   rw [← hmm]
   split <;> omega
  clear hie hvv hpi f5
  revert hF;refine zrs [1, 4, 2] [6] fun a hF => ?_;refine wp_ret ?_;(try simp only [then_ret, block_ret, goto_ret]);revert hF;refine zq ?_
  exact ⟨by rw [HVS.out, HMM.out]; rfl, HBB.out⟩
 have hlti : (i : Int) < (l.pn : Nat) := by omega
 revert hF;refine zrs [1, 4, 4, 4, 5] [3, 5, 7, 11, 12, 85] fun a hF => ?_
 clear f5
 refine cond_yes hF rfl ?_
 refine wp_skip ?_
 refine hK _ _ ?_;clear hK;replace hF := hF.kp [3, 5, 7, 11, 12] rfl
 clear hKA HVS
 have hil : i < l.pillars.length := by rw [HPL.out]; exact hlt
 have HBBd : Hid (Below w.heap.size w wr.drew) := below_d HBB.out
 have HHd : Hid (HallIn wr.drew gh h) := HH.out
 have HPd : Hid (PntIn wr.drew gp p) := HP.out
 have HLd : Hid (LevIn wr.drew gl l) := HL.out
 clear HBB HH HP HL
 obtain ⟨_, c1, c2, _⟩ := HHd.out.cells
 obtain ⟨e0, e1⟩ := HPd.out.cells
 obtain ⟨_, _, _, _, _, f5, _, _⟩ := HLd.out.cells
 obtain ⟨b0, o, hpa, d0, d1, d2, d3⟩ := box_at (HLI.out.pillars.below HBBd.out) i hlt hil
 rw [hpa] at f5
 clear hpa
 have HPN := Lib.hid (pil_next (p := p) (stage := h.stage) hil)
 generalize l.pillars[i] = b at *
 obtain ⟨vi, hvi⟩ : ∃ v : Int, v2 + (pilS p h.stage l.pillars i : Nat) = v := ⟨_, rfl⟩
 have hvib : 0 ≤ vi ∧ vi ≤ 200000 := by omega
 rw [hvi] at hF
 have HVI := Lib.hid hvi
 clear hvi hpi
 obtain ⟨vn, hvn⟩ : ∃ v : Int, v2 + (pilS p h.stage l.pillars (i + 1) : Nat) = v := ⟨_, rfl⟩
 have HVN := Lib.hid hvn
 clear hvn
 refine seq_cut (fun a' w' => FrF 101 [] [(3, .pointer (some ⟨gh, 0, none⟩)), (5, .pointer (some ⟨gp, 0, none⟩)), (7, .pointer (some ⟨gl, 0, none⟩)), (11, .int .i64 vn), (12, .int .i64 i)] a' ∧ Hid (Below w.heap.size w w') ∧ Hid (HallIn w' gh h) ∧ Hid (PntIn w' gp p) ∧ Hid (LevIn w' gl l)) (fun KC hKC => ?_) ?_
 rotate_left
 ·
  clear hF HBBd HHd HPd HLd HPN d0 d1 d2 d3 c1 c2 e0 e1 f5
  rintro a w' ⟨hF, HBB, HH, HP, HL⟩
  have hws : IntKind.i64.wrap ((i : Int) + 1) = ((i + 1 : Nat) : Int) := wrap_succ (by omega)
  revert hF;refine zrg [1, 4, 2] [3, 5, 7, 11, 12] fun a hF => ?_
  exact hKB (l.pn - (i + 1)) _ _ (by omega) ⟨i + 1, by omega, by rw [HVN.out]; exact hF, HBB, HH, HP, HL⟩
 clear hKB hik
 refine wp_block ?_
 refine wp_seq_k (fun K hK => ?_);refine region_any (by kernel_rfl) ?_;revert hF;refine zra (fuel := 1) [20, 41, 84, 105, 148, 161, 202, 244] [8] fun a hF => ?_;refine any_one (n := 8) (fuel := 0) (by kernel_rfl) ?_;revert hF;refine zoc fun K hK => ?_
 refine (rcrosses_any _ p h.stage b).mono ?_
 rintro e w11 ⟨rfl, hb11⟩
 have HBB3 : Hid (Below w.heap.size w w11) := HBBd.out.trans (hb11.mono HBBd.out.size)
 have HH3 := Lib.hid (HHd.out.down hb11)
 have HP3 := Lib.hid (HPd.out.down hb11)
 have HL3 := Lib.hid (HLd.out.down hb11)
 clear c1 c2 e0 e1 f5 d0 d1 d2 d3 HBBd HHd HPd HLd hb11
 generalize crossB p h.stage b = cb at *
 refine hK _ _ (fun a hF => ?_);clear hK K;refine any_end (by kernel_rfl) ?_;replace hF := hF.kp [3, 5, 7, 11, 12, 96] rfl;refine hK _ _ ?_;clear hK
 cases cb
 ·
  refine cond_no hF rfl ?_
  refine wp_skip ?_
  have hvv : vn = vi := by
   rw [← HVN.out, ← HVI.out, HPN.out]
   simp
  refine hKC _ _ ⟨?_, HBB3, HH3, HP3, HL3⟩
  rw [hvv]
  exact hF.sub ⟨rfl, rfl, rfl, rfl, rfl, trivial⟩
 ·
  refine cond_yes hF rfl ?_
  have hws : IntKind.i64.wrap (vi + 1) = vi + 1 := wrap_in (by omega) (by omega)
  have HVV : Hid (vn = vi + 1) := by
   show _ = _
   rw [← HVN.out, ← HVI.out, HPN.out]
   simp [Int.add_assoc]
  revert hF;refine zrg [1, 4, 2] [3, 5, 7, 11, 12] fun a hF => ?_
  refine hKC _ _ ⟨?_, HBB3, HH3, HP3, HL3⟩
  rw [HVV.out]
  exact hF
end Go.Proofs.YtmcdhggnpfhlmaaGreat
