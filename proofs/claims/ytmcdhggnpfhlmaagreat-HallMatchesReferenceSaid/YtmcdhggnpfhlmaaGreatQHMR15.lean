/- hall: sight.View; hall: the order of places; a place in a block of its own. -/
import Derived.Test.YtmcdhggnpfhlmaaGreatQHMR11
import Derived.Test.YtmcdhggnpfhlmaaGreatQHMR14

set_option linter.unusedVariables false
set_option linter.unusedSimpArgs false
namespace Go.Proofs.YtmcdhggnpfhlmaaGreat
open Go.RowKit Go.IntWalk
set_option linter.unusedSimpArgs false
set_option linter.unusedVariables false

def HallIn (w : World) (g : Nat) (h : HallR) : Prop := w.heap[g]? = some (.cells #[.string (bs h.name), .int .i64 h.stage.x, .int .i64 h.stage.y, .slice h.la h.ln h.lc] 26 (0, 0))
theorem HallIn.cells {w : World} {g : Nat} {h : HallR} (hh : HallIn w g h) : w.cell? ⟨g, 0, none⟩ = some (.string (bs h.name)) ∧ w.cell? ⟨g, 1, none⟩ = some (.int .i64 h.stage.x) ∧ w.cell? ⟨g, 2, none⟩ = some (.int .i64 h.stage.y) ∧ w.cell? ⟨g, 3, none⟩ = some (.slice h.la h.ln h.lc) :=
 ⟨boxed_cell (j := 0) hh rfl, boxed_cell (j := 1) hh rfl, boxed_cell (j := 2) hh rfl, boxed_cell (j := 3) hh rfl⟩
theorem HallIn.down {w w' : World} {g : Nat} {h : HallR} (hh : HallIn w g h) (hb : Below w.heap.size w w') : HallIn w' g h := (hb.block g (lt_of_block hh)).trans hh

def farS (d : Int) : Int := (if 1000000 < d then 1 else 0) + (if 9000000 < d then 1 else 0)
def pilS (p stage : PntR) (l : List BoxR) (i : Nat) : Nat := ((l.take i).filter fun b => crossB p stage b).length
theorem pil_next {p stage : PntR} {l : List BoxR} {i : Nat} (h : i < l.length) : pilS p stage l (i + 1) = pilS p stage l i + if crossB p stage l[i] then 1 else 0 := by
 unfold pilS
 rw [List.take_succ_eq_append_getElem h, List.filter_append, List.length_append]
 by_cases hp : crossB p stage l[i] = true <;> simp [hp]
theorem pil_le (p stage : PntR) (l : List BoxR) (i : Nat) : pilS p stage l i ≤ i := by
 unfold pilS
 exact Nat.le_trans (List.length_filter_le _ _) (by rw [List.length_take]; omega)
def distS (p stage : PntR) (l : LevR) : Int := (p.x - stage.x) * (p.x - stage.x) + (p.y - stage.y) * (p.y - stage.y) + l.height * l.height
theorem view_off {p stage : PntR} {l : LevR} (h : [p.x, p.y, stage.x, stage.y, l.height].all coordB = false) : viewS stage l p = 3 := by
 unfold viewS
 have : (coordB p.x && coordB p.y && coordB stage.x && coordB stage.y && coordB l.height) = false := by
  rw [← h]
  simp only [List.all_cons, List.all_nil, Bool.and_true, Bool.and_assoc]
 rw [this]
 rfl
theorem view_on {p stage : PntR} {l : LevR} (h : [p.x, p.y, stage.x, stage.y, l.height].all coordB = true) : viewS stage l p = min (farS (distS p stage l) + (pilS p stage l.pillars l.pillars.length : Nat)) 3 := by
 unfold viewS
 have : (coordB p.x && coordB p.y && coordB stage.x && coordB stage.y && coordB l.height) = true := by
  rw [← h]
  simp only [List.all_cons, List.all_nil, Bool.and_true, Bool.and_assoc]
 rw [this]
 unfold pilS
 rw [List.take_length]
 rfl

set_option maxRecDepth 100000 in
set_option maxHeartbeats 16000000 in
theorem view_any (w : World) (h : HallR) (n : Nat) (p : PntR) (hh : h.In w) (l : LevR) (hn : h.levels[n]? = some l) (hpn : l.pn ≤ 100000) :
  Calls Tryz.prog 63 #[.agg #[.string (bs h.name), .int .i64 h.stage.x, .int .i64 h.stage.y, .slice h.la h.ln h.lc], .int .i64 n, .agg #[.int .i64 p.x, .int .i64 p.y]] w fun e w' => e = .returned (.int .i64 (viewS h.stage l p)) ∧ Below w.heap.size w w' := by
 obtain ⟨hnl, hle⟩ := List.getElem?_eq_some_iff.1 hn
 have hll : h.levels.length = h.ln := hh.levels.1
 have hnn : n < h.ln := by omega
 have hni : (n : Int) < h.ln := by omega
 have hn1 : ¬ (n : Int) < 0 := by omega
 have hn2 : ¬ (h.ln : Int) ≤ n := by omega
 have HLI := Lib.hid (hh.lev l (by rw [← hle]; exact List.getElem_mem hnl))
 have HRL := Lib.hid hh.levels
 have HLE := Lib.hid hle
 clear hn hh hll hle
 refine enter_fr (N := 95) [.agg #[.string (bs h.name), .int .i64 h.stage.x, .int .i64 h.stage.y, .slice h.la h.ln h.lc], .int .i64 n, .agg #[.int .i64 p.x, .int .i64 p.y]] (Tryz.func63) rfl Tryz.ntmps63 (by rfl) (fun a hF => ?_);replace hF := hF.kp [0, 1, 2] rfl;refine wp_seq_k (fun K hK => ?_);refine region_seq (l := [0, 1, 2]) (by kernel_rfl) ?_;refine seq_one ?_;revert hF;refine qe1 fun a hF => ?_;refine seq_one ?_;revert hF;refine qe1 fun a hF => ?_
 have HB1 := Lib.hid (Joins.below_alloc1 w (.cells #[.string (bs h.name), .int .i64 h.stage.x, .int .i64 h.stage.y, .slice h.la h.ln h.lc] 26))
 have HX1 : Hid (HallIn (w.alloc (.cells #[.string (bs h.name), .int .i64 h.stage.x, .int .i64 h.stage.y, .slice h.la h.ln h.lc] 26)) w.heap.size h) := World.alloc_heap_new w _
 have hs1 : (w.alloc (.cells #[.string (bs h.name), .int .i64 h.stage.x, .int .i64 h.stage.y, .slice h.la h.ln h.lc] 26)).heap.size = w.heap.size + 1 := by simp only [World.alloc, Array.size_push]
 generalize w.alloc (.cells #[.string (bs h.name), .int .i64 h.stage.x, .int .i64 h.stage.y, .slice h.la h.ln h.lc] 26) = w1 at *
 revert hF;refine zre 2 [2] [1, 3, 5] fun a hF => ?_
 have HB2 := Lib.hid (Joins.below_alloc1 w1 (.cells #[.int .i64 p.x, .int .i64 p.y] 23))
 have HX2 : Hid (PntIn (w1.alloc (.cells #[.int .i64 p.x, .int .i64 p.y] 23)) w1.heap.size p) := World.alloc_heap_new w1 _
 rw [hs1] at HX2
 generalize w1.alloc (.cells #[.int .i64 p.x, .int .i64 p.y] 23) = w2 at *
 refine hK _ _ ?_;clear hK
 have HBB : Hid (Below w.heap.size w w2) := HB1.out.trans (HB2.out.mono HB1.out.size)
 have HH := Lib.hid (HX1.out.down HB2.out)
 have HP := HX2
 clear HX1 HX2 HB1 HB2 hs1
 obtain ⟨gh, hgh⟩ : ∃ g, g = w.heap.size := ⟨_, rfl⟩
 obtain ⟨gp, hgp⟩ : ∃ g, g = w.heap.size + 1 := ⟨_, rfl⟩
 rw [← hgp, ← hgh] at hF
 rw [← hgh] at HH
 rw [← hgp] at HP
 clear hgh hgp
 obtain ⟨_, c1, c2, c3⟩ := HH.out.cells
 refine wp_seq_k (fun K hK => ?_);revert hF;refine zrs [1, 4, 1, 1, 4, 4, 4, 5, 5] [1, 3, 5, 23] fun a hF => ?_
 refine cond_no hF rfl ?_
 refine wp_skip ?_
 refine hK _ _ ?_;clear hK
 obtain ⟨bb, oo, hla, d0, d1, d2, d3, d4, d5, d6, d7⟩ := lev_at (HRL.out.below HBB.out) n hnn hnl
 rw [HLE.out] at d0 d1 d2 d3 d4 d5 d6 d7
 refine wp_seq_k (fun K hK => ?_);revert hF;refine zrp [4, 4, 1, 5, 4] [5, 6] fun a hF => ?_;refine seq_one ?_;revert hF;refine qe0 fun a hF => ?_;refine seq_one ?_;revert hF;refine qu2 fun a hF => ?_;refine seq_end ?_;replace hF := hF.kp [3, 5, 7] rfl;refine hK _ _ ?_;clear hK
 clear d0 d1 d2 d3 d4 d5 d6 d7 hla c1 c2 c3
 have HBa := Lib.hid (Joins.below_alloc1 w2 (.cells #[.string (bs l.name), .int .i64 l.height, .slice l.ba l.bn l.bc, .slice l.aa l.an l.ac, .slice l.sa l.sn l.sc, .slice l.pa l.pn l.pc, .slice l.da l.dn l.dc, .int .i64 l.at'] 32))
 have HL : Hid (LevIn (w2.alloc (.cells #[.string (bs l.name), .int .i64 l.height, .slice l.ba l.bn l.bc, .slice l.aa l.an l.ac, .slice l.sa l.sn l.sc, .slice l.pa l.pn l.pc, .slice l.da l.dn l.dc, .int .i64 l.at'] 32)) w2.heap.size l) := World.alloc_heap_new w2 _
 have HBB3 : Hid (Below w.heap.size w (w2.alloc (.cells #[.string (bs l.name), .int .i64 l.height, .slice l.ba l.bn l.bc, .slice l.aa l.an l.ac, .slice l.sa l.sn l.sc, .slice l.pa l.pn l.pc, .slice l.da l.dn l.dc, .int .i64 l.at'] 32))) := HBB.out.trans (HBa.out.mono HBB.out.size)
 have HH3 := Lib.hid (HH.out.down HBa.out)
 have HP3 := Lib.hid (HP.out.down HBa.out)
 clear HBB HH HP HBa
 generalize w2.alloc (.cells #[.string (bs l.name), .int .i64 l.height, .slice l.ba l.bn l.bc, .slice l.aa l.an l.ac, .slice l.sa l.sn l.sc, .slice l.pa l.pn l.pc, .slice l.da l.dn l.dc, .int .i64 l.at'] 32) = w3 at *
 obtain ⟨gl, hgl⟩ : ∃ g, g = w2.heap.size := ⟨_, rfl⟩
 rw [← hgl] at hF HL
 clear hgl
 obtain ⟨_, c1, c2, c3⟩ := HH3.out.cells
 obtain ⟨e0, e1⟩ := HP3.out.cells
 obtain ⟨_, f1, _, _, _, f5, _, _⟩ := HL.out.cells
 refine wp_seq_k (fun K hK => ?_);refine wp_seq_k (fun K hK => ?_);revert hF;refine zrp [4, 4, 4, 4, 4, 4, 4, 4, 4, 4, 4, 4] [12, 13, 14] fun a hF => ?_;refine seq_one ?_;refine op_eff (v := ?_) (w' := ?_) rfl rfl rfl hF rfl ?_ ?_
 rotate_left 2
 ·
  intro a hF
  have s30 := hF.slot 30 _ rfl
  have s32 := hF.slot 32 _ rfl
  have s35 := hF.slot 35 _ rfl
  have s38 := hF.slot 38 _ rfl
  have s40 := hF.slot 40 _ rfl
  clear hF
  go_simp <;> first | with_reducible rfl | (constructor <;> with_reducible rfl)
 clear hF;refine fun a hF => ?_
 have HBa := Lib.hid (Joins.below_alloc1 w3 (.cells #[.int .i64 p.x, .int .i64 p.y, .int .i64 h.stage.x, .int .i64 h.stage.y, .int .i64 l.height] 3))
 have HR := Lib.hid (recs_alloc IntE w3 3 [p.x, p.y, h.stage.x, h.stage.y, l.height] #[.int .i64 p.x, .int .i64 p.y, .int .i64 h.stage.x, .int .i64 h.stage.y, .int .i64 l.height] rfl)
 have HBB4 : Hid (Below w.heap.size w (w3.alloc (.cells #[.int .i64 p.x, .int .i64 p.y, .int .i64 h.stage.x, .int .i64 h.stage.y, .int .i64 l.height] 3))) := HBB3.out.trans (HBa.out.mono HBB3.out.size)
 have HH4 := Lib.hid (HH3.out.down HBa.out)
 have HP4 := Lib.hid (HP3.out.down HBa.out)
 have HL4 := Lib.hid (HL.out.down HBa.out)
 clear HBB3 HH3 HP3 HL HBa c1 c2 c3 e0 e1 f1 f5
 have HC := Lib.hid (scoord_any _ _ _ 5 _ HR.out (by simp))
 generalize w3.alloc (.cells #[.int .i64 p.x, .int .i64 p.y, .int .i64 h.stage.x, .int .i64 h.stage.y, .int .i64 l.height] 3) = w4 at *
 revert hF;refine zos fun K hK => ?_
 refine HC.out.mono ?_
 rintro e w5 ⟨rfl, hb5⟩
 have HBB5 : Hid (Below w.heap.size w w5) := HBB4.out.trans (hb5.mono HBB4.out.size)
 have HH5 := Lib.hid (HH4.out.down hb5)
 have HP5 := Lib.hid (HP4.out.down hb5)
 have HL5 := Lib.hid (HL4.out.down hb5)
 have HOFF := Lib.hid (view_off (p := p) (stage := h.stage) (l := l))
 have HON := Lib.hid (view_on (p := p) (stage := h.stage) (l := l))
 obtain ⟨y, hy⟩ : ∃ y, [p.x, p.y, h.stage.x, h.stage.y, l.height].all coordB = y := ⟨_, rfl⟩
 have HY := Lib.hid hy
 rw [hy] at HOFF HON ⊢
 clear hy HC HR HBB4 HH4 HP4 HL4 hb5
 cases y
 ·
  refine hK _ _ (fun a hF => ?_);clear hK K;revert hF;refine zre 14 [4] [3, 5, 7, 43] fun a hF => ?_;refine hK _ _ ?_;clear hK
  refine cond_yes hF rfl ?_
  revert hF;refine zrs [2] [6] fun a hF => ?_;refine wp_ret ?_;(try simp only [then_ret, block_ret, goto_ret]);revert hF;refine zq ?_
  exact ⟨by rw [HOFF.out rfl]; rfl, HBB5.out⟩
 refine hK _ _ (fun a hF => ?_);clear hK K;revert hF;refine zre 14 [4] [3, 5, 7, 43] fun a hF => ?_;refine hK _ _ ?_;clear hK
 refine cond_no hF rfl ?_
 refine wp_skip ?_
 refine hK _ _ ?_;clear hK;replace hF := hF.kp [3, 5, 7] rfl
 have HVS := Lib.hid (HON.out rfl)
 clear HOFF HON
 have hco : ∀ n ∈ [p.x, p.y, h.stage.x, h.stage.y, l.height], 0 ≤ n ∧ n ≤ 10000 := fun n hn => by
  have := List.all_eq_true.1 HY.out n hn
  simpa [coordB] using this
 obtain ⟨p1, p2⟩ := hco p.x (by simp)
 obtain ⟨p3, p4⟩ := hco p.y (by simp)
 obtain ⟨p5, p6⟩ := hco h.stage.x (by simp)
 obtain ⟨p7, p8⟩ := hco h.stage.y (by simp)
 obtain ⟨p9, p10⟩ := hco l.height (by simp)
 clear hco HY
 obtain ⟨m1, m2⟩ := mul_bd (x := p.x - h.stage.x) (y := p.x - h.stage.x) (by omega) (by omega) (by omega) (by omega)
 obtain ⟨m3, m4⟩ := mul_bd (x := p.y - h.stage.y) (y := p.y - h.stage.y) (by omega) (by omega) (by omega) (by omega)
 obtain ⟨m5, m6⟩ := mul_bd (x := l.height) (y := l.height) (by omega) (by omega) (by omega) (by omega)
 have hw1 : IntKind.i64.wrap (p.x - h.stage.x) = p.x - h.stage.x := wrap_in (by omega) (by omega)
 have hw2 : IntKind.i64.wrap (p.y - h.stage.y) = p.y - h.stage.y := wrap_in (by omega) (by omega)
 clear p1 p2 p3 p4 p5 p6 p7 p8 p9 p10
 refine wp_seq_k (fun K hK => ?_);refine region_seq (l := [0, 1]) (by kernel_rfl) ?_;refine seq_one ?_;revert hF;refine qe0 fun a hF => ?_;refine seq_one ?_;revert hF;refine qu1 fun a hF => ?_;refine seq_end ?_;replace hF := hF.kp [3, 5, 7, 8] rfl;refine hK _ _ ?_;clear hK
 have HBa := Lib.hid (Joins.below_alloc1 w5 (.cells #[.int .i64 0] 3))
 have HV : Hid ((w5.alloc (.cells #[.int .i64 0] 3)).heap[w5.heap.size]? = some (.cells #[.int .i64 0] 3 (0, 0))) := World.alloc_heap_new w5 _
 have HBB6 : Hid (Below w.heap.size w (w5.alloc (.cells #[.int .i64 0] 3))) := HBB5.out.trans (HBa.out.mono HBB5.out.size)
 have HH6 := Lib.hid (HH5.out.down HBa.out)
 have HP6 := Lib.hid (HP5.out.down HBa.out)
 have HL6 := Lib.hid (HL5.out.down HBa.out)
 have HGV : Hid (w.heap.size ≤ w5.heap.size) := HBB5.out.size
 clear HBB5 HH5 HP5 HL5 HBa
 generalize w5.alloc (.cells #[.int .i64 0] 3) = w6 at *
 obtain ⟨gv, hgv⟩ : ∃ g, g = w5.heap.size := ⟨_, rfl⟩
 rw [← hgv] at hF HV HGV
 clear hgv
 revert hF;refine zrs [4, 2] [3, 5, 7, 8, 9] fun a hF => ?_
 have c1 : w6.drew.cell? ⟨gh, 1, none⟩ = some (.int .i64 h.stage.x) := HH6.out.cells.2.1
 have c2 : w6.drew.cell? ⟨gh, 2, none⟩ = some (.int .i64 h.stage.y) := HH6.out.cells.2.2.1
 have e0 : w6.drew.cell? ⟨gp, 0, none⟩ = some (.int .i64 p.x) := HP6.out.cells.1
 have e1 : w6.drew.cell? ⟨gp, 1, none⟩ = some (.int .i64 p.y) := HP6.out.cells.2
 refine wp_seq_k (fun K hK => ?_);refine region_any (by kernel_rfl) ?_;revert hF;refine zrb (fuel := 0) [9, 52, 73, 105, 148, 170, 201, 244, 265, 297, 340, 362, 386, 418] [3, 5, 7, 8, 9, 10, 11] fun a hF => ?_;refine hK _ _ ?_;clear hK
 clear c1 c2 e0 e1
 have HBB7 : Hid (Below w.heap.size w w6.drew) := below_d HBB6.out
 have HH7 : Hid (HallIn w6.drew gh h) := HH6.out
 have HP7 : Hid (PntIn w6.drew gp p) := HP6.out
 have HL7 : Hid (LevIn w6.drew gl l) := HL6.out
 have hv7 : w6.drew.heap[gv]? = some (.cells #[.int .i64 0] 3 (0, 0)) := HV.out
 clear HBB6 HH6 HP6 HL6 HV
 generalize w6.drew = w7 at *
 obtain ⟨_, f1, _, _, _, f5, _, _⟩ := HL7.out.cells
 have HD : Hid (distS p h.stage l = (p.x - h.stage.x) * (p.x - h.stage.x) + (p.y - h.stage.y) * (p.y - h.stage.y) + l.height * l.height) := rfl
 obtain ⟨x1, hx1⟩ : ∃ x, (p.x - h.stage.x) * (p.x - h.stage.x) = x := ⟨_, rfl⟩
 obtain ⟨x2, hx2⟩ : ∃ x, (p.y - h.stage.y) * (p.y - h.stage.y) = x := ⟨_, rfl⟩
 obtain ⟨x3, hx3⟩ : ∃ x, l.height * l.height = x := ⟨_, rfl⟩
 rw [hx1, hx2, hx3] at HD
 rw [hx1] at m1 m2
 rw [hx2] at m3 m4
 rw [hx3] at m5 m6
 have hw3 : IntKind.i64.wrap ((p.x - h.stage.x) * (p.x - h.stage.x)) = x1 := by rw [hx1]; exact wrap_in (by omega) (by omega)
 have hw4 : IntKind.i64.wrap ((p.y - h.stage.y) * (p.y - h.stage.y)) = x2 := by rw [hx2]; exact wrap_in (by omega) (by omega)
 have hw5 : IntKind.i64.wrap (l.height * l.height) = x3 := by rw [hx3]; exact wrap_in (by omega) (by omega)
 have hw6 : IntKind.i64.wrap (x1 + x2) = x1 + x2 := wrap_in (by omega) (by omega)
 have hw7 : IntKind.i64.wrap (x1 + x2 + x3) = x1 + x2 + x3 := wrap_in (by omega) (by omega)
 clear hx1 hx2 hx3 m1 m2 m3 m4 m5 m6 hw1 hw2
 rw [HD.out] at HVS
 revert hF;refine zrs [1, 1, 5, 1, 1, 5, 5, 4, 4, 4, 4, 5, 5, 2] [3, 5, 7, 8, 9, 12] fun a hF => ?_
 clear hw3 hw4 hw5 hw6 hw7 HD f1 f5
 generalize x1 + x2 + x3 = d at *
 refine wp_seq_k (fun K hK => ?_);revert hF;refine zrp [1, 1, 4] [3] fun a hF => ?_;refine seq_one ?_;refine op_callv [_] _ _ rfl rfl hF rfl rfl (by first | assumption | kernel_rfl) ⟨rfl, trivial⟩ (fun K hK => ?_);clear hF
 refine (tick_any w7 gv 0 (decide (1000000 < d)) hv7 (by omega) (by omega)).mono ?_
 rintro e w8 ⟨rfl, hv8, hu8⟩
 have HBB8 : Hid (Below w.heap.size w w8) := Upd.below HBB7.out HBB7.out.size hu8 (fun i e => by rw [e]; exact HGV.out)
 have HH8 : Hid (HallIn w8 gh h) := (hu8.block gh (lt_of_block HH7.out) (type_ne HH7.out hv7 (by decide))).trans HH7.out
 have HP8 : Hid (PntIn w8 gp p) := (hu8.block gp (lt_of_block HP7.out) (type_ne HP7.out hv7 (by decide))).trans HP7.out
 have HL8 : Hid (LevIn w8 gl l) := (hu8.block gl (lt_of_block HL7.out) (type_ne HL7.out hv7 (by decide))).trans HL7.out
 clear HBB7 HH7 HP7 HL7 hv7 hu8
 refine hK _ _ (fun a hF => ?_);clear hK K;refine seq_end ?_;replace hF := hF.kp [3, 5, 7, 8, 9, 12] rfl;refine hK _ _ ?_;clear hK
 obtain ⟨v1, hv1⟩ : ∃ v : Int, 0 + (if decide (1000000 < d) = true then 1 else 0) = v := ⟨_, rfl⟩
 rw [hv1] at hv8
 have hv1b : 0 ≤ v1 ∧ v1 ≤ 1 := by rw [← hv1]; split <;> omega
 have HV8 := Lib.hid hv8
 clear hv8
 refine wp_seq_k (fun K hK => ?_);revert hF;refine zrp [1, 1, 4] [3] fun a hF => ?_;refine seq_one ?_;refine op_callv [_] _ _ rfl rfl hF rfl rfl (by first | assumption | kernel_rfl) ⟨rfl, trivial⟩ (fun K hK => ?_);clear hF
 refine (tick_any w8 gv v1 (decide (9000000 < d)) HV8.out (by omega) (by omega)).mono ?_
 rintro e w9 ⟨rfl, hv9, hu9⟩
 have HBB9 : Hid (Below w.heap.size w w9) := Upd.below HBB8.out HBB8.out.size hu9 (fun i e => by rw [e]; exact HGV.out)
 have HH9 : Hid (HallIn w9 gh h) := (hu9.block gh (lt_of_block HH8.out) (type_ne HH8.out HV8.out (by decide))).trans HH8.out
 have HP9 : Hid (PntIn w9 gp p) := (hu9.block gp (lt_of_block HP8.out) (type_ne HP8.out HV8.out (by decide))).trans HP8.out
 have HL9 : Hid (LevIn w9 gl l) := (hu9.block gl (lt_of_block HL8.out) (type_ne HL8.out HV8.out (by decide))).trans HL8.out
 clear HBB8 HH8 HP8 HL8 HV8 hu9
 obtain ⟨v2, hv2⟩ : ∃ v : Int, v1 + (if decide (9000000 < d) = true then 1 else 0) = v := ⟨_, rfl⟩
 rw [hv2] at hv9
 have hv2b : 0 ≤ v2 ∧ v2 ≤ 2 := by rw [← hv2]; split <;> omega
 have HFAR : Hid (farS d = v2) := by
  show _ = _
  rw [← hv2, ← hv1]
  unfold farS
  simp only [decide_eq_true_eq, Int.zero_add]
 rw [HFAR.out] at HVS
 have HV9 := Lib.hid hv9
 clear hv9 hv1 hv2 hv1b
 refine hK _ _ (fun a hF => ?_);clear hK K;refine seq_end ?_;replace hF := hF.kp [3, 5, 7, 8, 9] rfl;refine hK _ _ ?_;clear hK
 obtain ⟨_, f1, _, _, _, f5, _, _⟩ := HL9.out.cells
 have HPL : Hid (l.pillars.length = l.pn) := HLI.out.pillars.1
 refine wp_seq_k (fun KA hKA => ?_);revert hF;refine zrs [4, 4, 4, 1] [3, 5, 8, 9, 79, 80, 81] fun a hF => ?_
 refine wp_block ?_
 refine loop_fr (fun m a' w' => ∃ i : Nat, i + m = l.pn ∧ FrF 95 [] [(3, .pointer (some ⟨gh, 0, none⟩)), (5, .pointer (some ⟨gp, 0, none⟩)), (8, .pointer (some ⟨gv, 0, none⟩)), (9, .func (.func 81) #[] #[.pointer (some ⟨gv, 0, none⟩)]), (79, .slice l.pa l.pn l.pc), (80, .int .i64 l.pn), (81, .int .i64 i)] a' ∧ Hid (Below w.heap.size w w') ∧ Hid (HallIn w' gh h) ∧ Hid (PntIn w' gp p) ∧ Hid (w'.heap[gv]? = some (.cells #[.int .i64 (v2 + (pilS p h.stage l.pillars i : Nat))] 3 (0, 0)))) l.pn ⟨0, by omega, hF, HBB9, HH9, HP9, by simpa [pilS] using HV9⟩ ?_
 clear hF HBB9 HH9 HP9 HL9 HV9 f1 f5
 rintro rk a wr ⟨i, hik, hF, HBB, HH, HP, HV⟩ KB hKB
 have hpi := pil_le p h.stage l.pillars i
 by_cases hlt : i < l.pn
 rotate_left
 ·
  revert hF;refine zrs [5] [3, 5, 8, 9, 79, 80, 81, 82] fun a hF => ?_;refine wp_seq_k (fun K hK => ?_)
  refine cond_no hF rfl ?_
  refine wp_exit ?_
  refine hKA _ _ ?_;clear hKA
  have hie : i = l.pillars.length := by rw [HPL.out]; omega
  rw [← hie] at HVS
  have cv : wr.cell? ⟨gv, 0, none⟩ = some (.int .i64 (v2 + (pilS p h.stage l.pillars i : Nat))) := boxed_cell (j := 0) HV.out rfl
  obtain ⟨vv, hvv⟩ : ∃ v : Int, v2 + (pilS p h.stage l.pillars i : Nat) = v := ⟨_, rfl⟩
  rw [hvv] at cv HVS
  obtain ⟨mm, hmm⟩ : ∃ m : Int, (if 3 < vv then 3 else vv) = m := ⟨_, rfl⟩
  have HMM : Hid (min vv 3 = mm) := by
   show _ = _
   rw [← hmm]
   split <;> omega
  clear hie hvv hpi
  revert hF;refine zrs [4, 4, 2] [6] fun a hF => ?_;refine wp_ret ?_;(try simp only [then_ret, block_ret, goto_ret]);revert hF;refine zq ?_
  exact ⟨by rw [HVS.out, HMM.out]; rfl, HBB.out⟩
 revert hF;refine zrs [5] [3, 5, 8, 9, 79, 80, 81, 82] fun a hF => ?_;refine wp_seq_k (fun K hK => ?_)
 refine cond_yes hF rfl ?_
 refine wp_skip ?_
 refine hK _ _ ?_;clear hK;replace hF := hF.kp [3, 5, 8, 9, 79, 80, 81] rfl
 clear hKA HVS
 have hil : i < l.pillars.length := by rw [HPL.out]; exact hlt
 have hii : (i : Int) < l.pn := by omega
 obtain ⟨b0, o, hpa, d0, d1, d2, d3⟩ := box_at (HLI.out.pillars.below HBB.out) i hlt hil
 have HPN := Lib.hid (pil_next (p := p) (stage := h.stage) hil)
 generalize l.pillars[i] = b at *
 generalize pilS p h.stage l.pillars i = ci at *
 obtain ⟨cn, hcn⟩ : ∃ c, pilS p h.stage l.pillars (i + 1) = c := ⟨_, rfl⟩
 have HCN := Lib.hid hcn
 rw [hcn] at HPN
 clear hcn
 refine seq_cut (fun a' w' => FrF 95 [] [(3, .pointer (some ⟨gh, 0, none⟩)), (5, .pointer (some ⟨gp, 0, none⟩)), (8, .pointer (some ⟨gv, 0, none⟩)), (9, .func (.func 81) #[] #[.pointer (some ⟨gv, 0, none⟩)]), (79, .slice l.pa l.pn l.pc), (80, .int .i64 l.pn), (81, .int .i64 i)] a' ∧ Hid (Below w.heap.size w w') ∧ Hid (HallIn w' gh h) ∧ Hid (PntIn w' gp p) ∧ Hid (w'.heap[gv]? = some (.cells #[.int .i64 (v2 + (cn : Nat))] 3 (0, 0)))) (fun KC hKC => ?_) ?_
 rotate_left
 ·
  clear hF HBB HH HP HV HPN d0 d1 d2 d3 hpa
  rintro a w' ⟨hF, HBB, HH, HP, HV⟩
  have hws : IntKind.i64.wrap ((i : Int) + 1) = ((i + 1 : Nat) : Int) := wrap_succ (by omega)
  revert hF;refine zrg [4, 1] [3, 5, 8, 9, 79, 80, 81] fun a hF => ?_
  exact hKB (l.pn - (i + 1)) _ _ (by omega) ⟨i + 1, by omega, hF, HBB, HH, HP, by rw [HCN.out]; exact HV⟩
 clear hKB hik HCN
 refine wp_block ?_
 refine wp_seq_k (fun K hK => ?_);revert hF;refine zrp [5, 4] [2, 3] fun a hF => ?_;refine seq_one ?_;revert hF;refine qe0 fun a hF => ?_;refine seq_one ?_;revert hF;refine qu2 fun a hF => ?_;refine seq_end ?_;replace hF := hF.kp [3, 5, 8, 9, 14, 79, 80, 81] rfl;refine hK _ _ ?_;clear hK
 clear d0 d1 d2 d3 hpa
 have HBa := Lib.hid (Joins.below_alloc1 wr (.cells #[.int .i64 b.x, .int .i64 b.y, .int .i64 b.x2, .int .i64 b.y2] 59))
 have HX : Hid (BoxIn (wr.alloc (.cells #[.int .i64 b.x, .int .i64 b.y, .int .i64 b.x2, .int .i64 b.y2] 59)) wr.heap.size b) := World.alloc_heap_new wr _
 have HBB2 : Hid (Below w.heap.size w (wr.alloc (.cells #[.int .i64 b.x, .int .i64 b.y, .int .i64 b.x2, .int .i64 b.y2] 59))) := HBB.out.trans (HBa.out.mono HBB.out.size)
 have HH2 := Lib.hid (HH.out.down HBa.out)
 have HP2 := Lib.hid (HP.out.down HBa.out)
 have HV2 := Lib.hid ((HBa.out.block gv (lt_of_block HV.out)).trans HV.out)
 clear HBB HH HP HV HBa
 generalize wr.alloc (.cells #[.int .i64 b.x, .int .i64 b.y, .int .i64 b.x2, .int .i64 b.y2] 59) = w10 at *
 obtain ⟨gx, hgx⟩ : ∃ gx, gx = wr.heap.size := ⟨_, rfl⟩
 rw [← hgx] at hF HX
 clear hgx
 obtain ⟨_, c1, c2, _⟩ := HH2.out.cells
 obtain ⟨e0, e1⟩ := HP2.out.cells
 obtain ⟨x0, x1, x2, x3⟩ := HX.out.cells
 revert hF;refine zrp [1, 4, 4, 4, 4] [5, 6] fun a hF => ?_;revert hF;refine zos fun K hK => ?_
 refine (crosses_any w10 p h.stage b).mono ?_
 rintro e w11 ⟨rfl, hb11⟩
 have HBB3 : Hid (Below w.heap.size w w11) := HBB2.out.trans (hb11.mono HBB2.out.size)
 have HH3 := Lib.hid (HH2.out.down hb11)
 have HP3 := Lib.hid (HP2.out.down hb11)
 have HV3 := Lib.hid ((hb11.block gv (lt_of_block HV2.out)).trans HV2.out)
 clear c1 c2 e0 e1 x0 x1 x2 x3 HX HBB2 HH2 HP2 HV2 hb11
 generalize crossB p h.stage b = cb at *
 refine hK _ _ (fun a hF => ?_);clear hK K;refine seq_one ?_;refine op_callv [_] _ _ rfl rfl hF rfl rfl (by first | assumption | kernel_rfl) ⟨rfl, trivial⟩ (fun K hK => ?_);clear hF
 refine (tick_any w11 gv _ cb HV3.out (by omega) (by omega)).mono ?_
 rintro e w12 ⟨rfl, hv12, hu12⟩
 refine hK _ _ (fun a hF => ?_);clear hK K;refine seq_end ?_;replace hF := hF.kp [3, 5, 8, 9, 79, 80, 81] rfl
 refine hKC _ _ ⟨hF, Upd.below HBB3.out HBB3.out.size hu12 (fun i e => by rw [e]; exact HGV.out), (hu12.block gh (lt_of_block HH3.out) (type_ne HH3.out HV3.out (by decide))).trans HH3.out, (hu12.block gp (lt_of_block HP3.out) (type_ne HP3.out HV3.out (by decide))).trans HP3.out, ?_⟩
 rw [HPN.out]
 show w12.heap[gv]? = _
 rw [hv12]
 cases cb <;> simp [Int.add_assoc]
end Go.Proofs.YtmcdhggnpfhlmaaGreat

namespace Go.Proofs.YtmcdhggnpfhlmaaGreat
open Go.RowKit Go.IntWalk
set_option linter.unusedSimpArgs false
set_option linter.unusedVariables false

/-- The order of places. -/
def lessP (a b : PlaceR) : Bool :=
 if a.level ≠ b.level then decide (a.level < b.level)
 else if a.block ≠ b.block then decide (a.block < b.block)
 else if a.row ≠ b.row then decide (a.row < b.row)
 else decide (a.seat < b.seat)
def PlcIn (w : World) (g : Nat) (x : PlaceR) : Prop := w.heap[g]? = some (.cells #[.int .i64 x.kind, .int .i64 x.level, .int .i64 x.block, .int .i64 x.row, .int .i64 x.seat, .int .i64 x.x, .int .i64 x.y, .int .i64 x.view, .int .i64 x.wth] 52 (0, 0))
theorem PlcIn.cells {w : World} {g : Nat} {x : PlaceR} (h : PlcIn w g x) : w.cell? ⟨g, 0, none⟩ = some (.int .i64 x.kind) ∧ w.cell? ⟨g, 1, none⟩ = some (.int .i64 x.level) ∧ w.cell? ⟨g, 2, none⟩ = some (.int .i64 x.block) ∧ w.cell? ⟨g, 3, none⟩ = some (.int .i64 x.row) ∧ w.cell? ⟨g, 4, none⟩ = some (.int .i64 x.seat) ∧ w.cell? ⟨g, 5, none⟩ = some (.int .i64 x.x) ∧ w.cell? ⟨g, 6, none⟩ = some (.int .i64 x.y) ∧ w.cell? ⟨g, 7, none⟩ = some (.int .i64 x.view) ∧ w.cell? ⟨g, 8, none⟩ = some (.int .i64 x.wth) :=
 ⟨boxed_cell (j := 0) h rfl, boxed_cell (j := 1) h rfl, boxed_cell (j := 2) h rfl, boxed_cell (j := 3) h rfl, boxed_cell (j := 4) h rfl, boxed_cell (j := 5) h rfl, boxed_cell (j := 6) h rfl, boxed_cell (j := 7) h rfl, boxed_cell (j := 8) h rfl⟩
theorem PlcIn.down {w w' : World} {g : Nat} {x : PlaceR} (h : PlcIn w g x) (hb : Below w.heap.size w w') : PlcIn w' g x := (hb.block g (lt_of_block h)).trans h

end Go.Proofs.YtmcdhggnpfhlmaaGreat
