/- hall: the reference: block, area, level. -/
import Derived.Test.YtmcdhggnpfhlmaaGreatQHMR04
import Derived.Test.YtmcdhggnpfhlmaaGreatQHMR15
import Derived.Test.YtmcdhggnpfhlmaaGreatQHMR27
import Derived.Test.YtmcdhggnpfhlmaaGreatQHMR28

set_option linter.unusedVariables false
set_option linter.unusedSimpArgs false
namespace Go.Proofs.YtmcdhggnpfhlmaaGreat
open Go.RowKit Go.IntWalk
set_option linter.unusedSimpArgs false
set_option linter.unusedVariables false

/-- The one fault, if there is one. -/
def hdF (l : List FaultR) : FaultR := l.headD ⟨0, 0, 0⟩

structure RbS (w0 w : World) (gx : Nat) (x : LevR) (gr gy : Nat) (y : BlkR) : Prop where
 below : Below w0.heap.size w0 w
 arg : LevIn w gx x
 res : FltIn w gr ⟨0, 0, 0⟩
 base : w0.heap.size ≤ gr
 var : BlkIn w gy y
theorem RbS.down {w0 w w' : World} {gx gr gy : Nat} {x : LevR} {y : BlkR} (h : RbS w0 w gx x gr gy y) (hb : Below w.heap.size w w') : RbS w0 w' gx x gr gy y :=
 ⟨h.below.trans (hb.mono h.below.size), h.arg.down hb, (hb.block gr (lt_of_block h.res)).trans h.res, h.base, h.var.down hb⟩
structure RaS (w0 w : World) (gx : Nat) (x : LevR) (gr gy : Nat) (y : AreaR) : Prop where
 below : Below w0.heap.size w0 w
 arg : LevIn w gx x
 res : FltIn w gr ⟨0, 0, 0⟩
 base : w0.heap.size ≤ gr
 var : AreaIn w gy y
theorem RaS.down {w0 w w' : World} {gx gr gy : Nat} {x : LevR} {y : AreaR} (h : RaS w0 w gx x gr gy y) (hb : Below w.heap.size w w') : RaS w0 w' gx x gr gy y :=
 ⟨h.below.trans (hb.mono h.below.size), h.arg.down hb, (hb.block gr (lt_of_block h.res)).trans h.res, h.base, h.var.down hb⟩
structure RlS (w0 w : World) (gx : Nat) (x : HallR) (gr gy : Nat) (y : LevR) : Prop where
 below : Below w0.heap.size w0 w
 arg : HallIn w gx x
 res : FltIn w gr ⟨0, 0, 0⟩
 base : w0.heap.size ≤ gr
 var : LevIn w gy y
theorem RlS.down {w0 w w' : World} {gx gr gy : Nat} {x : HallR} {y : LevR} (h : RlS w0 w gx x gr gy y) (hb : Below w.heap.size w w') : RlS w0 w' gx x gr gy y :=
 ⟨h.below.trans (hb.mono h.below.size), h.arg.down hb, (hb.block gr (lt_of_block h.res)).trans h.res, h.base, h.var.down hb⟩

set_option maxRecDepth 100000 in
set_option maxHeartbeats 16000000 in
theorem rblock_any (w : World) (l : LevR) (n : Nat) (hl : l.In w) (hn : n < l.blocks.length) :
  Calls Tryz.prog 85 #[.agg #[.string (bs l.name), .int .i64 l.height, .slice l.ba l.bn l.bc, .slice l.aa l.an l.ac, .slice l.sa l.sn l.sc, .slice l.pa l.pn l.pc, .slice l.da l.dn l.dc, .int .i64 l.at'], .int .i64 (n : Int)] w fun e w' => e = .returned (.agg #[.int .i64 (hdF (blockFault l.blocks n l.blocks[n])).err, .int .i64 (hdF (blockFault l.blocks n l.blocks[n])).at', .int .i64 (hdF (blockFault l.blocks n l.blocks[n])).other]) ∧ Below w.heap.size w w' := by
 have HL := Lib.hid hl
 have hbl := hl.blocks.1
 have hbn := hl.bn
 have HBL := Lib.hid hbl
 have hn1 : n < l.bn := by omega
 have hni : (n : Int) < (l.bn : Nat) := by omega
 clear hl hbl
 refine enter_fr (N := 43) [.agg #[.string (bs l.name), .int .i64 l.height, .slice l.ba l.bn l.bc, .slice l.aa l.an l.ac, .slice l.sa l.sn l.sc, .slice l.pa l.pn l.pc, .slice l.da l.dn l.dc, .int .i64 l.at'], .int .i64 (n : Int)] (Tryz.func85) rfl Tryz.ntmps85 (by rfl) (fun a hF => ?_);replace hF := hF.kp [0, 1] rfl;refine wp_seq_k (fun K hK => ?_);refine region_seq (l := [0, 1]) (by kernel_rfl) ?_;refine seq_one ?_;revert hF;refine qe1 fun a hF => ?_
 have HX : Hid (LevIn (w.alloc (.cells #[.string (bs l.name), .int .i64 l.height, .slice l.ba l.bn l.bc, .slice l.aa l.an l.ac, .slice l.sa l.sn l.sc, .slice l.pa l.pn l.pc, .slice l.da l.dn l.dc, .int .i64 l.at'] 32)) w.heap.size l) := World.alloc_heap_new w _
 have HB1 : Hid (Below w.heap.size w (w.alloc (.cells #[.string (bs l.name), .int .i64 l.height, .slice l.ba l.bn l.bc, .slice l.aa l.an l.ac, .slice l.sa l.sn l.sc, .slice l.pa l.pn l.pc, .slice l.da l.dn l.dc, .int .i64 l.at'] 32))) := Joins.below_alloc1 w _
 generalize w.alloc (.cells #[.string (bs l.name), .int .i64 l.height, .slice l.ba l.bn l.bc, .slice l.aa l.an l.ac, .slice l.sa l.sn l.sc, .slice l.pa l.pn l.pc, .slice l.da l.dn l.dc, .int .i64 l.at'] 32) = w1 at *
 obtain ⟨gx, hg⟩ : ∃ g, g = w.heap.size := ⟨_, rfl⟩
 rw [← hg] at hF HX
 clear hg
 refine seq_one ?_;revert hF;refine qe0 fun a hF => ?_
 have HR2 : Hid (FltIn (w1.alloc (.cells #[.int .i64 0, .int .i64 0, .int .i64 0] 55)) w1.heap.size ⟨0, 0, 0⟩) := World.alloc_heap_new w1 _
 have hb : Below w1.heap.size w1 (w1.alloc (.cells #[.int .i64 0, .int .i64 0, .int .i64 0] 55)) := Joins.below_alloc1 w1 _
 have HX2 := Lib.hid (HX.out.down hb)
 have HB2 : Hid (Below w.heap.size w (w1.alloc (.cells #[.int .i64 0, .int .i64 0, .int .i64 0] 55))) := HB1.out.trans (hb.mono HB1.out.size)
 have HGR : Hid (w.heap.size ≤ w1.heap.size) := HB1.out.size
 clear HX HB1 hb
 generalize w1.alloc (.cells #[.int .i64 0, .int .i64 0, .int .i64 0] 55) = w2 at *
 obtain ⟨gr, hg⟩ : ∃ g, g = w1.heap.size := ⟨_, rfl⟩
 rw [← hg] at hF HR2 HGR
 clear hg
 refine seq_end ?_;replace hF := hF.kp [1, 2, 4] rfl;refine hK _ _ ?_;clear hK
 obtain ⟨l0, l1, l2, l3, l4, l5, l6, l7⟩ := HX2.out.cells
 obtain ⟨bB, oB, hbb, b0, b1, b2⟩ := blk_at (HL.out.below HB2.out).blocks n hn1 hn
 rw [hbb] at l2
 obtain ⟨b, hb⟩ : ∃ b, b = l.blocks[n] := ⟨_, rfl⟩
 have HBE := Lib.hid hb
 rw [← hb] at b0 b1 b2
 clear hb hbb
 refine wp_seq_k (fun K hK => ?_);revert hF;refine zrp [4, 4, 1, 5, 4] [5, 6] fun a hF => ?_;refine seq_one ?_;revert hF;refine qe0 fun a hF => ?_
 obtain ⟨wa, gy, hwa, hgv, hSV, HTW⟩ := var_new w2 57 #[.string ⟨#[]⟩, .slice none 0 0, .int .i64 0] #[.string (bs b.name), .slice b.ra b.rn b.rc, .int .i64 b.at'] (by kernel_rfl) rfl (by simp [Value.oneCell'])
 rw [hwa]
 rw [← hgv] at hF
 clear hwa hgv
 refine seq_one ?_;refine op_storev rfl rfl hF rfl rfl rfl rfl hSV ?_;clear hF;refine fun a hF => ?_
 clear hSV
 refine hK _ _ ?_;clear hK
 generalize wa.setRow gy #[.string (bs b.name), .slice b.ra b.rn b.rc, .int .i64 b.at'] = w3 at *
 have HS : Hid (RbS w w3 gx l gr gy b) := ⟨HB2.out.trans (HTW.out.1.mono HB2.out.size), HX2.out.down HTW.out.1, (HTW.out.1.block gr (lt_of_block HR2.out)).trans HR2.out, HGR.out, HTW.out.2.1⟩
 clear HTW HX2 HR2 HB2 HGR l0 l1 l2 l3 l4 l5 l6 l7 b0 b1 b2
 have HLO : Hid (∀ j (hj : j < l.blocks.length), j < 0 → decide (l.blocks[j].name = b.name) = false) := fun j _ h => by omega
 rw [← HBE.out]
 refine seq_cut (fun a' w' => FrF 43 [] [(4, .pointer (some ⟨gr, 0, none⟩)), (5, .pointer (some ⟨gy, 0, none⟩))] a' ∧ Hid (RbS w w' gx l gr gy b) ∧ Hid (∀ j (hj : j < l.blocks.length), j < n → decide (l.blocks[j].name = b.name) = false)) (fun KA hKA => ?_) ?_
 ·
  skip
  revert hF;refine zrs [2] [1, 2, 4, 5, 6] fun a hF => ?_
  refine wp_block ?_
  refine loop_fr (fun q a' w' => ∃ i : Nat, i + q = n ∧ FrF 43 [] [(1, .int .i64 (n : Int)), (2, .pointer (some ⟨gx, 0, none⟩)), (4, .pointer (some ⟨gr, 0, none⟩)), (5, .pointer (some ⟨gy, 0, none⟩)), (6, .int .i64 i)] a' ∧ Hid (RbS w w' gx l gr gy b) ∧ Hid (∀ j (hj : j < l.blocks.length), j < i → decide (l.blocks[j].name = b.name) = false)) n ⟨0, by omega, hF, HS, HLO⟩ ?_
  clear hF HS HLO
  rintro rk a wr ⟨i, hik, hF, HS, HLO⟩ KB hKB
  refine wp_seq_k (fun K hK => ?_)
  by_cases hlt : i < n
  rotate_left
  ·
   have hlti : ¬ (i : Int) < (n : Int) := by omega
   revert hF;refine zrs [1, 1, 5] [1, 2, 4, 5, 6, 14] fun a hF => ?_
   refine cond_no hF rfl ?_
   refine wp_exit ?_
   have hie : i = n := by omega
   rw [hie] at HLO
   exact hKA _ _ ⟨hF.sub ⟨rfl, rfl, trivial⟩, HS, HLO⟩
  have hlti : (i : Int) < (n : Int) := by omega
  revert hF;refine zrs [1, 1, 5] [1, 2, 4, 5, 6, 14] fun a hF => ?_
  refine cond_yes hF rfl ?_
  refine wp_skip ?_
  refine hK _ _ ?_;clear hK;replace hF := hF.kp [1, 2, 4, 5, 6] rfl
  clear hKA
  have hil : i < l.blocks.length := by omega
  have hi1 : i < l.bn := by omega
  have hii : (i : Int) < (l.bn : Nat) := by omega
  have HSd : Hid (RbS w wr.drew gx l gr gy b) := HS.out.down (below_d (Below.refl _ _))
  obtain ⟨l0, l1, l2, l3, l4, l5, l6, l7⟩ := HSd.out.arg.cells
  obtain ⟨q0, q1, q2⟩ := HSd.out.var.cells
  obtain ⟨bB, oB, hbb, b0, b1, b2⟩ := blk_at (HL.out.below HSd.out.below).blocks i hi1 hil
  rw [hbb] at l2
  obtain ⟨c, hc⟩ : ∃ c, c = l.blocks[i] := ⟨_, rfl⟩
  have HCE := Lib.hid hc
  rw [← hc] at b0 b1 b2
  clear hc hbb HS
  have hse := bs_beq c.name b.name
  refine wp_seq_k (fun KC hKC => ?_)
  refine wp_block ?_
  refine wp_seq_k (fun K hK => ?_)
  by_cases hnm : c.name = b.name
  ·
   have hdt : decide (c.name = b.name) = true := by simp [hnm]
   rw [hdt] at hse
   have HE : Hid (hdF (blockFault l.blocks n b) = ⟨9, b.at', c.at'⟩) := by
    have h1 : l.blocks.findIdx (fun x => decide (x.name = b.name)) = i := first_at hil (by rw [← HCE.out]; exact hdt) HLO.out
    show _ = _
    unfold blockFault
    rw [h1]
    dsimp only
    rw [if_pos hlt, List.getElem?_eq_getElem hil, ← HCE.out]
    rfl
   refine region_any (by kernel_rfl) ?_;revert hF;refine zrb (fuel := 0) [9, 52, 65, 106, 137, 180, 201, 244, 266] [1, 2, 4, 5, 6, 25] fun a hF => ?_
   clear hse hnm hdt l0 l1 l2 l3 l4 l5 l6 l7 q0 q1 q2 b0 b1 b2
   refine hK _ _ ?_;clear hK
   refine cond_yes hF rfl ?_
   have HSe : Hid (RbS w wr.drew.drew gx l gr gy b) := HSd.out.down (below_d (Below.refl _ _))
   obtain ⟨l0, l1, l2, l3, l4, l5, l6, l7⟩ := HSe.out.arg.cells
   obtain ⟨q0, q1, q2⟩ := HSe.out.var.cells
   obtain ⟨bB, oB, hbb, b0, b1, b2⟩ := blk_at (HL.out.below HSe.out.below).blocks i hi1 hil
   rw [hbb] at l2
   rw [← HCE.out] at b0 b1 b2
   clear hbb HSd
   refine wp_seq_k (fun K hK => ?_);refine region_any (by kernel_rfl) ?_;revert hF;refine zra (fuel := 2) [9, 52, 73, 116, 129, 170, 201, 244] [8, 9] fun a hF => ?_;refine any_one (n := 8) (fuel := 1) (by kernel_rfl) ?_;revert hF;refine zoc fun K hK => ?_
   refine (rfault_any _ ⟨9, b.at', c.at'⟩).mono ?_
   rintro e wf ⟨rfl, hbf⟩
   have HSf := Lib.hid (HSe.out.down hbf)
   clear hbf HSe l0 l1 l2 l3 l4 l5 l6 l7 q0 q1 q2 b0 b1 b2
   obtain ⟨wz, hwz, hSV, hlv, HBf⟩ := flt_put 9 b.at' c.at' HSf.out.res HSf.out.below HSf.out.base
   clear HSf
   refine hK _ _ (fun a hF => ?_);clear hK K;refine any_one (n := 9) (fuel := 0) (by kernel_rfl) ?_;refine op_storev rfl rfl hF rfl rfl rfl rfl hSV ?_;clear hF;refine fun a hF => ?_;refine any_end (by kernel_rfl) ?_;replace hF := hF.kp [4] rfl
   clear hSV hwz
   refine hK _ _ ?_;clear hK
   refine wp_ret ?_
   (try simp only [then_ret, block_ret, goto_ret])
   exact ret_cell (fn := Tryz.f85) rfl hF rfl hlv ⟨by rw [HE.out], HBf.out⟩
  have hdt : decide (c.name = b.name) = false := by simp [hnm]
  rw [hdt] at hse
  have HLO1 : Hid (∀ j (hj : j < l.blocks.length), j < i + 1 → decide (l.blocks[j].name = b.name) = false) := fun j hj hlt => by
   by_cases e : j = i
   ·
    subst e
    rw [← HCE.out]
    exact hdt
   ·
    exact HLO.out j hj (by omega)
  refine region_any (by kernel_rfl) ?_;revert hF;refine zrb (fuel := 0) [9, 52, 65, 106, 137, 180, 201, 244, 266] [1, 2, 4, 5, 6, 25] fun a hF => ?_
  clear hse hnm hdt l0 l1 l2 l3 l4 l5 l6 l7 q0 q1 q2 b0 b1 b2
  refine hK _ _ ?_;clear hK
  refine cond_no hF rfl ?_
  refine wp_skip ?_
  refine hKC _ _ ?_;clear hKC
  have hws : IntKind.i64.wrap ((i : Int) + 1) = ((i + 1 : Nat) : Int) := wrap_succ (by omega)
  revert hF;refine zrg [1, 4, 2] [1, 2, 4, 5, 6] fun a hF => ?_
  exact hKB (n - (i + 1)) _ _ (by omega) ⟨i + 1, by omega, hF, HSd, HLO1⟩
 clear hF HS HLO
 rintro a w4 ⟨hF, HS, HLO⟩
 obtain ⟨q0, q1, q2⟩ := HS.out.var.cells
 have HFI : Hid (¬ l.blocks.findIdx (fun x => decide (x.name = b.name)) < n) := by
  have := first_none (xs := l.blocks) (p := fun x => decide (x.name = b.name)) (n := n) (by omega) HLO.out
  show ¬ _
  omega
 have HRL : Hid (b.rows.length = b.rn) := by
  have h1 := HL.out.blk l.blocks[n] (List.getElem_mem hn)
  rw [← HBE.out] at h1
  exact h1.1.1
 refine wp_seq_k (fun K hK => ?_)
 by_cases hrn : 60 < b.rn
 ·
  have hrni : (60 : Int) < (b.rn : Nat) := by omega
  have HE : Hid (hdF (blockFault l.blocks n b) = ⟨3, b.at', -1⟩) := by
   show _ = _
   unfold blockFault
   dsimp only
   rw [if_neg HFI.out, if_pos (by rw [HRL.out]; exact hrn)]
   rfl
  revert hF;refine zrs [4, 4, 4, 4] [4, 5, 38] fun a hF => ?_
  refine cond_yes hF rfl ?_
  refine wp_seq_k (fun K hK => ?_);revert hF;refine zrp [4, 4] [2, 3] fun a hF => ?_;revert hF;refine zos fun K hK => ?_
  refine (rfault_any w4 ⟨3, b.at', (-1)⟩).mono ?_
  rintro e wf ⟨rfl, hbf⟩
  have HSf := Lib.hid (HS.out.down hbf)
  clear hbf HS q0 q1 q2
  obtain ⟨wz, hwz, hSV, hlv, HBf⟩ := flt_put 3 b.at' (-1) HSf.out.res HSf.out.below HSf.out.base
  clear HSf
  refine hK _ _ (fun a hF => ?_);clear hK K;refine seq_one ?_;refine op_storev rfl rfl hF rfl rfl rfl rfl hSV ?_;clear hF;refine fun a hF => ?_;refine seq_end ?_;replace hF := hF.kp [4] rfl
  clear hSV hwz
  refine hK _ _ ?_;clear hK
  refine wp_ret ?_
  (try simp only [then_ret, block_ret, goto_ret])
  exact ret_cell (fn := Tryz.f85) rfl hF rfl hlv ⟨by rw [HE.out], HBf.out⟩
 have hrni : ¬ (60 : Int) < (b.rn : Nat) := by omega
 have HE : Hid (hdF (blockFault l.blocks n b) = ⟨0, 0, 0⟩) := by
  show _ = _
  unfold blockFault
  dsimp only
  rw [if_neg HFI.out, if_neg (by rw [HRL.out]; exact hrn)]
  rfl
 revert hF;refine zrs [4, 4, 4, 4] [4, 5, 38] fun a hF => ?_
 refine cond_no hF rfl ?_
 refine wp_skip ?_
 refine hK _ _ ?_;clear hK;refine wp_seq_k (fun K hK => ?_);refine region_seq (l := [0, 1]) (by kernel_rfl) ?_;revert hF;refine zos fun K hK => ?_
 refine (rnone_any w4).mono ?_
 rintro e wf ⟨rfl, hbf⟩
 have HSf := Lib.hid (HS.out.down hbf)
 clear hbf HS q0 q1 q2
 obtain ⟨wz, hwz, hSV, hlv, HBf⟩ := flt_put 0 0 0 HSf.out.res HSf.out.below HSf.out.base
 clear HSf
 refine hK _ _ (fun a hF => ?_);clear hK K;refine seq_one ?_;refine op_storev rfl rfl hF rfl rfl rfl rfl hSV ?_;clear hF;refine fun a hF => ?_;refine seq_end ?_;replace hF := hF.kp [4] rfl
 clear hSV hwz
 refine hK _ _ ?_;clear hK
 refine wp_ret ?_
 (try simp only [then_ret, block_ret, goto_ret])
 exact ret_cell (fn := Tryz.f85) rfl hF rfl hlv ⟨by rw [HE.out], HBf.out⟩

set_option maxRecDepth 100000 in
set_option maxHeartbeats 16000000 in
theorem rarea_any (w : World) (l : LevR) (n : Nat) (hl : l.In w) (hn : n < l.areas.length) :
  Calls Tryz.prog 87 #[.agg #[.string (bs l.name), .int .i64 l.height, .slice l.ba l.bn l.bc, .slice l.aa l.an l.ac, .slice l.sa l.sn l.sc, .slice l.pa l.pn l.pc, .slice l.da l.dn l.dc, .int .i64 l.at'], .int .i64 (n : Int)] w fun e w' => e = .returned (.agg #[.int .i64 (hdF (areaFault l n l.areas[n])).err, .int .i64 (hdF (areaFault l n l.areas[n])).at', .int .i64 (hdF (areaFault l n l.areas[n])).other]) ∧ Below w.heap.size w w' := by
 have HL := Lib.hid hl
 have hbn := hl.bn
 have HBL := Lib.hid hl.blocks.1
 have HAL := Lib.hid hl.areas.1
 have hn1 : n < l.an := by have := hl.areas.1; omega
 have han := hl.an
 have hni : (n : Int) < (l.an : Nat) := by omega
 clear hl
 refine enter_fr (N := 79) [.agg #[.string (bs l.name), .int .i64 l.height, .slice l.ba l.bn l.bc, .slice l.aa l.an l.ac, .slice l.sa l.sn l.sc, .slice l.pa l.pn l.pc, .slice l.da l.dn l.dc, .int .i64 l.at'], .int .i64 (n : Int)] (Tryz.func87) rfl Tryz.ntmps87 (by rfl) (fun a hF => ?_);replace hF := hF.kp [0, 1] rfl;refine wp_seq_k (fun K hK => ?_);refine region_seq (l := [0, 1]) (by kernel_rfl) ?_;refine seq_one ?_;revert hF;refine qe1 fun a hF => ?_
 have HX : Hid (LevIn (w.alloc (.cells #[.string (bs l.name), .int .i64 l.height, .slice l.ba l.bn l.bc, .slice l.aa l.an l.ac, .slice l.sa l.sn l.sc, .slice l.pa l.pn l.pc, .slice l.da l.dn l.dc, .int .i64 l.at'] 32)) w.heap.size l) := World.alloc_heap_new w _
 have HB1 : Hid (Below w.heap.size w (w.alloc (.cells #[.string (bs l.name), .int .i64 l.height, .slice l.ba l.bn l.bc, .slice l.aa l.an l.ac, .slice l.sa l.sn l.sc, .slice l.pa l.pn l.pc, .slice l.da l.dn l.dc, .int .i64 l.at'] 32))) := Joins.below_alloc1 w _
 generalize w.alloc (.cells #[.string (bs l.name), .int .i64 l.height, .slice l.ba l.bn l.bc, .slice l.aa l.an l.ac, .slice l.sa l.sn l.sc, .slice l.pa l.pn l.pc, .slice l.da l.dn l.dc, .int .i64 l.at'] 32) = w1 at *
 obtain ⟨gx, hg⟩ : ∃ g, g = w.heap.size := ⟨_, rfl⟩
 rw [← hg] at hF HX
 clear hg
 refine seq_one ?_;revert hF;refine qe0 fun a hF => ?_
 have HR2 : Hid (FltIn (w1.alloc (.cells #[.int .i64 0, .int .i64 0, .int .i64 0] 55)) w1.heap.size ⟨0, 0, 0⟩) := World.alloc_heap_new w1 _
 have hb : Below w1.heap.size w1 (w1.alloc (.cells #[.int .i64 0, .int .i64 0, .int .i64 0] 55)) := Joins.below_alloc1 w1 _
 have HX2 := Lib.hid (HX.out.down hb)
 have HB2 : Hid (Below w.heap.size w (w1.alloc (.cells #[.int .i64 0, .int .i64 0, .int .i64 0] 55))) := HB1.out.trans (hb.mono HB1.out.size)
 have HGR : Hid (w.heap.size ≤ w1.heap.size) := HB1.out.size
 clear HX HB1 hb
 generalize w1.alloc (.cells #[.int .i64 0, .int .i64 0, .int .i64 0] 55) = w2 at *
 obtain ⟨gr, hg⟩ : ∃ g, g = w1.heap.size := ⟨_, rfl⟩
 rw [← hg] at hF HR2 HGR
 clear hg
 refine seq_end ?_;replace hF := hF.kp [1, 2, 4] rfl;refine hK _ _ ?_;clear hK
 obtain ⟨l0, l1, l2, l3, l4, l5, l6, l7⟩ := HX2.out.cells
 obtain ⟨bB, oB, hbb, b0, b1, b2, b3, b4, b5, b6⟩ := area_at (HL.out.below HB2.out).areas n hn1 hn
 rw [hbb] at l3
 obtain ⟨b, hb⟩ : ∃ b, b = l.areas[n] := ⟨_, rfl⟩
 have HBE := Lib.hid hb
 rw [← hb] at b0 b1 b2 b3 b4 b5 b6
 clear hb hbb
 refine wp_seq_k (fun K hK => ?_);revert hF;refine zrp [4, 4, 1, 5, 4] [5, 6] fun a hF => ?_;refine seq_one ?_;revert hF;refine qe0 fun a hF => ?_
 obtain ⟨wa, gy, hwa, hgv, hSV, HTW⟩ := var_new w2 61 #[.string ⟨#[]⟩, .int .i64 0, .int .i64 0, .int .i64 0, .int .i64 0, .int .i64 0, .int .i64 0] #[.string (bs b.name), .int .i64 b.box.x, .int .i64 b.box.y, .int .i64 b.box.x2, .int .i64 b.box.y2, .int .i64 b.holds, .int .i64 b.at'] (by kernel_rfl) rfl (by simp [Value.oneCell'])
 rw [hwa]
 rw [← hgv] at hF
 clear hwa hgv
 refine seq_one ?_;refine op_storev rfl rfl hF rfl rfl rfl rfl hSV ?_;clear hF;refine fun a hF => ?_
 clear hSV
 refine hK _ _ ?_;clear hK
 generalize wa.setRow gy #[.string (bs b.name), .int .i64 b.box.x, .int .i64 b.box.y, .int .i64 b.box.x2, .int .i64 b.box.y2, .int .i64 b.holds, .int .i64 b.at'] = w3 at *
 have HS : Hid (RaS w w3 gx l gr gy b) := ⟨HB2.out.trans (HTW.out.1.mono HB2.out.size), HX2.out.down HTW.out.1, (HTW.out.1.block gr (lt_of_block HR2.out)).trans HR2.out, HGR.out, HTW.out.2.1⟩
 clear HTW HX2 HR2 HB2 HGR l0 l1 l2 l3 l4 l5 l6 l7 b0 b1 b2 b3 b4 b5 b6
 rw [← HBE.out]
 have HLO : Hid (∀ j (hj : j < l.blocks.length), j < 0 → decide (l.blocks[j].name = b.name) = false) := fun j _ h => by omega
 refine seq_cut (fun a' w' => FrF 79 [] [(1, .int .i64 (n : Int)), (2, .pointer (some ⟨gx, 0, none⟩)), (4, .pointer (some ⟨gr, 0, none⟩)), (5, .pointer (some ⟨gy, 0, none⟩))] a' ∧ Hid (RaS w w' gx l gr gy b) ∧ Hid (∀ j (hj : j < l.blocks.length), j < l.bn → decide (l.blocks[j].name = b.name) = false)) (fun KA hKA => ?_) ?_
 ·
  skip
  revert hF;refine zrs [2] [1, 2, 4, 5, 6] fun a hF => ?_
  refine wp_block ?_
  refine loop_fr (fun q a' w' => ∃ i : Nat, i + q = l.bn ∧ FrF 79 [] [(1, .int .i64 (n : Int)), (2, .pointer (some ⟨gx, 0, none⟩)), (4, .pointer (some ⟨gr, 0, none⟩)), (5, .pointer (some ⟨gy, 0, none⟩)), (6, .int .i64 i)] a' ∧ Hid (RaS w w' gx l gr gy b) ∧ Hid (∀ j (hj : j < l.blocks.length), j < i → decide (l.blocks[j].name = b.name) = false)) l.bn ⟨0, by omega, hF, HS, HLO⟩ ?_
  clear hF HS HLO
  rintro rk a wr ⟨i, hik, hF, HS, HLO⟩ KB hKB
  refine wp_seq_k (fun K hK => ?_)
  obtain ⟨l0, l1, l2, l3, l4, l5, l6, l7⟩ := HS.out.arg.cells
  by_cases hlt : i < l.bn
  rotate_left
  ·
   have hlti : ¬ (i : Int) < (l.bn : Nat) := by omega
   revert hF;refine zrs [1, 4, 4, 4, 5] [1, 2, 4, 5, 6, 17] fun a hF => ?_
   clear l0 l1 l2 l3 l4 l5 l6 l7
   refine cond_no hF rfl ?_
   refine wp_exit ?_
   have hie : i = l.bn := by omega
   rw [hie] at HLO
   exact hKA _ _ ⟨hF.sub ⟨rfl, rfl, rfl, rfl, trivial⟩, HS, HLO⟩
  have hlti : (i : Int) < (l.bn : Nat) := by omega
  revert hF;refine zrs [1, 4, 4, 4, 5] [1, 2, 4, 5, 6, 17] fun a hF => ?_
  clear l0 l1 l2 l3 l4 l5 l6 l7
  refine cond_yes hF rfl ?_
  refine wp_skip ?_
  refine hK _ _ ?_;clear hK;replace hF := hF.kp [1, 2, 4, 5, 6] rfl
  clear hKA
  have hil : i < l.blocks.length := by rw [HBL.out]; exact hlt
  have HSd : Hid (RaS w wr.drew gx l gr gy b) := HS.out.down (below_d (Below.refl _ _))
  obtain ⟨l0, l1, l2, l3, l4, l5, l6, l7⟩ := HSd.out.arg.cells
  obtain ⟨q0, q1, q2, q3, q4, q5, q6⟩ := HSd.out.var.cells
  obtain ⟨bB, oB, hbb, b0, b1, b2⟩ := blk_at (HL.out.below HSd.out.below).blocks i hlt hil
  rw [hbb] at l2
  obtain ⟨c, hc⟩ : ∃ c, c = l.blocks[i] := ⟨_, rfl⟩
  have HCE := Lib.hid hc
  rw [← hc] at b0 b1 b2
  clear hc hbb HS
  have hse := bs_beq c.name b.name
  refine wp_seq_k (fun KC hKC => ?_)
  refine wp_block ?_
  refine wp_seq_k (fun K hK => ?_)
  by_cases hnm : c.name = b.name
  ·
   have hdt : decide (c.name = b.name) = true := by simp [hnm]
   rw [hdt] at hse
   have HE : Hid (hdF (areaFault l n b) = ⟨9, b.at', c.at'⟩) := by
    have h1 : l.blocks.findIdx (fun x => decide (x.name = b.name)) = i := first_at hil (by rw [← HCE.out]; exact hdt) HLO.out
    show _ = _
    unfold areaFault
    rw [h1]
    dsimp only
    rw [if_pos hil, List.getElem?_eq_getElem hil, ← HCE.out]
    rfl
   refine region_any (by kernel_rfl) ?_;revert hF;refine zrb (fuel := 0) [9, 52, 65, 106, 137, 180, 201, 244, 266] [1, 2, 4, 5, 6, 28] fun a hF => ?_
   clear hse hnm hdt l0 l1 l2 l3 l4 l5 l6 l7 q0 q1 q2 q3 q4 q5 q6 b0 b1 b2
   refine hK _ _ ?_;clear hK
   refine cond_yes hF rfl ?_
   have HSe : Hid (RaS w wr.drew.drew gx l gr gy b) := HSd.out.down (below_d (Below.refl _ _))
   obtain ⟨l0, l1, l2, l3, l4, l5, l6, l7⟩ := HSe.out.arg.cells
   obtain ⟨q0, q1, q2, q3, q4, q5, q6⟩ := HSe.out.var.cells
   obtain ⟨bB, oB, hbb, b0, b1, b2⟩ := blk_at (HL.out.below HSe.out.below).blocks i hlt hil
   rw [hbb] at l2
   rw [← HCE.out] at b0 b1 b2
   clear hbb HSd
   refine wp_seq_k (fun K hK => ?_);refine region_any (by kernel_rfl) ?_;revert hF;refine zra (fuel := 2) [9, 52, 73, 116, 129, 170, 201, 244] [8, 9] fun a hF => ?_;refine any_one (n := 8) (fuel := 1) (by kernel_rfl) ?_;revert hF;refine zoc fun K hK => ?_
   refine (rfault_any _ ⟨9, b.at', c.at'⟩).mono ?_
   rintro e wf ⟨rfl, hbf⟩
   have HSf := Lib.hid (HSe.out.down hbf)
   clear hbf HSe l0 l1 l2 l3 l4 l5 l6 l7 q0 q1 q2 q3 q4 q5 q6 b0 b1 b2
   obtain ⟨wz, hwz, hSV, hlv, HBf⟩ := flt_put 9 b.at' c.at' HSf.out.res HSf.out.below HSf.out.base
   clear HSf
   refine hK _ _ (fun a hF => ?_);clear hK K;refine any_one (n := 9) (fuel := 0) (by kernel_rfl) ?_;refine op_storev rfl rfl hF rfl rfl rfl rfl hSV ?_;clear hF;refine fun a hF => ?_;refine any_end (by kernel_rfl) ?_;replace hF := hF.kp [4] rfl
   clear hSV hwz
   refine hK _ _ ?_;clear hK
   refine wp_ret ?_
   (try simp only [then_ret, block_ret, goto_ret])
   exact ret_cell (fn := Tryz.f87) rfl hF rfl hlv ⟨by rw [HE.out], HBf.out⟩
  have hdt : decide (c.name = b.name) = false := by simp [hnm]
  rw [hdt] at hse
  have HLO1 : Hid (∀ j (hj : j < l.blocks.length), j < i + 1 → decide (l.blocks[j].name = b.name) = false) := fun j hj hlt => by
   by_cases e : j = i
   ·
    subst e
    rw [← HCE.out]
    exact hdt
   ·
    exact HLO.out j hj (by omega)
  refine region_any (by kernel_rfl) ?_;revert hF;refine zrb (fuel := 0) [9, 52, 65, 106, 137, 180, 201, 244, 266] [1, 2, 4, 5, 6, 28] fun a hF => ?_
  clear hse hnm hdt l0 l1 l2 l3 l4 l5 l6 l7 q0 q1 q2 q3 q4 q5 q6 b0 b1 b2
  refine hK _ _ ?_;clear hK
  refine cond_no hF rfl ?_
  refine wp_skip ?_
  refine hKC _ _ ?_;clear hKC
  have hws : IntKind.i64.wrap ((i : Int) + 1) = ((i + 1 : Nat) : Int) := wrap_succ (by omega)
  revert hF;refine zrg [1, 4, 2] [1, 2, 4, 5, 6] fun a hF => ?_
  exact hKB (l.bn - (i + 1)) _ _ (by omega) ⟨i + 1, by omega, hF, HSd, HLO1⟩
 clear hF HS HLO
 rintro a w4 ⟨hF, HS, HLB⟩
 have HFB : Hid (¬ l.blocks.findIdx (fun x => decide (x.name = b.name)) < l.blocks.length) := by
  have := first_none (xs := l.blocks) (p := fun x => decide (x.name = b.name)) (n := l.blocks.length) (Nat.le_refl _) (fun j hj _ => HLB.out j hj (by rw [← HBL.out]; exact hj))
  show ¬ _
  omega
 have HLO : Hid (∀ j (hj : j < l.areas.length), j < 0 → decide (l.areas[j].name = b.name) = false) := fun j _ h => by omega
 clear HLB
 refine seq_cut (fun a' w' => FrF 79 [] [(4, .pointer (some ⟨gr, 0, none⟩)), (5, .pointer (some ⟨gy, 0, none⟩))] a' ∧ Hid (RaS w w' gx l gr gy b) ∧ Hid (∀ j (hj : j < l.areas.length), j < n → decide (l.areas[j].name = b.name) = false)) (fun KA hKA => ?_) ?_
 ·
  skip
  revert hF;refine zrs [2] [1, 2, 4, 5, 7] fun a hF => ?_
  refine wp_block ?_
  refine loop_fr (fun q a' w' => ∃ i : Nat, i + q = n ∧ FrF 79 [] [(1, .int .i64 (n : Int)), (2, .pointer (some ⟨gx, 0, none⟩)), (4, .pointer (some ⟨gr, 0, none⟩)), (5, .pointer (some ⟨gy, 0, none⟩)), (7, .int .i64 i)] a' ∧ Hid (RaS w w' gx l gr gy b) ∧ Hid (∀ j (hj : j < l.areas.length), j < i → decide (l.areas[j].name = b.name) = false)) n ⟨0, by omega, hF, HS, HLO⟩ ?_
  clear hF HS HLO
  rintro rk a wr ⟨i, hik, hF, HS, HLO⟩ KB hKB
  refine wp_seq_k (fun K hK => ?_)
  by_cases hlt : i < n
  rotate_left
  ·
   have hlti : ¬ (i : Int) < (n : Int) := by omega
   revert hF;refine zrs [1, 1, 5] [1, 2, 4, 5, 7, 40] fun a hF => ?_
   refine cond_no hF rfl ?_
   refine wp_exit ?_
   have hie : i = n := by omega
   rw [hie] at HLO
   exact hKA _ _ ⟨hF.sub ⟨rfl, rfl, trivial⟩, HS, HLO⟩
  have hlti : (i : Int) < (n : Int) := by omega
  revert hF;refine zrs [1, 1, 5] [1, 2, 4, 5, 7, 40] fun a hF => ?_
  refine cond_yes hF rfl ?_
  refine wp_skip ?_
  refine hK _ _ ?_;clear hK;replace hF := hF.kp [1, 2, 4, 5, 7] rfl
  clear hKA
  have hil : i < l.areas.length := by omega
  have hi1 : i < l.an := by omega
  have hii : (i : Int) < (l.an : Nat) := by omega
  have HSd : Hid (RaS w wr.drew gx l gr gy b) := HS.out.down (below_d (Below.refl _ _))
  obtain ⟨l0, l1, l2, l3, l4, l5, l6, l7⟩ := HSd.out.arg.cells
  obtain ⟨q0, q1, q2, q3, q4, q5, q6⟩ := HSd.out.var.cells
  obtain ⟨bB, oB, hbb, b0, b1, b2, b3, b4, b5, b6⟩ := area_at (HL.out.below HSd.out.below).areas i hi1 hil
  rw [hbb] at l3
  obtain ⟨c, hc⟩ : ∃ c, c = l.areas[i] := ⟨_, rfl⟩
  have HCE := Lib.hid hc
  rw [← hc] at b0 b1 b2 b3 b4 b5 b6
  clear hc hbb HS
  have hse := bs_beq c.name b.name
  refine wp_seq_k (fun KC hKC => ?_)
  refine wp_block ?_
  refine wp_seq_k (fun K hK => ?_)
  by_cases hnm : c.name = b.name
  ·
   have hdt : decide (c.name = b.name) = true := by simp [hnm]
   rw [hdt] at hse
   have HE : Hid (hdF (areaFault l n b) = ⟨9, b.at', c.at'⟩) := by
    have h1 : l.areas.findIdx (fun x => decide (x.name = b.name)) = i := first_at hil (by rw [← HCE.out]; exact hdt) HLO.out
    show _ = _
    unfold areaFault
    rw [h1]
    dsimp only
    rw [if_neg HFB.out, if_pos hlt, List.getElem?_eq_getElem hil, ← HCE.out]
    rfl
   refine region_any (by kernel_rfl) ?_;revert hF;refine zrb (fuel := 0) [9, 52, 65, 106, 137, 180, 201, 244, 266] [1, 2, 4, 5, 7, 51] fun a hF => ?_
   clear hse hnm hdt l0 l1 l2 l3 l4 l5 l6 l7 q0 q1 q2 q3 q4 q5 q6 b0 b1 b2 b3 b4 b5 b6
   refine hK _ _ ?_;clear hK
   refine cond_yes hF rfl ?_
   have HSe : Hid (RaS w wr.drew.drew gx l gr gy b) := HSd.out.down (below_d (Below.refl _ _))
   obtain ⟨l0, l1, l2, l3, l4, l5, l6, l7⟩ := HSe.out.arg.cells
   obtain ⟨q0, q1, q2, q3, q4, q5, q6⟩ := HSe.out.var.cells
   obtain ⟨bB, oB, hbb, b0, b1, b2, b3, b4, b5, b6⟩ := area_at (HL.out.below HSe.out.below).areas i hi1 hil
   rw [hbb] at l3
   rw [← HCE.out] at b0 b1 b2 b3 b4 b5 b6
   clear hbb HSd
   refine wp_seq_k (fun K hK => ?_);refine region_any (by kernel_rfl) ?_;revert hF;refine zra (fuel := 2) [9, 52, 73, 116, 129, 170, 201, 244] [8, 9] fun a hF => ?_;refine any_one (n := 8) (fuel := 1) (by kernel_rfl) ?_;revert hF;refine zoc fun K hK => ?_
   refine (rfault_any _ ⟨9, b.at', c.at'⟩).mono ?_
   rintro e wf ⟨rfl, hbf⟩
   have HSf := Lib.hid (HSe.out.down hbf)
   clear hbf HSe l0 l1 l2 l3 l4 l5 l6 l7 q0 q1 q2 q3 q4 q5 q6 b0 b1 b2 b3 b4 b5 b6
   obtain ⟨wz, hwz, hSV, hlv, HBf⟩ := flt_put 9 b.at' c.at' HSf.out.res HSf.out.below HSf.out.base
   clear HSf
   refine hK _ _ (fun a hF => ?_);clear hK K;refine any_one (n := 9) (fuel := 0) (by kernel_rfl) ?_;refine op_storev rfl rfl hF rfl rfl rfl rfl hSV ?_;clear hF;refine fun a hF => ?_;refine any_end (by kernel_rfl) ?_;replace hF := hF.kp [4] rfl
   clear hSV hwz
   refine hK _ _ ?_;clear hK
   refine wp_ret ?_
   (try simp only [then_ret, block_ret, goto_ret])
   exact ret_cell (fn := Tryz.f87) rfl hF rfl hlv ⟨by rw [HE.out], HBf.out⟩
  have hdt : decide (c.name = b.name) = false := by simp [hnm]
  rw [hdt] at hse
  have HLO1 : Hid (∀ j (hj : j < l.areas.length), j < i + 1 → decide (l.areas[j].name = b.name) = false) := fun j hj hlt => by
   by_cases e : j = i
   ·
    subst e
    rw [← HCE.out]
    exact hdt
   ·
    exact HLO.out j hj (by omega)
  refine region_any (by kernel_rfl) ?_;revert hF;refine zrb (fuel := 0) [9, 52, 65, 106, 137, 180, 201, 244, 266] [1, 2, 4, 5, 7, 51] fun a hF => ?_
  clear hse hnm hdt l0 l1 l2 l3 l4 l5 l6 l7 q0 q1 q2 q3 q4 q5 q6 b0 b1 b2 b3 b4 b5 b6
  refine hK _ _ ?_;clear hK
  refine cond_no hF rfl ?_
  refine wp_skip ?_
  refine hKC _ _ ?_;clear hKC
  have hws : IntKind.i64.wrap ((i : Int) + 1) = ((i + 1 : Nat) : Int) := wrap_succ (by omega)
  revert hF;refine zrg [1, 4, 2] [1, 2, 4, 5, 7] fun a hF => ?_
  exact hKB (n - (i + 1)) _ _ (by omega) ⟨i + 1, by omega, hF, HSd, HLO1⟩
 clear hF HS HLO
 rintro a w5 ⟨hF, HS, HLO⟩
 have HFA : Hid (¬ l.areas.findIdx (fun x => decide (x.name = b.name)) < n) := by
  have := first_none (xs := l.areas) (p := fun x => decide (x.name = b.name)) (n := n) (by omega) HLO.out
  show ¬ _
  omega
 clear HLO
 obtain ⟨T, hT⟩ : ∃ T, T = (!boxB b.box || (decide (b.holds < 1) || decide (4000 < b.holds))) := ⟨_, rfl⟩
 have HT := Lib.hid hT
 clear hT
 have HAF : Hid (areaFault l n b = if T = true then [⟨2, b.at', -1⟩] else []) := by
  show _ = _
  unfold areaFault
  dsimp only
  rw [if_neg HFB.out, if_neg HFA.out, HT.out]
  congr 1
  simp
 clear HFA HFB
 obtain ⟨q0, q1, q2, q3, q4, q5, q6⟩ := HS.out.var.cells
 refine wp_seq_k (fun K hK => ?_)
 refine seq_cut (fun a' w' => FrF 79 [] [(4, .pointer (some ⟨gr, 0, none⟩)), (5, .pointer (some ⟨gy, 0, none⟩)), (74, .bool T)] a' ∧ Hid (RaS w w' gx l gr gy b)) (fun KA hKA => ?_) ?_
 ·
  revert hF;refine zrp [4, 4] [2, 3, 4, 5, 6, 7, 8, 9, 10, 11, 12, 13] fun a hF => ?_;revert hF;refine zos fun K hK => ?_
  refine (rbox_any w5 b.box).mono ?_
  rintro e w6 ⟨rfl, hb6⟩
  have HS6 := Lib.hid (HS.out.down hb6)
  clear HS hb6 q0 q1 q2 q3 q4 q5 q6 HAF
  obtain ⟨q0, q1, q2, q3, q4, q5, q6⟩ := HS6.out.var.cells
  generalize boxB b.box = bb at *
  cases bb
  ·
   refine hK _ _ (fun a hF => ?_);clear hK K;revert hF;refine zre 3 [4, 1, 0, 0, 0, 5, 1, 0, 0, 0, 5] [4, 5, 74] fun a hF => ?_
   refine hKA _ _ ⟨?_, HS6⟩
   rw [HT.out]
   exact hF
  by_cases h1 : b.holds < 1
  ·
   refine hK _ _ (fun a hF => ?_);clear hK K;revert hF;refine zre 3 [4, 1, 4, 4, 4, 5, 1, 0, 0, 0, 5] [4, 5, 74] fun a hF => ?_
   refine hKA _ _ ⟨?_, HS6⟩
   have hT : T = true := by rw [HT.out]; simp [h1]
   rw [hT]
   exact hF
  ·
   have hT : T = decide (4000 < b.holds) := by rw [HT.out]; simp [h1]
   refine hK _ _ (fun a hF => ?_);clear hK K;revert hF;refine zre 3 [4, 1, 4, 4, 4, 5, 1, 4, 4, 4, 5] [4, 5, 74] fun a hF => ?_
   refine hKA _ _ ⟨?_, HS6⟩
   rw [hT]
   exact hF
 clear hF HS q0 q1 q2 q3 q4 q5 q6
 rintro a w6 ⟨hF, HS⟩
 obtain ⟨q0, q1, q2, q3, q4, q5, q6⟩ := HS.out.var.cells
 cases T
 rotate_left
 ·
  have HE : Hid (hdF (areaFault l n b) = ⟨2, b.at', -1⟩) := by
   show _ = _
   rw [HAF.out]
   rfl
  refine cond_yes hF rfl ?_
  refine wp_seq_k (fun K hK => ?_);revert hF;refine zrp [4, 4] [2, 3] fun a hF => ?_;revert hF;refine zos fun K hK => ?_
  refine (rfault_any w6 ⟨2, b.at', (-1)⟩).mono ?_
  rintro e wf ⟨rfl, hbf⟩
  have HSf := Lib.hid (HS.out.down hbf)
  clear hbf HS q0 q1 q2 q3 q4 q5 q6
  obtain ⟨wz, hwz, hSV, hlv, HBf⟩ := flt_put 2 b.at' (-1) HSf.out.res HSf.out.below HSf.out.base
  clear HSf
  refine hK _ _ (fun a hF => ?_);clear hK K;refine seq_one ?_;refine op_storev rfl rfl hF rfl rfl rfl rfl hSV ?_;clear hF;refine fun a hF => ?_;refine seq_end ?_;replace hF := hF.kp [4] rfl
  clear hSV hwz
  refine hK _ _ ?_;clear hK
  refine wp_ret ?_
  (try simp only [then_ret, block_ret, goto_ret])
  exact ret_cell (fn := Tryz.f87) rfl hF rfl hlv ⟨by rw [HE.out], HBf.out⟩
 have HE : Hid (hdF (areaFault l n b) = ⟨0, 0, 0⟩) := by
  show _ = _
  rw [HAF.out]
  rfl
 refine cond_no hF rfl ?_
 refine wp_skip ?_
 refine hK _ _ ?_;clear hK;refine wp_seq_k (fun K hK => ?_);refine region_seq (l := [0, 1]) (by kernel_rfl) ?_;revert hF;refine zos fun K hK => ?_
 refine (rnone_any w6).mono ?_
 rintro e wf ⟨rfl, hbf⟩
 have HSf := Lib.hid (HS.out.down hbf)
 clear hbf HS q0 q1 q2 q3 q4 q5 q6
 obtain ⟨wz, hwz, hSV, hlv, HBf⟩ := flt_put 0 0 0 HSf.out.res HSf.out.below HSf.out.base
 clear HSf
 refine hK _ _ (fun a hF => ?_);clear hK K;refine seq_one ?_;refine op_storev rfl rfl hF rfl rfl rfl rfl hSV ?_;clear hF;refine fun a hF => ?_;refine seq_end ?_;replace hF := hF.kp [4] rfl
 clear hSV hwz
 refine hK _ _ ?_;clear hK
 refine wp_ret ?_
 (try simp only [then_ret, block_ret, goto_ret])
 exact ret_cell (fn := Tryz.f87) rfl hF rfl hlv ⟨by rw [HE.out], HBf.out⟩
end Go.Proofs.YtmcdhggnpfhlmaaGreat
