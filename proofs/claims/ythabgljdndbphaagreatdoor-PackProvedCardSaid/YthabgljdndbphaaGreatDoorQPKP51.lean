/- foyerlaw23.PackProved: the walk. -/
import Derived.Test.YthabgljdndbphaaGreatDoorQPKP48
import Derived.Test.YthabgljdndbphaaGreatDoorQPKP50

set_option linter.unusedVariables false
set_option linter.unusedSimpArgs false
namespace Go.Proofs.YthabgljdndbphaaGreatDoor
open Go.RowKit Go.IntWalk Go.Maps Go.WideMaps
set_option linter.unusedSimpArgs false
set_option linter.unusedVariables false

theorem stp_small {n m : Nat} (hn : n ≤ 5) (hm : m ≤ 5) : stpCap n m ≤ 100000 := by
 have : ∀ n, n < 6 → ∀ k, k < 6 → stpCap n k ≤ 100000 := by decide
 exact this n (by omega) m (by omega)
/-- A problem in memory, and the variable that holds it. -/
structure PbAt (w : World) (gp : Nat) (ra ga : Option Addr) (c d : Nat) (single : Bool) (R : List Int) (G : List (Int × Int)) : Prop where
 box : w.heap[gp]? = some (.cells #[.slice ra R.length c, .slice ga G.length d, .bool single] 25 (0, 0))
 runs : Ints w ra R.length R
 groups : Pairs w ga G.length G
 kit : PKit w
theorem PbAt.below {w w' : World} {gp : Nat} {ra ga : Option Addr} {c d : Nat} {single : Bool} {R : List Int} {G : List (Int × Int)} (h : PbAt w gp ra ga c d single R G) (hb : Below w.heap.size w w') : PbAt w' gp ra ga c d single R G :=
 ⟨(hb.block _ (lt_of_block h.box)).trans h.box, h.runs.below hb, h.groups.below hb, h.kit.below hb⟩
theorem pb_new {w : World} {ra ga : Option Addr} {c d : Nat} {single : Bool} {R : List Int} {G : List (Int × Int)} (hR : Ints w ra R.length R) (hG : Pairs w ga G.length G) (hk : PKit w) :
  ∃ w1 gp, w.alloc (.cells #[.slice ra R.length c, .slice ga G.length d, .bool single] 25) = w1 ∧ gp = w.heap.size ∧ Hid (Below w.heap.size w w1) ∧ Hid (PbAt w1 gp ra ga c d single R G) := by
 have hb := Joins.below_alloc1 w (.cells #[.slice ra R.length c, .slice ga G.length d, .bool single] 25)
 exact ⟨_, _, rfl, rfl, hb, heap_new _ _, hR.below hb, hG.below hb, hk.below hb⟩
set_option maxRecDepth 100000 in
set_option maxHeartbeats 16000000 in
theorem proved_any (w : World) (hk : PKit w) (ra ga : Option Addr) (n c m d : Nat) (single : Bool) (R : List Int) (G : List (Int × Int)) (hR : Ints w ra n R) (hG : Pairs w ga m G) (_hn : n ≤ 9223372036854775807) (_hm : m ≤ 9223372036854775807) (hmd : m ≤ d) (hc : ra = none → c = 0) :
  Calls Tryz.prog 4 #[.agg #[.slice ra n c, .slice ga m d, .bool single]] w fun e w' => e = .returned (.bool true) ∧ Below w.heap.size w w' := by
 obtain rfl : R.length = n := hR.1
 obtain rfl : G.length = m := hG.1
 have HN0 := Lib.hid (pb_new (c := c) (d := d) (single := single) hR hG hk)
 clear hR hG hk
 refine enter_fr (N := 41) [.agg #[.slice ra R.length c, .slice ga G.length d, .bool single]] (Tryz.func4) rfl Tryz.ntmps4 (by rfl) (fun a hF => ?_);replace hF := hF.kp [0] rfl;refine wp_seq_k (fun K hK => ?_);refine region_seq (l := [0, 1]) (by kernel_rfl) ?_;refine seq_one ?_;revert hF;refine qe1 fun a hF => ?_
 obtain ⟨w1, gp, e1, e2, HB, HP⟩ := HN0.out
 clear HN0
 rw [e1]
 rw [← e2] at hF
 clear e1 e2
 revert hF;refine zre 1 [2] [1] fun a hF => ?_;refine hK _ _ ?_;clear hK;refine wp_seq_k (fun K hK => ?_);refine region_seq (l := [0, 1]) (by kernel_rfl) ?_;revert hF;refine zos fun K hK => ?_
 refine (head_any w1 HP.out.kit).mono ?_
 rintro e w2 ⟨rfl, hb⟩
 have HB := Lib.hid (HB.out.trans (hb.mono HB.out.size))
 have HP := Lib.hid (HP.out.below hb)
 clear hb
 refine hK _ _ (fun a hF => ?_);clear hK K;revert hF;refine zre 1 [2] [1, 3] fun a hF => ?_;refine hK _ _ ?_;clear hK;refine wp_seq_k (fun K hK => ?_);refine wp_seq_k (fun K hK => ?_)
 have p0 := boxed_cell (j := 0) HP.out.box rfl
 have p1 := boxed_cell (j := 1) HP.out.box rfl
 have p2 := boxed_cell (j := 2) HP.out.box rfl
 revert hF;refine zrp [4] [1, 2] fun a hF => ?_;revert hF;refine zos fun K hK => ?_
 refine (small_any w2 ra ga R.length c G.length d single _ R G HP.out.runs HP.out.groups rfl).mono ?_
 rintro e w3 ⟨rfl, hb⟩
 have HB := Lib.hid (HB.out.trans (hb.mono HB.out.size))
 have HP := Lib.hid (HP.out.below hb)
 clear hb p0 p1 p2
 cases hs : (decide (R.length ≤ 5 ∧ G.length ≤ 5) && validS R G) with
 | false =>
  clear hs
  refine hK _ _ (fun a hF => ?_);clear hK K;revert hF;refine zre 2 [4] [1, 3, 10] fun a hF => ?_;refine hK _ _ ?_;clear hK
  refine cond_yes hF rfl ?_
  revert hF;refine zrs [1, 2] [2] fun a hF => ?_;refine wp_ret ?_;(try simp only [then_ret, block_ret, goto_ret]);revert hF;refine zq ?_
  exact ⟨rfl, HB.out⟩
 | true =>
  rw [Bool.and_eq_true, decide_eq_true_eq] at hs
  obtain ⟨⟨hn5, hm5⟩, hv⟩ := hs
  have HV := Lib.hid hv
  clear hv
  refine hK _ _ (fun a hF => ?_);clear hK K;revert hF;refine zre 2 [4] [1, 3, 10] fun a hF => ?_;refine hK _ _ ?_;clear hK
  refine cond_no hF rfl ?_
  refine wp_skip ?_
  refine hK _ _ ?_;clear hK;refine wp_seq_k (fun K hK => ?_)
  have p0 := boxed_cell (j := 0) HP.out.box rfl
  have p1 := boxed_cell (j := 1) HP.out.box rfl
  have p2 := boxed_cell (j := 2) HP.out.box rfl
  revert hF;refine zrp [4] [1, 2, 3, 4, 5, 6, 7, 8, 9, 10] fun a hF => ?_;revert hF;refine zos fun K hK => ?_
  refine (solve_good w3 ra ga c G.length d single R G (by omega) (by omega) hmd HP.out.runs HP.out.groups HV.out HP.out.kit).mono ?_
  rintro e w4 hgd
  clear p0 p1 p2
  have HSC := Lib.hid (stp_check (single := single) HV.out rfl)
  have HSL := Lib.hid (sol_legal (single := single) HV.out)
  have HBD0 := Lib.hid (pack_bound (single := single) HV.out)
  have HTL : Hid ((stpF G (packF single G G.length 0 (R.map run0)) G.length 0 (R.map run0) 0 0).length ≤ 100000) := by
   refine Nat.le_trans (stp_cap ..) ?_
   rw [List.length_map]
   exact stp_small hn5 hm5
  have HTP : Hid (1 ≤ (stpF G (packF single G G.length 0 (R.map run0)) G.length 0 (R.map run0) 0 0).length) := stp_pos
  obtain ⟨sa, sc, pa, pc, rfl, hb, hp, hst⟩ := good_ok hgd rfl rfl rfl rfl HTL.out
  clear hgd
  generalize stpF G (packF single G G.length 0 (R.map run0)) G.length 0 (R.map run0) 0 0 = T at *
  generalize solF single R G G.length 0 (R.map run0) (packF single G G.length 0 (R.map run0)) = S at *
  generalize packF single G G.length 0 (R.map run0) = B at *
  have HB := Lib.hid (HB.out.trans (hb.mono HB.out.size))
  have HP := Lib.hid (HP.out.below hb)
  have HPS := Lib.hid (And.intro hp hst)
  clear hb hp hst
  refine hK _ _ (fun a hF => ?_);clear hK K;revert hF;refine zrc 2 [1, 4, 4, 4] [6, 7, 8, 9, 10] fun a hF => ?_;refine seq_one ?_;revert hF;refine qe0 fun a hF => ?_
  obtain ⟨wa1, wb1, bx1, bp1, e1, e2, e3, e4, hSV, hSV2, HN⟩ := got_new (sc := sc) (B := B) (pc := pc) HPS.out.1 HPS.out.2
  rw [e1]
  rw [← e2] at hF
  clear e1
  refine seq_one ?_;revert hF;refine qe0 fun a hF => ?_
  try rw [e3]
  rw [← e4] at hF
  clear e2 e3 e4
  refine seq_one ?_;refine op_storev rfl rfl hF rfl rfl rfl rfl hSV ?_;clear hF;refine fun a hF => ?_
  clear hSV
  have hSV := hSV2
  clear hSV2
  refine seq_one ?_;refine op_storev rfl rfl hF rfl rfl rfl rfl hSV ?_;clear hF;refine fun a hF => ?_
  clear hSV
  have HB := Lib.hid (HB.out.trans (HN.out.1.mono HB.out.size))
  have HP := Lib.hid (HP.out.below HN.out.1)
  have HG1 := Lib.hid HN.out.2
  clear HN HPS
  generalize (wb1.setRow bx1 _).setRow bp1 _ = wz1 at *
  revert hF;refine zre 10 [2] [1, 3, 4, 5, 6] fun a hF => ?_;refine hK _ _ ?_;clear hK;refine wp_seq_k (fun K hK => ?_)
  have hbd := below_d (Below.refl wz1.heap.size wz1)
  have HB := Lib.hid (HB.out.trans (hbd.mono HB.out.size))
  have HP := Lib.hid (HP.out.below hbd)
  have HG1 := Lib.hid (HG1.out.below hbd)
  have p0 := boxed_cell (j := 0) HP.out.box rfl
  have p1 := boxed_cell (j := 1) HP.out.box rfl
  have p2 := boxed_cell (j := 2) HP.out.box rfl
  have x0 := boxed_cell (j := 0) HG1.out.x rfl
  have x1 := boxed_cell (j := 1) HG1.out.x rfl
  have y0 := boxed_cell (j := 0) HG1.out.y rfl
  have HST : Hid (∀ w', Below wz1.drew.heap.size wz1.drew w' → Below wz1.drew.heap.size wz1.drew w' ∧ w'.cell? ⟨bx1, 0, none⟩ = some (.slice sa G.length sc) ∧ w'.cell? ⟨bx1, 1, none⟩ = some (.int .i64 B) ∧ w'.cell? ⟨bp1, 0, none⟩ = some (.slice pa T.length pc) ∧ w'.cell? ⟨gp, 0, none⟩ = some (.slice ra R.length c) ∧ w'.cell? ⟨gp, 1, none⟩ = some (.slice ga G.length d) ∧ w'.cell? ⟨gp, 2, none⟩ = some (.bool single)) := fun w' hb => ⟨hb, Below.cell_of hb x0, Below.cell_of hb x1, Below.cell_of hb y0, Below.cell_of hb p0, Below.cell_of hb p1, Below.cell_of hb p2⟩
  clear x0 x1 y0 p0 p1 p2 hbd
  obtain ⟨bd, hbd⟩ : ∃ x, x = boundS R G := ⟨_, rfl⟩
  have hle : decide (B ≤ bd) = true := by rw [hbd]; simpa using HBD0.out
  have hle' : B ≤ bd := by rw [hbd]; exact HBD0.out
  refine region_any (by kernel_rfl) ?_;generalize wz1.drew = wd at *;revert hF;refine zhc (fuel := 16) (fun w' => Below wd.heap.size wd w' ∧ w'.cell? ⟨bx1, 0, none⟩ = some (.slice sa G.length sc) ∧ w'.cell? ⟨bx1, 1, none⟩ = some (.int .i64 B) ∧ w'.cell? ⟨bp1, 0, none⟩ = some (.slice pa T.length pc) ∧ w'.cell? ⟨gp, 0, none⟩ = some (.slice ra R.length c) ∧ w'.cell? ⟨gp, 1, none⟩ = some (.slice ga G.length d) ∧ w'.cell? ⟨gp, 2, none⟩ = some (.bool single)) (HST.out _ (Below.refl _ _)) [1, 17, 33, 56, 72, 81, 99, 115] fun a hF => ?_;refine held_one (n := 8) (fuel := 15) (by kernel_rfl) ?_;revert hF;refine zoc fun K hK => ?_
  have HBD : Hid (Below wd.heap.size wd wd) := Below.refl _ _
  refine (legal_any ra ga sa R.length c G.length d G.length sc single B R G S wd (by omega) (by omega) (by omega) HP.out.runs HP.out.groups HG1.out.pairs).mono ?_
  rintro e w5 ⟨q, rfl, hb, hq⟩
  obtain rfl : q = true := hq.mpr HSL.out
  clear hq
  have HBD := Lib.hid (HBD.out.trans (hb.mono HBD.out.size))
  have HB := Lib.hid (HB.out.trans (hb.mono HB.out.size))
  have HP := Lib.hid (HP.out.below hb)
  have HG1 := Lib.hid (HG1.out.below hb)
  clear hb
  refine hK _ _ (fun a hF => ⟨?_, ?_⟩)
  ·
   intro _
   exact HST.out _ HBD.out
  clear hK K
  revert hF;refine zhg (fuel := 10) (HST.out _ HBD.out) [152, 161, 179, 195, 211] fun a hF => ?_;refine held_one (n := 14) (fuel := 9) (by kernel_rfl) ?_;revert hF;refine zoc fun K hK => ?_
  refine (check_any ra ga sa pa R.length c G.length d G.length sc T.length pc single B R G S T w5 (by omega) (by omega) (by omega) HP.out.runs HP.out.groups HG1.out.pairs HG1.out.steps hc).mono ?_
  rintro e w6 ⟨q, rfl, hb, hq⟩
  obtain rfl : q = true := hq.mpr ⟨HSL.out, HTP.out, HTL.out, HSC.out⟩
  clear hq
  have HBD := Lib.hid (HBD.out.trans (hb.mono HBD.out.size))
  have HB := Lib.hid (HB.out.trans (hb.mono HB.out.size))
  have HP := Lib.hid (HP.out.below hb)
  have HG1 := Lib.hid (HG1.out.below hb)
  clear hb
  refine hK _ _ (fun a hF => ⟨?_, ?_⟩)
  ·
   intro _
   exact HST.out _ HBD.out
  clear hK K
  revert hF;refine zhg (fuel := 4) (HST.out _ HBD.out) [248, 257, 280, 291, 307] fun a hF => ?_;refine held_one (n := 20) (fuel := 3) (by kernel_rfl) ?_;revert hF;refine zoc fun K hK => ?_
  refine (bound_any ra ga R.length c G.length d single R G w6 (by omega) (by omega) HP.out.runs HP.out.groups).mono ?_
  rintro e w7 ⟨rfl, hb⟩
  rw [← hbd]
  have HBD := Lib.hid (HBD.out.trans (hb.mono HBD.out.size))
  have HB := Lib.hid (HB.out.trans (hb.mono HB.out.size))
  have HP := Lib.hid (HP.out.below hb)
  have HG1 := Lib.hid (HG1.out.below hb)
  clear hb
  refine hK _ _ (fun a hF => ⟨?_, ?_⟩)
  ·
   intro _
   exact HST.out _ HBD.out
  clear hK K
  revert hF;refine zhg (fuel := 0) (HST.out _ HBD.out) [344, 360, 370] fun a hF => ?_;refine held_end (by kernel_rfl) ?_;replace hF := hF.kp [2] rfl
  clear HST HBD hle hle'
  refine hK _ _ ?_;clear hK;refine wp_ret ?_;(try simp only [then_ret, block_ret, goto_ret]);revert hF;refine zq ?_
  exact ⟨by rw [show decide (B ≤ boundS R G) = true from decide_eq_true HBD0.out]; rfl, HB.out⟩
end Go.Proofs.YthabgljdndbphaaGreatDoor
