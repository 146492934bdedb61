/- foyerlaw23.PackRoom: the walk. -/
import Derived.Test.YthabgljdndbphaaGreatDoorQPKP49
import Derived.Test.YthabgljdndbphaaGreatDoorQPKP50

set_option linter.unusedVariables false
set_option linter.unusedSimpArgs false
namespace Go.Proofs.YthabgljdndbphaaGreatDoor
open Go.RowKit Go.IntWalk Go.Maps Go.WideMaps
set_option linter.unusedSimpArgs false
set_option linter.unusedVariables false

theorem ints_recs {w : World} {ra : Option Addr} {n : Nat} {R : List Int} (h : Ints w ra n R) : Recs IntE w ra n R :=
 ⟨h.1, fun i hi => by
  obtain ⟨b, o, e, c⟩ := h.2 i hi
  refine ⟨b, o, e, fun j hj => ?_⟩
  obtain rfl : j = 0 := by omega
  have hi2 : i < R.length := by rw [h.1]; exact hi
  rw [rc_eq _ _ hi2, Nat.mul_one, Nat.add_zero, c, ix_get hi2]
  rfl⟩
theorem recs_ints {w : World} {ra : Option Addr} {n : Nat} {R : List Int} (h : Recs IntE w ra n R) : Ints w ra n R :=
 ⟨h.1, fun i hi => by
  obtain ⟨b, o, e, c⟩ := h.2 i hi
  have hi2 : i < R.length := by rw [h.1]; exact hi
  have c0 := c 0 (by omega)
  rw [rc_eq _ _ hi2, Nat.mul_one, Nat.add_zero] at c0
  refine ⟨b, o, e, ?_⟩
  rw [c0, ix_get hi2]
  rfl⟩
theorem ints_rcs {w : World} {ra : Option Addr} {c : Nat} {R : List Int} (h : Ints w ra R.length R) (hc : ra = none → c = 0) : Rcs IntE w (.slice ra R.length c) R := ⟨ra, c, rfl, ints_recs h, hc⟩
theorem info_group : (Tryz.prog.info? 49).map (fun i => (i.zero, i.size, i.bytes)) = some (some (.agg #[.int .i64 0, .int .i64 0]), 2, 16) := by kernel_rfl
theorem pairs_recs {w : World} {ga : Option Addr} {n : Nat} {G : List (Int × Int)} (h : Pairs w ga n G) : Recs SpotE w ga n G :=
 ⟨h.1, fun i hi => by
  obtain ⟨b, o, e, c0, c1⟩ := h.2 i hi
  have hi2 : i < G.length := by rw [h.1]; exact hi
  have e0 : gs G i = G[i].1 := by unfold gs; simp [hi2]
  have e1 : gv G i = G[i].2 := by unfold gv; simp [hi2]
  rw [e0] at c0
  rw [e1] at c1
  refine ⟨b, o, e, fun j hj => ?_⟩
  rw [rc_eq _ _ hi2]
  rcases (show j = 0 ∨ j = 1 by omega) with rfl | rfl
  ·
   exact c0
  ·
   exact c1⟩
theorem pairs_rcs {w : World} {ga : Option Addr} {d : Nat} {G : List (Int × Int)} (h : Pairs w ga G.length G) (hd : ga = none → d = 0) : Rcs SpotE w (.slice ga G.length d) G := ⟨ga, d, rfl, pairs_recs h, hd⟩
theorem own_cap {w : World} {B k n lc : Nat} {T : TypeId} {la : Option Addr} {xs : List Value} (h : w.ownsRow B T k (.slice la n lc) n xs) : n ≤ lc := by
 rcases h.2 with ⟨_, h0⟩ | ⟨g, cap, cur, e, _, _, hc, _⟩
 ·
  omega
 ·
  cases e
  exact hc
theorem valid_app {R : List Int} {G : List (Int × Int)} {g : Int × Int} (hv : validS R G = true) (h4 : G.length ≤ 3999) (h1 : 1 ≤ g.1 ∧ g.1 ≤ 12) (h2 : 0 ≤ g.2 ∧ g.2 ≤ 1000000) : validS R (G ++ [g]) = true := by
 have hp := (validS_parts hv).2.2
 unfold validS at hv ⊢
 simp only [Bool.and_eq_true, decide_eq_true_eq] at hv ⊢
 refine ⟨hv.1, by simp; omega, (groupsOk_iff _).2 fun k hk => ?_⟩
 by_cases e : k < G.length
 ·
  rw [(gs_app e).1, (gs_app e).2]
  exact hp k e
 ·
  have : k = G.length := by simp at hk; omega
  subst this
  rw [gs_last.1, gs_last.2]
  exact ⟨h1, h2⟩
structure GgAt (w : World) (gg : Nat) (a b : Int) : Prop where
 box : w.heap[gg]? = some (.cells #[.int .i64 a, .int .i64 b] 49 (0, 0))
theorem GgAt.below {w w' : World} {gg : Nat} {a b : Int} (h : GgAt w gg a b) (hb : Below w.heap.size w w') : GgAt w' gg a b := ⟨(hb.block _ (lt_of_block h.box)).trans h.box⟩
theorem introw_of {w : World} {g : Nat} {T : TypeId} {D : List Int} (h : RecRow IntE w g T D) : IntRow w g T D := by
 obtain ⟨arr, e, hs, hc⟩ := h
 refine ⟨arr, e, by omega, fun k hk => ?_⟩
 have h0 := hc k 0 hk (by omega)
 rw [rc_eq _ _ hk, Nat.mul_one, Nat.add_zero] at h0
 rw [h0, ix_get hk]
 rfl
/-- What Solve says of a problem's worth. -/
theorem good_val {single : Bool} {R : List Int} {G : List (Int × Int)} {w w' : World} {e : Ending} (hn : R.length ≤ 5) (hm : G.length ≤ 5) (h : GoodP single R G G.length w e w') :
  ∃ sa sc pa l pc S T, e = .returned (.tuple #[.agg #[.slice sa G.length sc, .int .i64 (packF single G G.length 0 (R.map run0))], .agg #[.slice pa l pc], .int .i64 0]) ∧ Below w.heap.size w w' ∧ Pairs w' sa G.length S ∧ Steps w' pa l T := by
 have hTL : (stpF G (packF single G G.length 0 (R.map run0)) G.length 0 (R.map run0) 0 0).length ≤ 100000 := by
  refine Nat.le_trans (stp_cap ..) ?_
  rw [List.length_map]
  exact stp_small hn hm
 obtain ⟨sa, sc, pa, pc, rfl, hb, hp, hst⟩ := good_ok h rfl rfl rfl rfl hTL
 exact ⟨sa, sc, pa, _, pc, _, _, rfl, hb, hp, hst⟩
set_option maxRecDepth 100000 in
set_option maxHeartbeats 32000000 in
theorem room_law (w : World) (hk : PKit w) (ra ga : Option Addr) (n c m d : Nat) (single : Bool) (R : List Int) (G : List (Int × Int)) (hR : Ints w ra n R) (hG : Pairs w ga m G) (_hn : n ≤ 9223372036854775807) (_hm : m ≤ 9223372036854775807) (hmd : m ≤ d) (hc : ra = none → c = 0) (hd : ga = none → d = 0)
  (a1 : Int) (h1 : 0 ≤ a1 ∧ a1 ≤ 255) (a2 : Int) (h2 : 0 ≤ a2 ∧ a2 ≤ 255) (a3 : Int) (h3 : 0 ≤ a3 ∧ a3 ≤ 255) (a4 : Int) (h4 : 0 ≤ a4 ∧ a4 ≤ 255) :
  Calls Tryz.prog 6 #[.agg #[.slice ra n c, .slice ga m d, .bool single], .int .u8 a1, .int .u8 a2, .int .u8 a3, .int .u8 a4] w fun e w' => e = .returned (.bool true) ∧ Below w.heap.size w w' := by
 obtain rfl : R.length = n := hR.1
 obtain rfl : G.length = m := hG.1
 have HN0 := Lib.hid (pb_new (c := c) (d := d) (single := single) hR hG hk)
 clear hR hG hk
 refine enter_fr (N := 171) [.agg #[.slice ra R.length c, .slice ga G.length d, .bool single], .int .u8 a1, .int .u8 a2, .int .u8 a3, .int .u8 a4] (Tryz.func6) rfl Tryz.ntmps6 (by rfl) (fun a hF => ?_);replace hF := hF.kp [0, 1, 2, 3, 4] rfl;refine wp_seq_k (fun K hK => ?_);refine region_seq (l := [0, 1]) (by kernel_rfl) ?_;refine seq_one ?_;revert hF;refine qe1 fun a hF => ?_
 obtain ⟨w1, gp, e1, e2, HB, HP⟩ := HN0.out
 clear HN0
 rw [e1]
 rw [← e2] at hF
 clear e1 e2
 revert hF;refine zre 1 [2] [1, 2, 3, 4, 5] fun a hF => ?_;refine hK _ _ ?_;clear hK;refine wp_seq_k (fun K hK => ?_);refine region_seq (l := [0, 1]) (by kernel_rfl) ?_;revert hF;refine zos fun K hK => ?_
 refine (head_any w1 HP.out.kit).mono ?_
 rintro e w2 ⟨rfl, hb⟩
 have HB := Lib.hid (HB.out.trans (hb.mono HB.out.size))
 have HP := Lib.hid (HP.out.below hb)
 clear hb
 refine hK _ _ (fun a hF => ?_);clear hK K;revert hF;refine zre 1 [2] [1, 2, 3, 4, 5, 11] fun a hF => ?_;refine hK _ _ ?_;clear hK;refine wp_seq_k (fun K hK => ?_);refine wp_seq_k (fun K hK => ?_)
 have p0 := boxed_cell (j := 0) HP.out.box rfl
 have p1 := boxed_cell (j := 1) HP.out.box rfl
 have p2 := boxed_cell (j := 2) HP.out.box rfl
 by_cases hfew : R.length ≤ 4 ∧ G.length ≤ 4
 rotate_left
 ·
  have HFX : Hid (Calls Tryz.prog 9 #[.agg #[.slice ra R.length c, .slice ga G.length d, .bool single], .int .i64 4] w2 fun e w' => e = .returned (.bool false) ∧ Below w2.heap.size w2 w') := by
   have := few_any ra ga R.length c G.length d single 4 w2
   rw [decide_eq_false hfew] at this
   exact this
  clear hfew
  revert hF;refine zrp [4] [1, 2, 3, 4, 5, 6, 7] fun a hF => ?_;revert hF;refine zos fun K hK => ?_
  refine HFX.out.mono ?_
  rintro e w3 ⟨rfl, hb⟩
  have HB := Lib.hid (HB.out.trans (hb.mono HB.out.size))
  clear hb p0 p1 p2 HFX
  refine hK _ _ (fun a hF => ?_);clear hK K;revert hF;refine zre 2 [4, 1, 0, 0, 0, 5] [1, 2, 3, 4, 5, 11, 36] fun a hF => ?_;refine hK _ _ ?_;clear hK
  refine cond_yes hF rfl ?_
  revert hF;refine zrs [1, 2] [10] fun a hF => ?_;refine wp_ret ?_;(try simp only [then_ret, block_ret, goto_ret]);revert hF;refine zq ?_
  exact ⟨rfl, HB.out⟩
 have HFX : Hid (Calls Tryz.prog 9 #[.agg #[.slice ra R.length c, .slice ga G.length d, .bool single], .int .i64 4] w2 fun e w' => e = .returned (.bool true) ∧ Below w2.heap.size w2 w') := by
  have := few_any ra ga R.length c G.length d single 4 w2
  rw [decide_eq_true hfew] at this
  exact this
 obtain ⟨hn4, hm4⟩ := hfew
 revert hF;refine zrp [4] [1, 2, 3, 4, 5, 6, 7] fun a hF => ?_;revert hF;refine zos fun K hK => ?_
 refine HFX.out.mono ?_
 rintro e w3 ⟨rfl, hb⟩
 have HB := Lib.hid (HB.out.trans (hb.mono HB.out.size))
 have HP := Lib.hid (HP.out.below hb)
 clear hb p0 p1 p2 HFX
 have p0 := boxed_cell (j := 0) HP.out.box rfl
 have p1 := boxed_cell (j := 1) HP.out.box rfl
 have p2 := boxed_cell (j := 2) HP.out.box rfl
 refine hK _ _ (fun a hF => ?_);clear hK K;revert hF;refine zrc 2 [4, 1, 4] [5, 6, 7] fun a hF => ?_;revert hF;refine zos fun K hK => ?_
 refine (refvalid_any ra ga R.length c G.length d single _ R G w3 (by omega) (by omega) HP.out.runs HP.out.groups rfl).mono ?_
 rintro e w4 ⟨rfl, hb⟩
 have HB := Lib.hid (HB.out.trans (hb.mono HB.out.size))
 have HP := Lib.hid (HP.out.below hb)
 clear hb p0 p1 p2
 cases hv : validS R G with
 | false =>
  clear hv
  refine hK _ _ (fun a hF => ?_);clear hK K;revert hF;refine zre 6 [4, 5] [1, 2, 3, 4, 5, 11, 36] fun a hF => ?_;refine hK _ _ ?_;clear hK
  refine cond_yes hF rfl ?_
  revert hF;refine zrs [1, 2] [10] fun a hF => ?_;refine wp_ret ?_;(try simp only [then_ret, block_ret, goto_ret]);revert hF;refine zq ?_
  exact ⟨rfl, HB.out⟩
 | true =>
  have HV := Lib.hid hv
  clear hv
  refine hK _ _ (fun a hF => ?_);clear hK K;revert hF;refine zre 6 [4, 5] [1, 2, 3, 4, 5, 11, 36] fun a hF => ?_;refine hK _ _ ?_;clear hK
  refine cond_no hF rfl ?_
  refine wp_skip ?_
  refine hK _ _ ?_;clear hK;refine wp_seq_k (fun K hK => ?_)
  have p0 := boxed_cell (j := 0) HP.out.box rfl
  have p1 := boxed_cell (j := 1) HP.out.box rfl
  have p2 := boxed_cell (j := 2) HP.out.box rfl
  revert hF;refine zrp [4] [1, 2, 3, 4, 5, 6, 7, 8, 9, 10] fun a hF => ?_;revert hF;refine zos fun K hK => ?_
  refine (solve_good w4 ra ga c G.length d single R G (by omega) (by omega) hmd HP.out.runs HP.out.groups HV.out HP.out.kit).mono ?_
  rintro e w5 hgd
  clear p0 p1 p2
  obtain ⟨sa, sc, pa, l, pc, S, T, rfl, hb, hp, hst⟩ := good_val (by omega) (by omega) hgd
  clear hgd
  obtain ⟨X, hX⟩ : ∃ x, x = packF single G G.length 0 (R.map run0) := ⟨_, rfl⟩
  rw [← hX]
  have HXE := Lib.hid hX
  clear hX
  have HB := Lib.hid (HB.out.trans (hb.mono HB.out.size))
  have HP := Lib.hid (HP.out.below hb)
  have HPS := Lib.hid (And.intro hp hst)
  clear hb hp hst
  refine hK _ _ (fun a hF => ?_);clear hK K;revert hF;refine zrc 2 [1, 4, 4, 4] [6, 7, 8, 9, 10] fun a hF => ?_;refine seq_one ?_;revert hF;refine qe0 fun a hF => ?_
  obtain ⟨wa1, wb1, bx1, bp1, e1, e2, e3, e4, hSV, hSV2, HN⟩ := got_new (sc := sc) (B := X) (pc := pc) HPS.out.1 HPS.out.2
  rw [e1]
  rw [← e2] at hF
  clear e1
  refine seq_one ?_;revert hF;refine qe0 fun a hF => ?_
  try rw [e3]
  rw [← e4] at hF
  clear e2 e3 e4
  refine seq_one ?_;refine op_storev rfl rfl hF rfl rfl rfl rfl hSV ?_;clear hF;refine fun a hF => ?_
  clear hSV
  have hSV := hSV2
  clear hSV2
  refine seq_one ?_;refine op_storev rfl rfl hF rfl rfl rfl rfl hSV ?_;clear hF;refine fun a hF => ?_
  clear hSV
  have HB := Lib.hid (HB.out.trans (HN.out.1.mono HB.out.size))
  have HP := Lib.hid (HP.out.below HN.out.1)
  have HG1 := Lib.hid HN.out.2
  clear HN HPS
  generalize (wb1.setRow bx1 _).setRow bp1 _ = wz1 at *
  revert hF;refine zre 10 [2] [1, 2, 3, 4, 5, 11, 12, 14] fun a hF => ?_;refine hK _ _ ?_;clear hK
  have p0 := boxed_cell (j := 0) HP.out.box rfl
  have p1 := boxed_cell (j := 1) HP.out.box rfl
  have p2 := boxed_cell (j := 2) HP.out.box rfl
  refine wp_seq_k (fun K hK => ?_);revert hF;refine zrp [4] [1, 2] fun a hF => ?_;refine seq_one ?_;revert hF;refine qe0 fun a hF => ?_
  obtain ⟨wa, gm, hwa, hgv, hSV, HTW⟩ := var_new wz1 25 #[.slice none 0 0, .slice none 0 0, .bool false] #[.slice ra R.length c, .slice ga G.length d, .bool single] (by kernel_rfl) rfl (by simp [Value.oneCell'])
  rw [hwa]
  rw [← hgv] at hF
  clear hwa hgv
  refine seq_one ?_;refine op_storev rfl rfl hF rfl rfl rfl rfl hSV ?_;clear hF;refine fun a hF => ?_
  clear hSV
  refine hK _ _ ?_;clear hK
  generalize wa.setRow gm #[.slice ra R.length c, .slice ga G.length d, .bool single] = w6 at *
  clear p0 p1 p2
  have HBZ := Lib.hid HTW.out.1
  have HGM : Hid (w6.heap[gm]? = some (.cells #[.slice ra R.length c, .slice ga G.length d, .bool single] 25 (0, 0)) ∧ gm < w6.heap.size ∧ wz1.heap.size ≤ gm) := ⟨HTW.out.2.1, lt_of_block HTW.out.2.1, HTW.out.2.2⟩
  clear HTW
  -- more.Runs = append(append([]int{}, p.Runs...), 1 + run % 20)
  have hx1 : IntKind.i64.wrap a1 = a1 := wrap_in (by omega) (by omega)
  have htm : a1.tmod 20 = a1 % 20 := Int.tmod_eq_emod_of_nonneg h1.1
  have hx2 : IntKind.i64.wrap (a1.tmod 20) = a1.tmod 20 := by rw [htm]; exact wrap_in (by omega) (by omega)
  have hx3 : IntKind.i64.wrap (1 + a1.tmod 20) = 1 + a1.tmod 20 := by rw [htm]; exact wrap_in (by omega) (by omega)
  have HXX : Hid (1 ≤ 1 + a1.tmod 20 ∧ 1 + a1.tmod 20 ≤ 20) := by
   rw [htm]
   exact ⟨by omega, by omega⟩
  clear htm
  obtain ⟨xx, hxx⟩ : ∃ x, x = 1 + a1.tmod 20 := ⟨_, rfl⟩
  have HXV := Lib.hid hxx
  have A0 := Lib.hid (AS.start (E := IntE) (T := 3) (a := xx) w6.heap.size w6 (Nat.le_refl _))
  rw [← hxx] at HXX
  clear hxx
  refine wp_seq_k (fun K hK => ?_);refine region_seq (l := [0, 1, 2, 3, 4, 5, 6, 7, 8, 9, 10, 11]) (by kernel_rfl) ?_;refine seq_one ?_;revert hF;refine qe0 fun a hF => ?_
  have A1 := Lib.hid A0.out.lit
  clear A0
  generalize w6.alloc (.cells #[] 3) = wa1 at *
  obtain ⟨g0, hg0⟩ : ∃ x, x = w6.heap.size := ⟨_, rfl⟩
  have A1 : Hid (AS IntE 3 w6 w6.heap.size xx wa1 (some (.slice (some ⟨g0, 0, none⟩) 0 0, [])) none) := by rw [hg0]; exact A1.out
  rw [← hg0] at hF
  clear hg0
  have HP1 := Lib.hid ((HP.out.below HBZ.out).below A1.out.below)
  have p0 := boxed_cell (j := 0) HP1.out.box rfl
  obtain ⟨la1, lc1, wa2, hAPP, hA2⟩ := A1.out.app 22 22 Tryz.underlying22 info_int rfl (by decide) (ints_rcs HP1.out.runs hc) (D' := R) rfl (by omega)
  have A2 := Lib.hid hA2
  clear hA2 A1 HP1
  revert hF;refine zrc 1 [4, 4] [3, 4, 5, 6, 7, 8, 9, 10, 11] fun a hF => ?_;refine seq_one ?_;refine op_append rfl rfl rfl rfl rfl hF rfl rfl rfl hAPP (fun a hF => ?_);clear hAPP;revert hF;refine zrc 4 [1, 4, 4, 4] [8, 9, 10, 11] fun a hF => ?_;refine seq_one ?_;revert hF;refine qe1 fun a hF => ?_
  rw [← HXV.out]
  have A3 := Lib.hid (A2.out.one (arr := #[.int .i64 xx]) rfl)
  clear A2 p0
  generalize wa2.alloc (.cells #[.int .i64 xx] 3) = wa3 at *
  obtain ⟨g1, hg1⟩ : ∃ x, x = wa2.heap.size := ⟨_, rfl⟩
  rw [← hg1] at hF A3
  clear hg1
  obtain ⟨la2, lc2, wa4, hAPP, hA4⟩ := A3.out.app 22 22 Tryz.underlying22 info_int rfl (by decide) A3.out.rcs (D' := R ++ [xx]) rfl (by simp; omega)
  have A4 := Lib.hid hA4
  clear hA4 A3
  have hrl : R.length + 1 = (R ++ [xx]).length := by simp
  have HM4 : Hid (wa4.heap[gm]? = some (.cells #[.slice ra R.length c, .slice ga G.length d, .bool single] 25 (0, 0))) := (A4.out.below.block gm HGM.out.2.1).trans HGM.out.1
  have m0 := boxed_cell (j := 0) HM4.out rfl
  have f0 := Joins.unfrozen_of_block HM4.out 0
  have HBZ7 : Hid (Below wz1.heap.size wz1 (wa4.setCell ⟨gm, 0, none⟩ (.slice la2 (R.length + 1) lc2))) := (HBZ.out.trans (A4.out.below.mono HBZ.out.size)).setCell (by show _ ≤ gm; exact HGM.out.2.2) _
  have HM : Hid (PbAt (wa4.setCell ⟨gm, 0, none⟩ (.slice la2 (R.length + 1) lc2)) gm la2 ga lc2 d single (R ++ [xx]) G) :=
   ⟨by simp [World.setCell, Array.getElem?_modify, HM4.out], recs_ints (A4.out.set HGM.out.2.1), HP.out.groups.below HBZ7.out, HP.out.kit.below HBZ7.out⟩
  clear A4 HM4 hrl
  refine seq_one ?_;refine op_append rfl rfl rfl rfl rfl hF rfl rfl rfl hAPP (fun a hF => ?_);clear hAPP;revert hF;refine zrc 10 [4] [11] fun a hF => ?_;refine seq_one ?_;revert hF;refine qu2 fun a hF => ?_
  clear m0 f0 hx1 hx2 hx3
  generalize wa4.setCell ⟨gm, 0, none⟩ (.slice la2 (R.length + 1) lc2) = w7 at *
  have HB := Lib.hid (HB.out.trans (HBZ7.out.mono HB.out.size))
  have HP := Lib.hid (HP.out.below HBZ7.out)
  have HG1 := Lib.hid (HG1.out.below HBZ7.out)
  clear HBZ7 HBZ HGM
  have hnl : (R ++ [xx]).length ≤ 5 := by simp; omega
  have HLE := Lib.hid (pack_more (single := single) HV.out (x := xx) (by have := HXX.out; omega))
  obtain ⟨R2, hR2⟩ : ∃ x, x = R ++ [xx] := ⟨_, rfl⟩
  rw [← hR2] at HM HLE hnl
  clear hR2
  refine hK _ _ ?_;clear hK;refine wp_seq_k (fun K hK => ?_);refine wp_seq_k (fun K hK => ?_)
  have m0 := boxed_cell (j := 0) HM.out.box rfl
  have m1 := boxed_cell (j := 1) HM.out.box rfl
  have m2 := boxed_cell (j := 2) HM.out.box rfl
  revert hF;refine zrp [4] [1, 2] fun a hF => ?_;revert hF;refine zos fun K hK => ?_
  refine (refvalid_any la2 ga R2.length lc2 G.length d single _ R2 G w7 (by omega) (by omega) HM.out.runs HM.out.groups rfl).mono ?_
  rintro e w8 ⟨rfl, hb⟩
  have HB := Lib.hid (HB.out.trans (hb.mono HB.out.size))
  have HP := Lib.hid (HP.out.below hb)
  have HG1 := Lib.hid (HG1.out.below hb)
  have HM := Lib.hid (HM.out.below hb)
  clear hb m0 m1 m2
  cases hv2 : validS R2 G with
  | false =>
   clear hv2
   refine hK _ _ (fun a hF => ?_);clear hK K;revert hF;refine zre 2 [4] [2, 3, 4, 5, 11, 12, 14, 15, 58] fun a hF => ?_;refine hK _ _ ?_;clear hK
   refine cond_yes hF rfl ?_
   revert hF;refine zrs [1, 2] [10] fun a hF => ?_;refine wp_ret ?_;(try simp only [then_ret, block_ret, goto_ret]);revert hF;refine zq ?_
   exact ⟨rfl, HB.out⟩
  | true =>
   have HV2 := Lib.hid hv2
   clear hv2
   refine hK _ _ (fun a hF => ?_);clear hK K;revert hF;refine zre 2 [4] [2, 3, 4, 5, 11, 12, 14, 15, 58] fun a hF => ?_;refine hK _ _ ?_;clear hK
   refine cond_no hF rfl ?_
   refine wp_skip ?_
   refine hK _ _ ?_;clear hK;refine wp_seq_k (fun K hK => ?_)
   have m0 := boxed_cell (j := 0) HM.out.box rfl
   have m1 := boxed_cell (j := 1) HM.out.box rfl
   have m2 := boxed_cell (j := 2) HM.out.box rfl
   revert hF;refine zrp [4] [1, 2, 3, 4, 5, 6, 7, 8, 9, 10] fun a hF => ?_;revert hF;refine zos fun K hK => ?_
   refine (solve_good w8 la2 ga lc2 G.length d single R2 G (by omega) (by omega) hmd HM.out.runs HM.out.groups HV2.out HM.out.kit).mono ?_
   rintro e w9 hgd
   clear m0 m1 m2
   obtain ⟨sa2, sc2, pa2, l2, pc2, S2, T2, rfl, hb, hp, hst⟩ := good_val hnl (by omega) hgd
   clear hgd
   obtain ⟨Y, hY⟩ : ∃ x, x = packF single G G.length 0 (R2.map run0) := ⟨_, rfl⟩
   rw [← hY] at HLE ⊢
   clear hY
   have HB := Lib.hid (HB.out.trans (hb.mono HB.out.size))
   have HP := Lib.hid (HP.out.below hb)
   have HG1 := Lib.hid (HG1.out.below hb)
   have HPS := Lib.hid (And.intro hp hst)
   clear hb hp hst HM
   refine hK _ _ (fun a hF => ?_);clear hK K;revert hF;refine zrc 2 [1, 4, 4, 4] [6, 7, 8, 9, 10] fun a hF => ?_;refine seq_one ?_;revert hF;refine qe0 fun a hF => ?_
   obtain ⟨wa2, wb2, bx2, bp2, e1, e2, e3, e4, hSV, hSV2, HN⟩ := got_new (sc := sc2) (B := Y) (pc := pc2) HPS.out.1 HPS.out.2
   rw [e1]
   rw [← e2] at hF
   clear e1
   refine seq_one ?_;revert hF;refine qe0 fun a hF => ?_
   try rw [e3]
   rw [← e4] at hF
   clear e2 e3 e4
   refine seq_one ?_;refine op_storev rfl rfl hF rfl rfl rfl rfl hSV ?_;clear hF;refine fun a hF => ?_
   clear hSV
   have hSV := hSV2
   clear hSV2
   refine seq_one ?_;refine op_storev rfl rfl hF rfl rfl rfl rfl hSV ?_;clear hF;refine fun a hF => ?_
   clear hSV
   have HB := Lib.hid (HB.out.trans (HN.out.1.mono HB.out.size))
   have HP := Lib.hid (HP.out.below HN.out.1)
   have HG1 := Lib.hid (HG1.out.below HN.out.1)
   have HG2 := Lib.hid HN.out.2
   clear HN HPS
   generalize (wb2.setRow bx2 _).setRow bp2 _ = wz2 at *
   revert hF;refine zre 10 [2] [2, 3, 4, 5, 11, 12, 14, 16, 18] fun a hF => ?_;refine hK _ _ ?_;clear hK;refine wp_seq_k (fun K hK => ?_)
   have x1 := boxed_cell (j := 1) HG1.out.x rfl
   have y1 := boxed_cell (j := 1) HG2.out.x rfl
   have hle := HLE.out
   rw [← HXE.out] at hle
   have hq : decide (Y < X) = false := decide_eq_false (by omega)
   have hq' : ¬ Y < X := by omega
   revert hF;refine zrs [1, 4, 1, 1, 4, 5, 1, 4, 4, 4, 4, 5, 5] [2, 3, 4, 5, 11, 12, 78] fun a hF => ?_
   clear hq hq' hle x1 y1 HG2 HLE
   refine cond_no hF rfl ?_
   refine wp_skip ?_
   refine hK _ _ ?_;clear hK;refine wp_seq_k (fun K hK => ?_)
   have p2 := boxed_cell (j := 2) HP.out.box rfl
   revert hF;refine zrs [4, 4] [2, 3, 4, 5, 11, 12, 80] fun a hF => ?_
   clear p2
   cases single with
   | true =>
    refine cond_yes hF rfl ?_
    revert hF;refine zrs [1, 2] [10] fun a hF => ?_;refine wp_ret ?_;(try simp only [then_ret, block_ret, goto_ret]);revert hF;refine zq ?_
    exact ⟨rfl, HB.out⟩
   | false =>
   refine cond_no hF rfl ?_
   refine wp_skip ?_
   refine hK _ _ ?_;clear hK
   have hy1 : IntKind.i64.wrap a2 = a2 := wrap_in (by omega) (by omega)
   have htm : a2.tmod 12 = a2 % 12 := Int.tmod_eq_emod_of_nonneg h2.1
   have hy2 : IntKind.i64.wrap (a2.tmod 12) = a2.tmod 12 := by rw [htm]; exact wrap_in (by omega) (by omega)
   have hy3 : IntKind.i64.wrap (1 + a2.tmod 12) = 1 + a2.tmod 12 := by rw [htm]; exact wrap_in (by omega) (by omega)
   have hy4 : IntKind.i64.wrap a3 = a3 := wrap_in (by omega) (by omega)
   have HSZ : Hid (1 ≤ 1 + a2.tmod 12 ∧ 1 + a2.tmod 12 ≤ 12) := by
    rw [htm]
    exact ⟨by omega, by omega⟩
   clear htm
   refine wp_seq_k (fun K hK => ?_);revert hF;refine zrp [1, 4, 4, 4, 1, 4, 5] [7, 8] fun a hF => ?_;refine seq_one ?_;revert hF;refine qe0 fun a hF => ?_
   obtain ⟨wa, gg, hwa, hgv, hSV, HTW⟩ := var_new wz2 49 #[.int .i64 0, .int .i64 0] #[.int .i64 (1 + a2.tmod 12), .int .i64 a3] (by kernel_rfl) rfl (by simp [Value.oneCell'])
   rw [hwa]
   rw [← hgv] at hF
   clear hwa hgv
   refine seq_one ?_;refine op_storev rfl rfl hF rfl rfl rfl rfl hSV ?_;clear hF;refine fun a hF => ?_
   clear hSV
   refine hK _ _ ?_;clear hK
   generalize wa.setRow gg #[.int .i64 (1 + a2.tmod 12), .int .i64 a3] = w10 at *
   clear hy1 hy2 hy3 hy4
   have HGG := Lib.hid HTW.out.2.1
   have HBZ := Lib.hid HTW.out.1
   have HGN := Lib.hid HTW.out.2.2
   clear HTW
   generalize 1 + a2.tmod 12 = sz at *
   have p0 := boxed_cell (j := 0) (HP.out.below HBZ.out).box rfl
   have p1 := boxed_cell (j := 1) (HP.out.below HBZ.out).box rfl
   have p2 := boxed_cell (j := 2) (HP.out.below HBZ.out).box rfl
   refine wp_seq_k (fun K hK => ?_);revert hF;refine zrp [4] [1, 2] fun a hF => ?_;refine seq_one ?_;revert hF;refine qe0 fun a hF => ?_
   obtain ⟨wa, gw, hwa, hgv, hSV, HTW⟩ := var_new w10 25 #[.slice none 0 0, .slice none 0 0, .bool false] #[.slice ra R.length c, .slice ga G.length d, .bool false] (by kernel_rfl) rfl (by simp [Value.oneCell'])
   rw [hwa]
   rw [← hgv] at hF
   clear hwa hgv
   refine seq_one ?_;refine op_storev rfl rfl hF rfl rfl rfl rfl hSV ?_;clear hF;refine fun a hF => ?_
   clear hSV
   refine hK _ _ ?_;clear hK
   generalize wa.setRow gw #[.slice ra R.length c, .slice ga G.length d, .bool false] = w11 at *
   clear p0 p1 p2
   have HBZ2 := Lib.hid (HBZ.out.trans (HTW.out.1.mono HBZ.out.size))
   have HGW : Hid (w11.heap[gw]? = some (.cells #[.slice ra R.length c, .slice ga G.length d, .bool false] 25 (0, 0)) ∧ wz2.heap.size ≤ gw) := ⟨HTW.out.2.1, Nat.le_trans HBZ.out.size HTW.out.2.2⟩
   have HGG2 := Lib.hid ((HTW.out.1.block gg (lt_of_block HGG.out)).trans HGG.out)
   clear HTW HBZ HGG
   refine seq_cut (fun a' w' => ∃ (la : Option Addr) (lc : Nat), FrF 171 [] [(4, .int .u8 a4), (5, .pointer (some ⟨gp, 0, none⟩)), (11, .bool true), (12, .pointer (some ⟨bx1, 0, none⟩)), (19, .pointer (some ⟨gg, 0, none⟩)), (20, .pointer (some ⟨gw, 0, none⟩))] a' ∧ Hid (Below wz2.heap.size wz2 w' ∧ w'.heap[gg]? = some (.cells #[.int .i64 sz, .int .i64 a3] 49 (0, 0))) ∧ Hid (PbAt w' gw ra la c lc false R (G ++ [(sz, a3)]) ∧ (G ++ [(sz, a3)]).length ≤ lc)) (fun KD hKD => ?_) ?_
   ·
    have hbd := below_d (Below.refl w11.heap.size w11)
    have HBd := Lib.hid (HBZ2.out.trans (hbd.mono HBZ2.out.size))
    have HGWd : Hid (w11.drew.heap[gw]? = some (.cells #[.slice ra R.length c, .slice ga G.length d, .bool false] 25 (0, 0)) ∧ wz2.heap.size ≤ gw ∧ gw < w11.drew.heap.size) := ⟨HGW.out.1, HGW.out.2, lt_of_block HGW.out.1⟩
    have HGGd : Hid (w11.drew.heap[gg]? = some (.cells #[.int .i64 sz, .int .i64 a3] 49 (0, 0))) := HGG2.out
    have HPd := Lib.hid (HP.out.below HBd.out)
    have p1 := boxed_cell (j := 1) HPd.out.box rfl
    have q0 := boxed_cell (j := 0) HGGd.out rfl
    have q1 := boxed_cell (j := 1) HGGd.out rfl
    have HST : Hid (∀ w', Below w11.drew.heap.size w11.drew w' → True ∧ w'.cell? ⟨gp, 1, none⟩ = some (.slice ga G.length d) ∧ w'.cell? ⟨gg, 0, none⟩ = some (.int .i64 sz) ∧ w'.cell? ⟨gg, 1, none⟩ = some (.int .i64 a3)) := fun w' hb => ⟨trivial, Below.cell_of hb p1, Below.cell_of hb q0, Below.cell_of hb q1⟩
    clear p1 q0 q1 hbd HBZ2 HGW HGG2
    obtain ⟨B0, hB0⟩ : ∃ x, x = w11.drew.heap.size := ⟨_, rfl⟩
    have HBB : Hid (∀ x, Below B0 w11.drew x → Below w11.drew.heap.size w11.drew x) := fun x h => by rw [← hB0]; exact h
    have HBL : Hid (gw < B0) := by rw [hB0]; exact HGWd.out.2.2
    have HAS := Lib.hid (AS.start (E := SpotE) (T := 49) (a := (sz, a3)) B0 w11.drew (by rw [hB0]; exact Nat.le_refl _))
    clear hB0
    refine region_any (by kernel_rfl) ?_;generalize w11.drew = wd at *;revert hF;refine zhc (fuel := 6) (fun w' => True ∧ w'.cell? ⟨gp, 1, none⟩ = some (.slice ga G.length d) ∧ w'.cell? ⟨gg, 0, none⟩ = some (.int .i64 sz) ∧ w'.cell? ⟨gg, 1, none⟩ = some (.int .i64 a3)) (HST.out _ (Below.refl _ _)) [24, 35, 67] fun a hF => ?_;refine held_two (n := 0) (m := 5) (fuel := 5) (by kernel_rfl) ?_ ?_
    ·
     have HN := Lib.hid HAS.out.lit
     clear HAS
     revert hF;refine qe0 fun a hF => ⟨?_, ?_⟩
     ·
      intro _
      exact HST.out _ (HBB.out _ HN.out.below)
     generalize wd.alloc (.cells #[] 49) = x1 at *
     obtain ⟨g0, hg0⟩ : ∃ g, g = wd.heap.size := ⟨_, rfl⟩
     rw [← hg0] at hF HN
     have HAS := HN
     clear hg0 HN
     refine held_two (n := 3) (m := 5) (fuel := 4) (by kernel_rfl) ?_ ?_
     ·
      obtain ⟨la3, lc3, x2, hAPP, has⟩ := HAS.out.app 23 23 (u := .slice ga G.length d) Tryz.underlying23 info_group rfl (by decide) (pairs_rcs (HPd.out.groups.below (HBB.out _ HAS.out.below)) hd) (D' := G) rfl (by omega)
      have HN := Lib.hid has
      clear HAS has
      refine op_append rfl rfl rfl rfl rfl hF rfl rfl rfl hAPP (fun a hF => ⟨?_, ?_⟩)
      ·
       intro _
       exact HST.out _ (HBB.out _ HN.out.below)
      have HAS := HN
      clear hAPP HN
      have HN := Lib.hid (HAS.out.one (arr := #[.int .i64 sz, .int .i64 a3]) rfl)
      clear HAS
      refine held_one (n := 5) (fuel := 3) (by kernel_rfl) ?_;revert hF;refine qe1 fun a hF => ⟨?_, ?_⟩
      ·
       intro _
       exact HST.out _ (HBB.out _ HN.out.below)
      generalize x2.alloc (.cells #[.int .i64 sz, .int .i64 a3] 49) = x3 at *
      obtain ⟨g5, hg5⟩ : ∃ g, g = x2.heap.size := ⟨_, rfl⟩
      rw [← hg5] at hF HN
      have HAS := HN
      clear hg5 HN
      obtain ⟨dm, dk, x4, hAPP, has⟩ := HAS.out.app 23 23 Tryz.underlying23 info_group rfl (by decide) HAS.out.rcs (D' := G ++ [(sz, a3)]) rfl (by simp only [List.length_append, List.length_singleton]; omega)
      have HN := Lib.hid has
      clear HAS has
      refine held_one (n := 6) (fuel := 2) (by kernel_rfl) ?_;refine op_append rfl rfl rfl rfl rfl hF rfl rfl rfl hAPP (fun a hF => ⟨?_, ?_⟩)
      ·
       intro _
       exact HST.out _ (HBB.out _ HN.out.below)
      have HAS := HN
      clear hAPP HN
      have HCAP := Lib.hid (own_cap (HAS.out.own _ _ rfl))
      have hdl : (G ++ [(sz, a3)]).length = G.length + 1 := by rw [List.length_append]; rfl
      rw [hdl] at hF
      have HBX := Lib.hid (HBB.out _ HAS.out.below)
      have HMx := Lib.hid ((HBX.out.block gw HGWd.out.2.2).trans HGWd.out.1)
      have m1 := boxed_cell (j := 1) HMx.out rfl
      have fm := Joins.unfrozen_of_block HMx.out 1
      have HBE : Hid (Below wz2.heap.size wz2 (x4.setCell ⟨gw, 1, none⟩ (.slice dm (G.length + 1) dk))) := (HBd.out.trans (HBX.out.mono HBd.out.size)).setCell (by show _ ≤ gw; exact HGWd.out.2.1) _
      have HNEP : Hid (gp ≠ gw) := fun e => by
       have h1 := lt_of_block HP.out.box
       have h2 := HGWd.out.2.1
       omega
      have HGGe := Lib.hid ((tupd_set (j := 1) HMx.out (.slice dm (G.length + 1) dk)).keep ((HBX.out.block gg (lt_of_block HGGd.out)).trans HGGd.out) (by decide))
      revert hF;refine zhg (fuel := 1) (HST.out _ HBX.out) [120] fun a hF => ?_;refine held_one (n := 8) (fuel := 0) (by kernel_rfl) ?_;revert hF;refine qu2 fun a hF => ⟨?_, ?_⟩
      ·
       intro _
       exact ⟨trivial, boxed_cell (j := 1) ((Below.heap_setCell _ _ _ _ HNEP.out).trans (HPd.out.below HBX.out).box) rfl, boxed_cell (j := 0) HGGe.out rfl, boxed_cell (j := 1) HGGe.out rfl⟩
      refine held_end (by kernel_rfl) ?_;replace hF := hF.kp [4, 5, 11, 12, 19, 20] rfl
      have HGS := Lib.hid (HAS.out.set HBL.out (o := 1) (v := .slice dm (G.length + 1) dk))
      refine hKD _ _ ⟨dm, dk, hF, ⟨HBE.out, HGGe.out⟩, ⟨?_, HP.out.runs.below HBE.out, recs_pairs HGS.out, HP.out.kit.below HBE.out⟩, HCAP.out⟩
      rw [hdl]
      simp [World.setCell, Array.getElem?_modify, HMx.out]
     ·
      have HN := Lib.hid (HAS.out.one (arr := #[.int .i64 sz, .int .i64 a3]) rfl)
      clear HAS
      revert hF;refine qe1 fun a hF => ⟨?_, ?_⟩
      ·
       intro _
       exact HST.out _ (HBB.out _ HN.out.below)
      generalize x1.alloc (.cells #[.int .i64 sz, .int .i64 a3] 49) = x2 at *
      obtain ⟨g5, hg5⟩ : ∃ g, g = x1.heap.size := ⟨_, rfl⟩
      rw [← hg5] at hF HN
      have HAS := HN
      clear hg5 HN
      obtain ⟨la3, lc3, x3, hAPP, has⟩ := HAS.out.app 23 23 (u := .slice ga G.length d) Tryz.underlying23 info_group rfl (by decide) (pairs_rcs (HPd.out.groups.below (HBB.out _ HAS.out.below)) hd) (D' := G) rfl (by omega)
      have HN := Lib.hid has
      clear HAS has
      refine held_one (n := 3) (fuel := 3) (by kernel_rfl) ?_;refine op_append rfl rfl rfl rfl rfl hF rfl rfl rfl hAPP (fun a hF => ⟨?_, ?_⟩)
      ·
       intro _
       exact HST.out _ (HBB.out _ HN.out.below)
      have HAS := HN
      clear hAPP HN
      obtain ⟨dm, dk, x4, hAPP, has⟩ := HAS.out.app 23 23 Tryz.underlying23 info_group rfl (by decide) HAS.out.rcs (D' := G ++ [(sz, a3)]) rfl (by simp only [List.length_append, List.length_singleton]; omega)
      have HN := Lib.hid has
      clear HAS has
      refine held_one (n := 6) (fuel := 2) (by kernel_rfl) ?_;refine op_append rfl rfl rfl rfl rfl hF rfl rfl rfl hAPP (fun a hF => ⟨?_, ?_⟩)
      ·
       intro _
       exact HST.out _ (HBB.out _ HN.out.below)
      have HAS := HN
      clear hAPP HN
      have HCAP := Lib.hid (own_cap (HAS.out.own _ _ rfl))
      have hdl : (G ++ [(sz, a3)]).length = G.length + 1 := by rw [List.length_append]; rfl
      rw [hdl] at hF
      have HBX := Lib.hid (HBB.out _ HAS.out.below)
      have HMx := Lib.hid ((HBX.out.block gw HGWd.out.2.2).trans HGWd.out.1)
      have m1 := boxed_cell (j := 1) HMx.out rfl
      have fm := Joins.unfrozen_of_block HMx.out 1
      have HBE : Hid (Below wz2.heap.size wz2 (x4.setCell ⟨gw, 1, none⟩ (.slice dm (G.length + 1) dk))) := (HBd.out.trans (HBX.out.mono HBd.out.size)).setCell (by show _ ≤ gw; exact HGWd.out.2.1) _
      have HNEP : Hid (gp ≠ gw) := fun e => by
       have h1 := lt_of_block HP.out.box
       have h2 := HGWd.out.2.1
       omega
      have HGGe := Lib.hid ((tupd_set (j := 1) HMx.out (.slice dm (G.length + 1) dk)).keep ((HBX.out.block gg (lt_of_block HGGd.out)).trans HGGd.out) (by decide))
      revert hF;refine zhg (fuel := 1) (HST.out _ HBX.out) [120] fun a hF => ?_;refine held_one (n := 8) (fuel := 0) (by kernel_rfl) ?_;revert hF;refine qu2 fun a hF => ⟨?_, ?_⟩
      ·
       intro _
       exact ⟨trivial, boxed_cell (j := 1) ((Below.heap_setCell _ _ _ _ HNEP.out).trans (HPd.out.below HBX.out).box) rfl, boxed_cell (j := 0) HGGe.out rfl, boxed_cell (j := 1) HGGe.out rfl⟩
      refine held_end (by kernel_rfl) ?_;replace hF := hF.kp [4, 5, 11, 12, 19, 20] rfl
      have HGS := Lib.hid (HAS.out.set HBL.out (o := 1) (v := .slice dm (G.length + 1) dk))
      refine hKD _ _ ⟨dm, dk, hF, ⟨HBE.out, HGGe.out⟩, ⟨?_, HP.out.runs.below HBE.out, recs_pairs HGS.out, HP.out.kit.below HBE.out⟩, HCAP.out⟩
      rw [hdl]
      simp [World.setCell, Array.getElem?_modify, HMx.out]
    ·
     have HN := Lib.hid (HAS.out.one (arr := #[.int .i64 sz, .int .i64 a3]) rfl)
     clear HAS
     revert hF;refine qe1 fun a hF => ⟨?_, ?_⟩
     ·
      intro _
      exact HST.out _ (HBB.out _ HN.out.below)
     generalize wd.alloc (.cells #[.int .i64 sz, .int .i64 a3] 49) = x1 at *
     obtain ⟨g5, hg5⟩ : ∃ g, g = wd.heap.size := ⟨_, rfl⟩
     rw [← hg5] at hF HN
     have HAS := HN
     clear hg5 HN
     have HN := Lib.hid HAS.out.lit
     clear HAS
     refine held_one (n := 0) (fuel := 4) (by kernel_rfl) ?_;revert hF;refine qe0 fun a hF => ⟨?_, ?_⟩
     ·
      intro _
      exact HST.out _ (HBB.out _ HN.out.below)
     generalize x1.alloc (.cells #[] 49) = x2 at *
     obtain ⟨g0, hg0⟩ : ∃ g, g = x1.heap.size := ⟨_, rfl⟩
     rw [← hg0] at hF HN
     have HAS := HN
     clear hg0 HN
     obtain ⟨la3, lc3, x3, hAPP, has⟩ := HAS.out.app 23 23 (u := .slice ga G.length d) Tryz.underlying23 info_group rfl (by decide) (pairs_rcs (HPd.out.groups.below (HBB.out _ HAS.out.below)) hd) (D' := G) rfl (by omega)
     have HN := Lib.hid has
     clear HAS has
     refine held_one (n := 3) (fuel := 3) (by kernel_rfl) ?_;refine op_append rfl rfl rfl rfl rfl hF rfl rfl rfl hAPP (fun a hF => ⟨?_, ?_⟩)
     ·
      intro _
      exact HST.out _ (HBB.out _ HN.out.below)
     have HAS := HN
     clear hAPP HN
     obtain ⟨dm, dk, x4, hAPP, has⟩ := HAS.out.app 23 23 Tryz.underlying23 info_group rfl (by decide) HAS.out.rcs (D' := G ++ [(sz, a3)]) rfl (by simp only [List.length_append, List.length_singleton]; omega)
     have HN := Lib.hid has
     clear HAS has
     refine held_one (n := 6) (fuel := 2) (by kernel_rfl) ?_;refine op_append rfl rfl rfl rfl rfl hF rfl rfl rfl hAPP (fun a hF => ⟨?_, ?_⟩)
     ·
      intro _
      exact HST.out _ (HBB.out _ HN.out.below)
     have HAS := HN
     clear hAPP HN
     have HCAP := Lib.hid (own_cap (HAS.out.own _ _ rfl))
     have hdl : (G ++ [(sz, a3)]).length = G.length + 1 := by rw [List.length_append]; rfl
     rw [hdl] at hF
     have HBX := Lib.hid (HBB.out _ HAS.out.below)
     have HMx := Lib.hid ((HBX.out.block gw HGWd.out.2.2).trans HGWd.out.1)
     have m1 := boxed_cell (j := 1) HMx.out rfl
     have fm := Joins.unfrozen_of_block HMx.out 1
     have HBE : Hid (Below wz2.heap.size wz2 (x4.setCell ⟨gw, 1, none⟩ (.slice dm (G.length + 1) dk))) := (HBd.out.trans (HBX.out.mono HBd.out.size)).setCell (by show _ ≤ gw; exact HGWd.out.2.1) _
     have HNEP : Hid (gp ≠ gw) := fun e => by
      have h1 := lt_of_block HP.out.box
      have h2 := HGWd.out.2.1
      omega
     have HGGe := Lib.hid ((tupd_set (j := 1) HMx.out (.slice dm (G.length + 1) dk)).keep ((HBX.out.block gg (lt_of_block HGGd.out)).trans HGGd.out) (by decide))
     revert hF;refine zhg (fuel := 1) (HST.out _ HBX.out) [120] fun a hF => ?_;refine held_one (n := 8) (fuel := 0) (by kernel_rfl) ?_;revert hF;refine qu2 fun a hF => ⟨?_, ?_⟩
     ·
      intro _
      exact ⟨trivial, boxed_cell (j := 1) ((Below.heap_setCell _ _ _ _ HNEP.out).trans (HPd.out.below HBX.out).box) rfl, boxed_cell (j := 0) HGGe.out rfl, boxed_cell (j := 1) HGGe.out rfl⟩
     refine held_end (by kernel_rfl) ?_;replace hF := hF.kp [4, 5, 11, 12, 19, 20] rfl
     have HGS := Lib.hid (HAS.out.set HBL.out (o := 1) (v := .slice dm (G.length + 1) dk))
     refine hKD _ _ ⟨dm, dk, hF, ⟨HBE.out, HGGe.out⟩, ⟨?_, HP.out.runs.below HBE.out, recs_pairs HGS.out, HP.out.kit.below HBE.out⟩, HCAP.out⟩
     rw [hdl]
     simp [World.setCell, Array.getElem?_modify, HMx.out]
   clear hF HGG2 HGW HBZ2
   rintro a w12 ⟨la9, lc9, hF, HBG, HW⟩
   have HB := Lib.hid (HB.out.trans (HBG.out.1.mono HB.out.size))
   have HP := Lib.hid (HP.out.below HBG.out.1)
   have HG1 := Lib.hid (HG1.out.below HBG.out.1)
   have HGA : Hid (GgAt w12 gg sz a3) := ⟨HBG.out.2⟩
   clear HBG
   have HV3 : Hid (validS R (G ++ [(sz, a3)]) = true) := valid_app HV.out (by omega) HSZ.out ⟨h3.1, by have := h3.2; show a3 ≤ 1000000; omega⟩
   have HWD := Lib.hid (pack_wide HV.out HV3.out)
   rw [← HXE.out] at HWD
   have hm5 : (G ++ [(sz, a3)]).length ≤ 5 := by simp; omega
   obtain ⟨G2, hG2⟩ : ∃ x, x = G ++ [(sz, a3)] := ⟨_, rfl⟩
   rw [← hG2] at HW HV3 HWD hm5
   clear hG2
   refine wp_seq_k (fun K hK => ?_)
   have m0 := boxed_cell (j := 0) HW.out.1.box rfl
   have m1 := boxed_cell (j := 1) HW.out.1.box rfl
   have m2 := boxed_cell (j := 2) HW.out.1.box rfl
   revert hF;refine zrp [4] [1, 2, 3, 4, 5, 6, 7, 8, 9, 10] fun a hF => ?_;revert hF;refine zos fun K hK => ?_
   refine (solve_good w12 ra la9 c G2.length lc9 false R G2 (by omega) (by omega) HW.out.2 HW.out.1.runs HW.out.1.groups HV3.out HW.out.1.kit).mono ?_
   rintro e w13 hgd
   clear m0 m1 m2
   obtain ⟨sa3, sc3, pa3, l3, pc3, S3, T3, rfl, hb, hp, hst⟩ := good_val (by omega) hm5 hgd
   clear hgd
   obtain ⟨Z, hZ⟩ : ∃ x, x = packF false G2 G2.length 0 (R.map run0) := ⟨_, rfl⟩
   rw [← hZ] at HWD ⊢
   clear hZ
   have HB := Lib.hid (HB.out.trans (hb.mono HB.out.size))
   have HP := Lib.hid (HP.out.below hb)
   have HG1 := Lib.hid (HG1.out.below hb)
   have HGA := Lib.hid (HGA.out.below hb)
   have HPS := Lib.hid (And.intro hp hst)
   clear hb hp hst HW
   refine hK _ _ (fun a hF => ?_);clear hK K;revert hF;refine zrc 2 [1, 4, 4, 4] [6, 7, 8, 9, 10] fun a hF => ?_;refine seq_one ?_;revert hF;refine qe0 fun a hF => ?_
   obtain ⟨wa3, wb3, bx3, bp3, e1, e2, e3, e4, hSV, hSV2, HN⟩ := got_new (sc := sc3) (B := Z) (pc := pc3) HPS.out.1 HPS.out.2
   rw [e1]
   rw [← e2] at hF
   clear e1
   refine seq_one ?_;revert hF;refine qe0 fun a hF => ?_
   try rw [e3]
   rw [← e4] at hF
   clear e2 e3 e4
   refine seq_one ?_;refine op_storev rfl rfl hF rfl rfl rfl rfl hSV ?_;clear hF;refine fun a hF => ?_
   clear hSV
   have hSV := hSV2
   clear hSV2
   refine seq_one ?_;refine op_storev rfl rfl hF rfl rfl rfl rfl hSV ?_;clear hF;refine fun a hF => ?_
   clear hSV
   have HB := Lib.hid (HB.out.trans (HN.out.1.mono HB.out.size))
   have HP := Lib.hid (HP.out.below HN.out.1)
   have HG1 := Lib.hid (HG1.out.below HN.out.1)
   have HGA := Lib.hid (HGA.out.below HN.out.1)
   have HG3 := Lib.hid HN.out.2
   clear HN HPS
   generalize (wb3.setRow bx3 _).setRow bp3 _ = wz3 at *
   revert hF;refine zre 10 [2] [4, 5, 11, 12, 19, 21, 23] fun a hF => ?_;refine hK _ _ ?_;clear hK
   have HXB : Hid (0 ≤ X ∧ X ≤ 60000000) := by
    have h5 := packF_range (single := false) (k := G.length) (g := 0) (L := R.map run0) (validS_parts HV.out).2.2 (by omega)
    have h6 := packF_start (single := false) (G := G) (R := R) G.length 0
    rw [HXE.out]
    exact ⟨h6, by omega⟩
   have hxb := HXB.out
   have hsz := HSZ.out
   have hwd := HWD.out
   dsimp only at hwd hsz
   have hmu : 0 ≤ sz * a3 ∧ sz * a3 ≤ 3060 := ⟨Int.mul_nonneg (by omega) h3.1, Int.le_trans (Int.mul_le_mul hsz.2 h3.2 h3.1 (by omega)) (by omega)⟩
   have hw1 : IntKind.i64.wrap (sz * a3) = sz * a3 := wrap_in (by omega) (by omega)
   have hw2 : IntKind.i64.wrap (X + sz * a3) = X + sz * a3 := wrap_in (by omega) (by omega)
   have hq : decide (Z < X) = false := decide_eq_false (by omega)
   have hq' : ¬ Z < X := by omega
   have hq2 : decide (X + sz * a3 < Z) = false := decide_eq_false (by omega)
   have hq2' : ¬ X + sz * a3 < Z := by omega
   clear hxb hsz hwd hmu
   have x1 := boxed_cell (j := 1) HG1.out.x rfl
   have z1 := boxed_cell (j := 1) HG3.out.x rfl
   have q0 := boxed_cell (j := 0) HGA.out.box rfl
   have q1 := boxed_cell (j := 1) HGA.out.box rfl
   refine wp_seq_k (fun K hK => ?_);revert hF;refine zrs [1, 4, 1, 4, 4, 4, 4, 5, 5, 1, 4, 4, 4, 4, 4, 4, 4, 4, 5, 5, 5, 5] [4, 5, 11, 12, 125] fun a hF => ?_
   clear hw1 hw2 hq hq' hq2 hq2' x1 z1 q0 q1 HG3 HGA HWD
   refine cond_no hF rfl ?_
   refine wp_skip ?_
   refine hK _ _ ?_;clear hK;refine wp_seq_k (fun K hK => ?_)
   have p0 := boxed_cell (j := 0) HP.out.box rfl
   by_cases hR0 : R.length = 0
   ·
    have hq : ((R.length : Int) == 0) = true := by simp [hR0]
    revert hF;refine zrs [4, 4, 4, 4] [4, 5, 11, 12, 129] fun a hF => ?_
    clear hq p0
    refine cond_yes hF rfl ?_
    revert hF;refine zrs [1, 2] [10] fun a hF => ?_;refine wp_ret ?_;(try simp only [then_ret, block_ret, goto_ret]);revert hF;refine zq ?_
    exact ⟨rfl, HB.out⟩
   have hq : ((R.length : Int) == 0) = false := by
    have : ¬ (R.length : Int) = 0 := by omega
    simpa using this
   revert hF;refine zrs [4, 4, 4, 4] [4, 5, 11, 12, 129] fun a hF => ?_
   clear hq p0
   refine cond_no hF rfl ?_
   refine wp_skip ?_
   refine hK _ _ ?_;clear hK
   have p0 := boxed_cell (j := 0) HP.out.box rfl
   have p1 := boxed_cell (j := 1) HP.out.box rfl
   have p2 := boxed_cell (j := 2) HP.out.box rfl
   refine wp_seq_k (fun K hK => ?_);revert hF;refine zrp [4] [1, 2] fun a hF => ?_;refine seq_one ?_;revert hF;refine qe0 fun a hF => ?_
   obtain ⟨wa, gl, hwa, hgv, hSV, HTW⟩ := var_new wz3 25 #[.slice none 0 0, .slice none 0 0, .bool false] #[.slice ra R.length c, .slice ga G.length d, .bool false] (by kernel_rfl) rfl (by simp [Value.oneCell'])
   rw [hwa]
   rw [← hgv] at hF
   clear hwa hgv
   refine seq_one ?_;refine op_storev rfl rfl hF rfl rfl rfl rfl hSV ?_;clear hF;refine fun a hF => ?_
   clear hSV
   refine hK _ _ ?_;clear hK
   generalize wa.setRow gl #[.slice ra R.length c, .slice ga G.length d, .bool false] = w14 at *
   clear p0 p1 p2
   have HBZ := Lib.hid HTW.out.1
   have HGL : Hid (w14.heap[gl]? = some (.cells #[.slice ra R.length c, .slice ga G.length d, .bool false] 25 (0, 0)) ∧ gl < w14.heap.size ∧ wz3.heap.size ≤ gl) := ⟨HTW.out.2.1, lt_of_block HTW.out.2.1, HTW.out.2.2⟩
   clear HTW
   obtain ⟨B0, hB0⟩ : ∃ x, x = w14.heap.size := ⟨_, rfl⟩
   have HBB : Hid (∀ x, Below B0 w14 x → Below w14.heap.size w14 x) := fun x h => by rw [← hB0]; exact h
   have HBL : Hid (gl < B0 ∧ wz3.heap.size ≤ B0) := by rw [hB0]; exact ⟨HGL.out.2.1, HBZ.out.size⟩
   have A0 := Lib.hid (AS.start (E := IntE) (T := 3) (a := 0) B0 w14 (by rw [hB0]; exact Nat.le_refl _))
   clear hB0
   refine wp_seq_k (fun K hK => ?_);refine region_seq (l := [0, 1, 2, 3, 4, 5]) (by kernel_rfl) ?_;refine seq_one ?_;revert hF;refine qe0 fun a hF => ?_
   have A1 := Lib.hid A0.out.lit
   clear A0
   generalize w14.alloc (.cells #[] 3) = wa5 at *
   obtain ⟨g0, hg0⟩ : ∃ x, x = w14.heap.size := ⟨_, rfl⟩
   rw [← hg0] at hF A1
   clear hg0
   have HP1 := Lib.hid ((HP.out.below HBZ.out).below (HBB.out _ A1.out.below))
   have p0 := boxed_cell (j := 0) HP1.out.box rfl
   obtain ⟨la6, lc6, wa6, hAPP, hA2⟩ := A1.out.app 22 22 Tryz.underlying22 info_int rfl (by decide) (ints_rcs HP1.out.runs hc) (D' := R) rfl (by omega)
   have A2 := Lib.hid hA2
   clear hA2 A1 HP1
   have HM4 : Hid (wa6.heap[gl]? = some (.cells #[.slice ra R.length c, .slice ga G.length d, .bool false] 25 (0, 0))) := ((HBB.out _ A2.out.below).block gl HGL.out.2.1).trans HGL.out.1
   have m0 := boxed_cell (j := 0) HM4.out rfl
   have f0 := Joins.unfrozen_of_block HM4.out 0
   have HBZ7 : Hid (Below wz3.heap.size wz3 (wa6.setCell ⟨gl, 0, none⟩ (.slice la6 R.length lc6))) := (HBZ.out.trans ((HBB.out _ A2.out.below).mono HBZ.out.size)).setCell (by show _ ≤ gl; exact HGL.out.2.2) _
   have HLB : Hid ((wa6.setCell ⟨gl, 0, none⟩ (.slice la6 R.length lc6)).heap[gl]? = some (.cells #[.slice la6 R.length lc6, .slice ga G.length d, .bool false] 25 (0, 0))) := by
    show _ = _
    simp [World.setCell, Array.getElem?_modify, HM4.out]
   have HOW : Hid ((wa6.setCell ⟨gl, 0, none⟩ (.slice la6 R.length lc6)).ownsRow B0 3 1 (.slice la6 R.length lc6) R.length (flat IntE R)) := row_of_heap (A2.out.own _ _ rfl) fun b hb => Below.heap_setCell _ _ _ _ (by
    have := ((A2.out.own _ _ rfl).lt b hb).1
    have := HBL.out.1
    dsimp only
    omega)
   clear A2 HM4
   revert hF;refine zrc 1 [4, 4] [3, 4, 5] fun a hF => ?_;refine seq_one ?_;refine op_append rfl rfl rfl rfl rfl hF rfl rfl rfl hAPP (fun a hF => ?_);clear hAPP;revert hF;refine zrc 4 [4] [5] fun a hF => ?_;refine seq_one ?_;revert hF;refine qu2 fun a hF => ?_
   clear m0 f0 p0
   generalize wa6.setCell ⟨gl, 0, none⟩ (.slice la6 R.length lc6) = w15 at *
   clear HGL HBB HBZ
   refine hK _ _ ?_;clear hK
   obtain ⟨la7, lc7, e7, hown⟩ := OwnRecs.of_row HOW.out
   cases e7
   obtain ⟨g7, rfl, hg7, hrr⟩ := hown.2 (by omega)
   have HIR := Lib.hid (introw_of hrr)
   have HG7 : Hid (wz3.heap.size ≤ g7 ∧ gl ≠ g7) := by
    have := HBL.out
    exact ⟨by omega, by omega⟩
   clear hrr hg7 hown HOW HBL
   have hRL : (0 : Int) < (R.length : Int) := by omega
   have he0 := Int.emod_nonneg a4 (show (R.length : Int) ≠ 0 by omega)
   have he1 := Int.emod_lt_of_pos a4 hRL
   have htm : a4.tmod (R.length : Int) = a4 % (R.length : Int) := Int.tmod_eq_emod_of_nonneg h4.1
   obtain ⟨q, hq0⟩ : ∃ q : Nat, a4 % (R.length : Int) = (q : Int) := ⟨(a4 % (R.length : Int)).toNat, by omega⟩
   have hql : q < R.length := by omega
   have hql' : (q : Int) < (R.length : Nat) := by omega
   rw [hq0] at htm
   clear hq0 he0 he1
   have hw0 : IntKind.i64.wrap a4 = a4 := wrap_in (by omega) (by omega)
   have hw1 : IntKind.i64.wrap (a4.tmod (R.length : Int)) = (q : Int) := by rw [htm]; exact wrap_in (by omega) (by omega)
   have hnz : ¬ ((R.length : Int) = 0) := by omega
   have hnil : ¬ R = [] := fun e => by rw [e] at hql; exact absurd hql (Nat.not_lt_zero _)
   have hnl0 : ¬ R.length = 0 := by omega
   have hrq := (runsOk_sum R 4000 (by omega) (validS_parts HV.out).1).2.2 q hql
   have hw2 : IntKind.i64.wrap (ix R q + 1) = ix R q + 1 := wrap_in (by omega) (by omega)
   have hbd := below_d (Below.refl w15.heap.size w15)
   have HBd := Lib.hid (HBZ7.out.trans (hbd.mono HBZ7.out.size))
   have HIRd : Hid (IntRow w15.drew g7 3 R) := HIR.out
   have HLBd : Hid (w15.drew.heap[gl]? = some (.cells #[.slice (some ⟨g7, 0, none⟩) R.length lc6, .slice ga G.length d, .bool false] 25 (0, 0))) := HLB.out
   have l0 := boxed_cell (j := 0) HLBd.out rfl
   have p0 := boxed_cell (j := 0) (HP.out.below HBd.out).box rfl
   have r0 := HIRd.out.cell q hql
   have f0 := HIRd.out.free q
   clear HBZ7 HIR HLB hbd
   have HBE : Hid (Below wz3.heap.size wz3 (w15.drew.setCell ⟨g7, q, none⟩ (.int .i64 (ix R q + 1)))) := HBd.out.setCell (by show _ ≤ g7; exact HG7.out.1) _
   have HLE : Hid (PbAt (w15.drew.setCell ⟨g7, q, none⟩ (.int .i64 (ix R q + 1))) gl (some ⟨g7, 0, none⟩) ga lc6 d false (R.set q (ix R q + 1)) G) := by
    refine ⟨?_, (HIRd.out.set q hql _).ints, HP.out.groups.below HBE.out, HP.out.kit.below HBE.out⟩
    rw [List.length_set, Below.heap_setCell _ _ _ _ HG7.out.2]
    exact HLBd.out
   clear HIRd HLBd HBd
   refine wp_seq_k (fun K hK => ?_);refine region_any (by kernel_rfl) ?_;generalize w15.drew = wd7 at *;revert hF;refine zra (fuel := 1) [9, 52, 65, 105, 137, 180, 201, 234, 266, 308, 329, 362] [12] fun a hF => ?_;refine any_one (n := 12) (fuel := 0) (by kernel_rfl) ?_;revert hF;refine qu2 fun a hF => ?_
   clear l0 p0 r0 f0 hw0 hw1 hw2 hnz hnil hnl0 hql' hrq htm
   refine any_end (by kernel_rfl) ?_;replace hF := hF.kp [11, 12, 24] rfl;refine hK _ _ ?_;clear hK
   generalize wd7.setCell ⟨g7, q, none⟩ (.int .i64 (ix R q + 1)) = w16 at *
   have HB := Lib.hid (HB.out.trans (HBE.out.mono HB.out.size))
   have HP := Lib.hid (HP.out.below HBE.out)
   have HG1 := Lib.hid (HG1.out.below HBE.out)
   clear HBE HG7
   have HPL := Lib.hid (pack_long HV.out hql)
   rw [← HXE.out] at HPL
   have hR2l : (R.set q (ix R q + 1)).length ≤ 5 := by rw [List.length_set]; omega
   obtain ⟨R4, hR4⟩ : ∃ x, x = R.set q (ix R q + 1) := ⟨_, rfl⟩
   rw [← hR4] at HLE HPL hR2l
   clear hR4 hql
   refine wp_seq_k (fun K hK => ?_)
   have l0 := boxed_cell (j := 0) HLE.out.box rfl
   have l1 := boxed_cell (j := 1) HLE.out.box rfl
   have l2 := boxed_cell (j := 2) HLE.out.box rfl
   cases hv4 : validS R4 G with
   | false =>
    revert hF;refine zrp [4] [1, 2, 3, 4, 5, 6, 7, 8, 9, 10] fun a hF => ?_;revert hF;refine zos fun K hK => ?_
    refine (solve_bad w16 (some ⟨g7, 0, none⟩) ga lc6 G.length d false R4 G (by omega) (by omega) HLE.out.runs HLE.out.groups hv4).mono ?_
    rintro e w17 ⟨rfl, hb⟩
    have HB := Lib.hid (HB.out.trans (hb.mono HB.out.size))
    have HG1 := Lib.hid (HG1.out.below hb)
    have HPS : Hid (Pairs w17 none 0 [] ∧ Steps w17 none 0 []) := ⟨nil_pairs _, nil_steps _⟩
    clear hb l0 l1 l2 hv4
    refine hK _ _ (fun a hF => ?_);clear hK K;revert hF;refine zrc 2 [1, 4, 4, 4] [6, 7, 8, 9, 10] fun a hF => ?_;refine seq_one ?_;revert hF;refine qe0 fun a hF => ?_
    obtain ⟨wa4, wb4, bx4, bp4, e1, e2, e3, e4, hSV, hSV2, HN⟩ := got_new (sc := 0) (B := 0) (pc := 0) HPS.out.1 HPS.out.2
    rw [e1]
    rw [← e2] at hF
    clear e1
    refine seq_one ?_;revert hF;refine qe0 fun a hF => ?_
    try rw [e3]
    rw [← e4] at hF
    clear e2 e3 e4
    refine seq_one ?_;refine op_storev rfl rfl hF rfl rfl rfl rfl hSV ?_;clear hF;refine fun a hF => ?_
    clear hSV
    have hSV := hSV2
    clear hSV2
    refine seq_one ?_;refine op_storev rfl rfl hF rfl rfl rfl rfl hSV ?_;clear hF;refine fun a hF => ?_
    clear hSV
    have HB := Lib.hid (HB.out.trans (HN.out.1.mono HB.out.size))
    have HG1 := Lib.hid (HG1.out.below HN.out.1)
    have HG4 := Lib.hid HN.out.2
    clear HN HPS
    generalize (wb4.setRow bx4 _).setRow bp4 _ = wz4 at *
    revert hF;refine zre 10 [2] [11, 12, 25, 27] fun a hF => ?_;refine hK _ _ ?_;clear hK;revert hF;refine zrs [1, 1, 1, 4, 1, 0, 0, 0, 0, 0, 0, 0, 0, 0, 5, 5, 2] [10] fun a hF => ?_;refine wp_ret ?_;(try simp only [then_ret, block_ret, goto_ret]);revert hF;refine zq ?_
    exact ⟨rfl, HB.out⟩
   | true =>
    revert hF;refine zrp [4] [1, 2, 3, 4, 5, 6, 7, 8, 9, 10] fun a hF => ?_;revert hF;refine zos fun K hK => ?_
    refine (solve_good w16 (some ⟨g7, 0, none⟩) ga lc6 G.length d false R4 G (by omega) (by omega) hmd HLE.out.runs HLE.out.groups hv4 HLE.out.kit).mono ?_
    rintro e w17 hgd
    clear l0 l1 l2 hv4
    obtain ⟨sa4, sc4, pa4, l4, pc4, S4, T4, rfl, hb, hp, hst⟩ := good_val hR2l (by omega) hgd
    clear hgd
    obtain ⟨U, hU⟩ : ∃ x, x = packF false G G.length 0 (R4.map run0) := ⟨_, rfl⟩
    rw [← hU] at HPL ⊢
    clear hU
    have HB := Lib.hid (HB.out.trans (hb.mono HB.out.size))
    have HG1 := Lib.hid (HG1.out.below hb)
    have HPS := Lib.hid (And.intro hp hst)
    clear hb hp hst HLE
    refine hK _ _ (fun a hF => ?_);clear hK K;revert hF;refine zrc 2 [1, 4, 4, 4] [6, 7, 8, 9, 10] fun a hF => ?_;refine seq_one ?_;revert hF;refine qe0 fun a hF => ?_
    obtain ⟨wa4, wb4, bx4, bp4, e1, e2, e3, e4, hSV, hSV2, HN⟩ := got_new (sc := sc4) (B := U) (pc := pc4) HPS.out.1 HPS.out.2
    rw [e1]
    rw [← e2] at hF
    clear e1
    refine seq_one ?_;revert hF;refine qe0 fun a hF => ?_
    try rw [e3]
    rw [← e4] at hF
    clear e2 e3 e4
    refine seq_one ?_;refine op_storev rfl rfl hF rfl rfl rfl rfl hSV ?_;clear hF;refine fun a hF => ?_
    clear hSV
    have hSV := hSV2
    clear hSV2
    refine seq_one ?_;refine op_storev rfl rfl hF rfl rfl rfl rfl hSV ?_;clear hF;refine fun a hF => ?_
    clear hSV
    have HB := Lib.hid (HB.out.trans (HN.out.1.mono HB.out.size))
    have HG1 := Lib.hid (HG1.out.below HN.out.1)
    have HG4 := Lib.hid HN.out.2
    clear HN HPS
    generalize (wb4.setRow bx4 _).setRow bp4 _ = wz4 at *
    revert hF;refine zre 10 [2] [11, 12, 25, 27] fun a hF => ?_;refine hK _ _ ?_;clear hK
    have x1 := boxed_cell (j := 1) HG1.out.x rfl
    have u1 := boxed_cell (j := 1) HG4.out.x rfl
    have hpl := HPL.out
    have hq : decide (X ≤ U) = true := decide_eq_true hpl
    revert hF;refine zrs [1, 1, 1, 4, 1, 1, 4, 1, 4, 4, 4, 4, 5, 5, 5, 5, 2] [10] fun a hF => ?_
    clear hq x1 u1
    refine wp_ret ?_;(try simp only [then_ret, block_ret, goto_ret]);revert hF;refine zq ?_
    exact ⟨rfl, HB.out⟩
end Go.Proofs.YthabgljdndbphaaGreatDoor
