/- foyerlaw23.PackBest: the walk. -/
import Derived.Test.YthabgljdndbphaaGreatDoorQPKB48
import Derived.Test.YthabgljdndbphaaGreatDoorQPKB49
import Derived.Test.YthabgljdndbphaaGreatDoorQPKB50

set_option linter.unusedVariables false
set_option linter.unusedSimpArgs false
namespace Go.Proofs.YthabgljdndbphaaGreatDoor
open Go.RowKit Go.IntWalk Go.Maps Go.WideMaps
set_option linter.unusedSimpArgs false
set_option linter.unusedVariables false

/-- A packing in a variable. -/
structure PxAt (w : World) (gx : Nat) (sa : Option Addr) (k sc : Nat) (V0 : Int) (S : List (Int × Int)) : Prop where
 box : w.heap[gx]? = some (.cells #[.slice sa k sc, .int .i64 V0] 31 (0, 0))
 spots : Pairs w sa k S
theorem PxAt.below {w w' : World} {gx : Nat} {sa : Option Addr} {k sc : Nat} {V0 : Int} {S : List (Int × Int)} (h : PxAt w gx sa k sc V0 S) (hb : Below w.heap.size w w') : PxAt w' gx sa k sc V0 S :=
 ⟨(hb.block _ (lt_of_block h.box)).trans h.box, h.spots.below hb⟩
theorem px_new {w : World} {sa : Option Addr} {k sc : Nat} {V0 : Int} {S : List (Int × Int)} (hS : Pairs w sa k S) :
  ∃ w1 gx, w.alloc (.cells #[.slice sa k sc, .int .i64 V0] 31) = w1 ∧ gx = w.heap.size ∧ Hid (Below w.heap.size w w1) ∧ Hid (PxAt w1 gx sa k sc V0 S) := by
 have hb := Joins.below_alloc1 w (.cells #[.slice sa k sc, .int .i64 V0] 31)
 exact ⟨_, _, rfl, rfl, hb, heap_new _ _, hS.below hb⟩
/-- A packing's variable is made and stored. -/
theorem px_var {w : World} {sa : Option Addr} {k sc : Nat} {V0 : Int} {S : List (Int × Int)} (hS : Pairs w sa k S) :
  ∃ wa gx, w.alloc (.cells #[.slice none 0 0, .int .i64 0] 31) = wa ∧ gx = w.heap.size ∧ (storeVar 31 ⟨gx, 0, none⟩ (.agg #[.slice sa k sc, .int .i64 V0])).run Tryz.prog wa = .ok () (wa.setRow gx #[.slice sa k sc, .int .i64 V0]) ∧
   Hid (Below w.heap.size w (wa.setRow gx #[.slice sa k sc, .int .i64 V0]) ∧ PxAt (wa.setRow gx #[.slice sa k sc, .int .i64 V0]) gx sa k sc V0 S) := by
 obtain ⟨wa, g, e1, e2, hs, h⟩ := var_new w 31 #[.slice none 0 0, .int .i64 0] #[.slice sa k sc, .int .i64 V0] (by kernel_rfl) rfl (by simp [Value.oneCell'])
 exact ⟨wa, g, e1, e2, hs, h.1, h.2.1, hS.below h.1⟩
/-- Numbers of a slice of the walk's own. -/
theorem ints_of_own {w : World} {B : Nat} {v : Value} {D : List Int} (h : w.ownsRow B 3 1 v D.length (flat IntE D)) : ∃ ca cc, v = .slice ca D.length cc ∧ Ints w ca D.length D := by
 obtain ⟨la, c, e, h2⟩ := OwnRecs.of_row h
 refine ⟨la, c, e, rfl, fun k hk => ?_⟩
 obtain ⟨b, o, e2, cc⟩ := h2.recs.2 k hk
 have c0 := cc 0 (by omega)
 rw [rc_eq _ _ hk, Nat.mul_one, Nat.add_zero] at c0
 refine ⟨b, o, e2, ?_⟩
 rw [ix_get hk]
 exact c0
def InR (n : Nat) (D : List Int) : Prop := ∀ x ∈ D, -1 ≤ x ∧ x < n
theorem InR.push {n : Nat} {D : List Int} {x : Int} (h : InR n D) (hx : -1 ≤ x ∧ x < n) : InR n (D ++ [x]) := fun y hy => by
 rcases List.mem_append.1 hy with hy | hy
 ·
  exact h y hy
 ·
  rw [List.mem_singleton.1 hy]; exact hx
theorem inr_ix {n i : Nat} {D : List Int} (h : InR n D) (hi : i < D.length) : -1 ≤ ix D i ∧ ix D i < n := by
 rw [ix_get hi]
 exact h _ (List.getElem_mem hi)
set_option maxRecDepth 100000 in
set_option maxHeartbeats 32000000 in
theorem best_law (w : World) (hk : PKit w) (ra ga : Option Addr) (n c m d : Nat) (single : Bool) (R : List Int) (G : List (Int × Int)) (hR : Ints w ra n R) (hG : Pairs w ga m G) (_hn : n ≤ 9223372036854775807) (_hm : m ≤ 9223372036854775807) (hmd : m ≤ d) (hc : ra = none → c = 0)
  (ta : Option Addr) (k tc : Nat) (V0 : Int) (Sx : List (Int × Int)) (hk9 : k ≤ 9223372036854775807) (hS : Pairs w ta k Sx) (ba : Option Addr) (bn bc : Nat) (bs : List Int) (hbn : bn ≤ 9223372036854775807) (hBS : Byts w ba bn bs) :
  Calls Tryz.prog 5 #[.agg #[.slice ra n c, .slice ga m d, .bool single], .agg #[.slice ta k tc, .int .i64 V0], .slice ba bn bc] w fun e w' => e = .returned (.bool true) ∧ Below w.heap.size w w' := by
 obtain rfl : R.length = n := hR.1
 obtain rfl : G.length = m := hG.1
 have HN0 := Lib.hid (pb_new (c := c) (d := d) (single := single) hR hG hk)
 have HS0 := Lib.hid hS
 have HBY0 := Lib.hid hBS
 clear hR hG hk hS hBS
 refine enter_fr (N := 147) [.agg #[.slice ra R.length c, .slice ga G.length d, .bool single], .agg #[.slice ta k tc, .int .i64 V0], .slice ba bn bc] (Tryz.func5) rfl Tryz.ntmps5 (by rfl) (fun a hF => ?_);replace hF := hF.kp [0, 1, 2] rfl;refine wp_seq_k (fun K hK => ?_);refine region_seq (l := [0, 1, 2]) (by kernel_rfl) ?_;refine seq_one ?_;revert hF;refine qe1 fun a hF => ?_
 obtain ⟨w1, gp, e1, e2, HB, HP⟩ := HN0.out
 clear HN0
 rw [e1]
 rw [← e2] at hF
 clear e1 e2
 refine seq_one ?_;revert hF;refine qe1 fun a hF => ?_
 obtain ⟨w2, gx, e1, e2, hb, HX⟩ := px_new (sc := tc) (V0 := V0) (HS0.out.below HB.out)
 rw [e1]
 rw [← e2] at hF
 clear e1 e2
 have HBY := Lib.hid ((HBY0.out.below HB.out).below hb.out)
 have HB := Lib.hid (HB.out.trans (hb.out.mono HB.out.size))
 have HP := Lib.hid (HP.out.below hb.out)
 clear hb HS0 HBY0
 revert hF;refine zre 2 [2] [2, 3, 4] fun a hF => ?_;refine hK _ _ ?_;clear hK;refine wp_seq_k (fun K hK => ?_);refine region_seq (l := [0, 1]) (by kernel_rfl) ?_;revert hF;refine zos fun K hK => ?_
 refine (head_any w2 HP.out.kit).mono ?_
 rintro e w3 ⟨rfl, hb⟩
 have HB := Lib.hid (HB.out.trans (hb.mono HB.out.size))
 have HP := Lib.hid (HP.out.below hb)
 have HX := Lib.hid (HX.out.below hb)
 have HBY := Lib.hid (HBY.out.below hb)
 clear hb
 refine hK _ _ (fun a hF => ?_);clear hK K;revert hF;refine zre 1 [2] [2, 3, 4, 7] fun a hF => ?_;refine hK _ _ ?_;clear hK;refine wp_seq_k (fun K hK => ?_);refine wp_seq_k (fun K hK => ?_)
 have p0 := boxed_cell (j := 0) HP.out.box rfl
 have p1 := boxed_cell (j := 1) HP.out.box rfl
 have p2 := boxed_cell (j := 2) HP.out.box rfl
 by_cases hs : (decide (R.length ≤ 5 ∧ G.length ≤ 5) && validS R G) = true
 rotate_left
 ·
  have hs' : (decide (R.length ≤ 5 ∧ G.length ≤ 5) && validS R G) = false := by simpa using hs
  clear hs
  revert hF;refine zrp [4] [1, 2, 3, 4, 5, 6, 7] fun a hF => ?_;revert hF;refine zos fun K hK => ?_
  refine (small_any w3 ra ga R.length c G.length d single false R G HP.out.runs HP.out.groups hs').mono ?_
  rintro e w4 ⟨rfl, hb⟩
  have HB := Lib.hid (HB.out.trans (hb.mono HB.out.size))
  clear hb p0 p1 p2 hs'
  refine hK _ _ (fun a hF => ?_);clear hK K;revert hF;refine zre 2 [4, 1, 0, 0, 0, 5] [2, 3, 4, 7, 25] fun a hF => ?_;refine hK _ _ ?_;clear hK
  refine cond_yes hF rfl ?_
  revert hF;refine zrs [1, 2] [6] fun a hF => ?_;refine wp_ret ?_;(try simp only [then_ret, block_ret, goto_ret]);revert hF;refine zq ?_
  exact ⟨rfl, HB.out⟩
 by_cases hb20 : 20 < bn
 ·
  have hq : decide ((20 : Int) < (bn : Int)) = true := by simp; omega
  have hq' : (20 : Int) < (bn : Nat) := by omega
  revert hF;refine zrp [4] [1, 2, 3, 4, 5, 6, 7] fun a hF => ?_;revert hF;refine zos fun K hK => ?_
  refine (small_any w3 ra ga R.length c G.length d single true R G HP.out.runs HP.out.groups hs).mono ?_
  rintro e w4 ⟨rfl, hb⟩
  have HB := Lib.hid (HB.out.trans (hb.mono HB.out.size))
  clear hb p0 p1 p2 hs
  refine hK _ _ (fun a hF => ?_);clear hK K;revert hF;refine zre 2 [4, 1, 1, 4, 4, 5] [2, 3, 4, 7, 25] fun a hF => ?_
  clear hq hq'
  refine hK _ _ ?_;clear hK
  refine cond_yes hF rfl ?_
  revert hF;refine zrs [1, 2] [6] fun a hF => ?_;refine wp_ret ?_;(try simp only [then_ret, block_ret, goto_ret]);revert hF;refine zq ?_
  exact ⟨rfl, HB.out⟩
 have hq : decide ((20 : Int) < (bn : Int)) = false := by simp; omega
 have hq' : ¬ (20 : Int) < (bn : Nat) := by omega
 revert hF;refine zrp [4] [1, 2, 3, 4, 5, 6, 7] fun a hF => ?_;revert hF;refine zos fun K hK => ?_
 refine (small_any w3 ra ga R.length c G.length d single true R G HP.out.runs HP.out.groups hs).mono ?_
 rintro e w4 ⟨rfl, hb⟩
 have HB := Lib.hid (HB.out.trans (hb.mono HB.out.size))
 have HP := Lib.hid (HP.out.below hb)
 have HX := Lib.hid (HX.out.below hb)
 have HBY := Lib.hid (HBY.out.below hb)
 clear hb p0 p1 p2
 rw [Bool.and_eq_true, decide_eq_true_eq] at hs
 obtain ⟨⟨hR5, hm5⟩, hv⟩ := hs
 have HV := Lib.hid hv
 clear hv
 refine hK _ _ (fun a hF => ?_);clear hK K;revert hF;refine zre 2 [4, 1, 1, 4, 4, 5] [2, 3, 4, 7, 25] fun a hF => ?_
 clear hq hq'
 refine hK _ _ ?_;clear hK
 refine cond_no hF rfl ?_
 refine wp_skip ?_
 refine hK _ _ ?_;clear hK;refine wp_seq_k (fun K hK => ?_)
 have p0 := boxed_cell (j := 0) HP.out.box rfl
 have p1 := boxed_cell (j := 1) HP.out.box rfl
 have p2 := boxed_cell (j := 2) HP.out.box rfl
 revert hF;refine zrp [4] [1, 2, 3, 4, 5, 6, 7, 8, 9, 10] fun a hF => ?_;revert hF;refine zos fun K hK => ?_
 refine (solve_good w4 ra ga c G.length d single R G (by omega) (by omega) hmd HP.out.runs HP.out.groups HV.out HP.out.kit).mono ?_
 rintro e w5 hgd
 clear p0 p1 p2
 have HTL : Hid ((stpF G (packF single G G.length 0 (R.map run0)) G.length 0 (R.map run0) 0 0).length ≤ 100000) := by
  refine Nat.le_trans (stp_cap ..) ?_
  rw [List.length_map]
  exact stp_small hR5 hm5
 obtain ⟨ch, hch, hcv, hcs, hcf⟩ := sol_first (single := single) HV.out
 have HCF := Lib.hid hcf
 have HMOST : Hid (∀ S V, LegalP single R G S V → V ≤ packF single G G.length 0 (R.map run0)) := fun S V h => by
  rw [pack_best]
  exact (best_most h).2
 obtain ⟨sa, sc, pa, pc, rfl, hb, hp, hst⟩ := good_ok hgd rfl hcs rfl rfl HTL.out
 clear hgd hcs hcf hcv hch
 generalize stpF G (packF single G G.length 0 (R.map run0)) G.length 0 (R.map run0) 0 0 = T at *
 generalize packF single G G.length 0 (R.map run0) = B at *
 have HB := Lib.hid (HB.out.trans (hb.mono HB.out.size))
 have HP := Lib.hid (HP.out.below hb)
 have HX := Lib.hid (HX.out.below hb)
 have HBY := Lib.hid (HBY.out.below hb)
 have HPS := Lib.hid (And.intro hp hst)
 clear hb hp hst
 refine hK _ _ (fun a hF => ?_);clear hK K;revert hF;refine zrc 2 [1, 4, 4, 4] [6, 7, 8, 9, 10] fun a hF => ?_;refine seq_one ?_;revert hF;refine qe0 fun a hF => ?_
 obtain ⟨wa1, wb1, bx1, bp1, e1, e2, e3, e4, hSV, hSV2, HN⟩ := got_new (sc := sc) (B := B) (pc := pc) HPS.out.1 HPS.out.2
 rw [e1]
 rw [← e2] at hF
 clear e1
 refine seq_one ?_;revert hF;refine qe0 fun a hF => ?_
 try rw [e3]
 rw [← e4] at hF
 clear e2 e3 e4
 refine seq_one ?_;refine op_storev rfl rfl hF rfl rfl rfl rfl hSV ?_;clear hF;refine fun a hF => ?_
 clear hSV
 have hSV := hSV2
 clear hSV2
 refine seq_one ?_;refine op_storev rfl rfl hF rfl rfl rfl rfl hSV ?_;clear hF;refine fun a hF => ?_
 clear hSV
 have HB := Lib.hid (HB.out.trans (HN.out.1.mono HB.out.size))
 have HP := Lib.hid (HP.out.below HN.out.1)
 have HX := Lib.hid (HX.out.below HN.out.1)
 have HBY := Lib.hid (HBY.out.below HN.out.1)
 have HG1 := Lib.hid HN.out.2
 clear HN HPS
 generalize (wb1.setRow bx1 _).setRow bp1 _ = wz1 at *
 revert hF;refine zre 10 [2] [2, 3, 4, 7, 8, 10] fun a hF => ?_;refine hK _ _ ?_;clear hK

 have HBX : Hid (PxAt wz1 bx1 sa G.length sc B (seatAll G ch)) := ⟨HG1.out.x, HG1.out.pairs⟩
 clear HG1 HTL
 refine seq_cut (fun a' w' => FrF 147 [] [(2, .slice ba bn bc), (3, .pointer (some ⟨gp, 0, none⟩)), (7, .bool true), (8, .pointer (some ⟨bx1, 0, none⟩))] a' ∧ Hid (Below wz1.heap.size wz1 w')) (fun KU hKU => ?_) ?_
 ·
  refine wp_seq_k (fun K hK => ?_)
  have p0 := boxed_cell (j := 0) HP.out.box rfl
  have p1 := boxed_cell (j := 1) HP.out.box rfl
  have p2 := boxed_cell (j := 2) HP.out.box rfl
  have x0 := boxed_cell (j := 0) HX.out.box rfl
  have x1 := boxed_cell (j := 1) HX.out.box rfl
  have y0 := boxed_cell (j := 0) HBX.out.box rfl
  have hmm : ((G.length : Int) != (G.length : Int)) = false := by simp
  by_cases hL : LegalP single R G Sx V0
  ·
   have hle := HMOST.out _ _ hL
   have HL := Lib.hid hL
   have hq : decide (B < V0) = false := by simp; omega
   have hq' : ¬ B < V0 := by omega
   clear hL hle
   revert hF;refine zrp [1, 4, 1, 4, 4, 4, 4, 4, 4, 5, 5, 1, 4, 4] [14, 15, 16, 17, 18, 19, 20, 21, 22] fun a hF => ?_;revert hF;refine zos fun K hK => ?_
   refine (legal_wide ra ga ta R.length c G.length d k tc single V0 R G Sx wz1 (by omega) (by omega) HP.out.runs HP.out.groups HX.out.spots).mono ?_
   rintro e w6 ⟨q, rfl, hb, hqq⟩
   obtain rfl : q = true := hqq.mpr HL.out
   have x1 := Below.cell_of hb x1
   have y1 := Below.cell_of hb (boxed_cell (j := 1) HBX.out.box rfl)
   have HBB := Lib.hid hb
   clear hqq hb x0 y0 p0 p1 p2
   refine hK _ _ (fun a hF => ?_);clear hK K;revert hF;refine zre 15 [1, 4, 4, 4, 4, 5, 5, 5] [2, 3, 7, 8, 55] fun a hF => ?_
   clear hq hq' hmm x1 y1
   refine hK _ _ ?_;clear hK
   refine cond_no hF rfl ?_
   refine wp_skip ?_
   exact hKU _ _ ⟨hF.sub ⟨rfl, rfl, rfl, rfl, trivial⟩, HBB⟩
  ·
   have HL := Lib.hid hL
   clear hL
   revert hF;refine zrp [1, 4, 1, 4, 4, 4, 4, 4, 4, 5, 5, 1, 4, 4] [14, 15, 16, 17, 18, 19, 20, 21, 22] fun a hF => ?_;revert hF;refine zos fun K hK => ?_
   refine (legal_wide ra ga ta R.length c G.length d k tc single V0 R G Sx wz1 (by omega) (by omega) HP.out.runs HP.out.groups HX.out.spots).mono ?_
   rintro e w6 ⟨q, rfl, hb, hqq⟩
   obtain rfl : q = false := by
    cases q with
    | false => rfl
    | true => exact absurd (hqq.mp rfl) HL.out
   have HBB := Lib.hid hb
   clear hqq hb x0 x1 y0 p0 p1 p2
   refine hK _ _ (fun a hF => ?_);clear hK K;revert hF;refine zre 15 [1, 0, 0, 0, 0, 0, 5, 5] [2, 3, 7, 8, 55] fun a hF => ?_
   clear hmm
   refine hK _ _ ?_;clear hK
   refine cond_no hF rfl ?_
   refine wp_skip ?_
   exact hKU _ _ ⟨hF.sub ⟨rfl, rfl, rfl, rfl, trivial⟩, HBB⟩
 clear hF
 rintro a w6 ⟨hF, HBB⟩
 have HB := Lib.hid (HB.out.trans (HBB.out.mono HB.out.size))
 have HP := Lib.hid (HP.out.below HBB.out)
 have HBY := Lib.hid (HBY.out.below HBB.out)
 have HBX := Lib.hid (HBX.out.below HBB.out)
 clear HBB HX
 revert hF;refine zrs [2] [2, 3, 7, 8, 11] fun a hF => ?_
 have HS1 : Hid (Below w6.heap.size w6 w6) := Below.refl _ _
 have HO1 : Hid (w6.ownsRow w6.heap.size 3 1 (.slice none 0 0) ([] : List Int).length (flat IntE []) ∧ ([] : List Int).length = 0 ∧ InR R.length []) := ⟨nil_row, rfl, fun x hx => by cases hx⟩
 refine seq_cut (fun a' w' => ∃ v : Value, ∃ D : List Int, FrF 147 [] [(2, .slice ba bn bc), (3, .pointer (some ⟨gp, 0, none⟩)), (7, .bool true), (8, .pointer (some ⟨bx1, 0, none⟩)), (11, v)] a' ∧ Hid (Below w6.heap.size w6 w') ∧ Hid (w'.ownsRow w6.heap.size 3 1 v D.length (flat IntE D) ∧ D.length = G.length ∧ InR R.length D)) (fun KAr hKAr => ?_) ?_
 ·
  skip
  revert hF;refine zrs [2] [2, 3, 7, 8, 11, 12] fun a hF => ?_
  refine wp_block ?_
  refine loop_fr (fun qr a' w' => ∃ i : Nat, i + qr = G.length ∧ ∃ v : Value, ∃ D : List Int, FrF 147 [] [(2, .slice ba bn bc), (3, .pointer (some ⟨gp, 0, none⟩)), (7, .bool true), (8, .pointer (some ⟨bx1, 0, none⟩)), (11, v), (12, .int .i64 i)] a' ∧ Hid (Below w6.heap.size w6 w') ∧ Hid (w'.ownsRow w6.heap.size 3 1 v D.length (flat IntE D) ∧ D.length = i ∧ InR R.length D)) (G.length) ⟨0, by omega, _, _, hF, HS1, HO1⟩ ?_
  clear hF HS1  HO1
  rintro rkr a wr ⟨i, hikr, v, D, hF, HS, HO⟩ KBr hKBr
  refine wp_seq_k (fun K hK => ?_)
  by_cases hlt : i < G.length
  rotate_left
  ·
   have hlti : ¬ (i : Int) < (G.length : Nat) := by omega
   have p1 := boxed_cell (j := 1) (HP.out.below HS.out).box rfl
   revert hF;refine zrs [1, 4, 4, 4, 5] [2, 3, 7, 8, 11, 12, 60] fun a hF => ?_
   clear p1
   refine cond_no hF rfl ?_
   refine wp_exit ?_
   have hie : i = G.length := by omega
   rw [hie] at HO
   exact hKAr _ _ ⟨_, _, hF.sub ⟨rfl, rfl, rfl, rfl, rfl, trivial⟩, HS, HO⟩
  have hlti : (i : Int) < (G.length : Nat) := by omega
  have p1 := boxed_cell (j := 1) (HP.out.below HS.out).box rfl
  revert hF;refine zrs [1, 4, 4, 4, 5] [2, 3, 7, 8, 11, 12, 60] fun a hF => ?_
  clear p1
  refine cond_yes hF rfl ?_
  refine wp_skip ?_
  refine hK _ _ ?_;clear hK;replace hF := hF.kp [2, 3, 7, 8, 11, 12] rfl
  clear hKAr
  refine seq_cut (fun a' w' => ∃ v : Value, ∃ D : List Int, FrF 147 [] [(2, .slice ba bn bc), (3, .pointer (some ⟨gp, 0, none⟩)), (7, .bool true), (8, .pointer (some ⟨bx1, 0, none⟩)), (11, v), (12, .int .i64 i)] a' ∧ Hid (Below w6.heap.size w6 w') ∧ Hid (w'.ownsRow w6.heap.size 3 1 v D.length (flat IntE D) ∧ D.length = (i + 1) ∧ InR R.length D)) (fun KCr hKCr => ?_) ?_
  rotate_left
  ·
   clear hF HS HO
   rintro a w' ⟨v, D, hF, HS, HO⟩
   have hws : IntKind.i64.wrap ((i : Int) + 1) = ((i + 1 : Nat) : Int) := wrap_succ (by omega)
   revert hF;refine zrg [1, 4, 2] [2, 3, 7, 8, 11, 12] fun a hF => ?_
   exact hKBr (G.length - (i + 1)) _ _ (by omega) ⟨i + 1, by omega, _, _, hF, HS, HO⟩
  clear hKBr hikr
  refine wp_block ?_
  have hii : (i : Int) < (G.length : Nat) := by omega
  revert hF;refine zrs [2] [2, 3, 7, 8, 11, 12, 13] fun a hF => ?_
  refine seq_cut (fun a' w' => ∃ x : Int, FrF 147 [] [(2, .slice ba bn bc), (3, .pointer (some ⟨gp, 0, none⟩)), (7, .bool true), (8, .pointer (some ⟨bx1, 0, none⟩)), (11, v), (12, .int .i64 i), (13, .int .i64 x)] a' ∧ Hid (Below w6.heap.size w6 w') ∧ Hid (w'.ownsRow w6.heap.size 3 1 v D.length (flat IntE D)) ∧ Hid (-1 ≤ x ∧ x < R.length)) (fun KU hKU => ?_) ?_
  ·
   skip
   have p0 := boxed_cell (j := 0) (HP.out.below HS.out).box rfl
   by_cases hb : i < bn
   rotate_left
   ·
    have hq : decide ((i : Int) < (bn : Int)) = false := by simp; omega
    have hq' : ¬ (i : Int) < (bn : Nat) := by omega
    revert hF;refine zrs [1, 1, 4, 5, 1, 0, 0, 0, 0, 5] [2, 3, 7, 8, 11, 12, 13, 72] fun a hF => ?_
    clear hq hq' p0
    refine cond_no hF rfl ?_
    refine wp_skip ?_
    exact hKU _ _ ⟨-1, hF.sub ⟨rfl, rfl, rfl, rfl, rfl, rfl, rfl, trivial⟩, HS, HO.out.1, Int.le_refl _, show (-1 : Int) < (R.length : Nat) by omega⟩
   have hq : decide ((i : Int) < (bn : Int)) = true := by simp; omega
   have hq' : (i : Int) < (bn : Nat) := by omega
   by_cases hR0 : 0 < R.length
   rotate_left
   ·
    have hq2 : decide ((0 : Int) < (R.length : Int)) = false := decide_eq_false (by omega)
    have hq2' : ¬ (0 : Int) < (R.length : Nat) := by omega
    revert hF;refine zrs [1, 1, 4, 5, 1, 4, 4, 4, 4, 5] [2, 3, 7, 8, 11, 12, 13, 72] fun a hF => ?_
    clear hq hq' hq2 hq2' p0
    refine cond_no hF rfl ?_
    refine wp_skip ?_
    exact hKU _ _ ⟨-1, hF.sub ⟨rfl, rfl, rfl, rfl, rfl, rfl, rfl, trivial⟩, HS, HO.out.1, Int.le_refl _, show (-1 : Int) < (R.length : Nat) by omega⟩
   have hq2 : decide ((0 : Int) < (R.length : Int)) = true := decide_eq_true (by omega)
   have hq2' : (0 : Int) < (R.length : Nat) := by omega
   revert hF;refine zrs [1, 1, 4, 5, 1, 4, 4, 4, 4, 5] [2, 3, 7, 8, 11, 12, 13, 72] fun a hF => ?_
   clear hq hq2 hq2' p0
   refine cond_yes hF rfl ?_
   have HS2 : Hid (Below w6.heap.size w6 wr.drew) := below_d HS.out
   have HO2 : Hid (wr.drew.ownsRow w6.heap.size 3 1 v D.length (flat IntE D)) := row_of_heap HO.out.1 fun _ _ => rfl
   have p0 := boxed_cell (j := 0) (HP.out.below HS2.out).box rfl
   obtain ⟨⟨bb, ob, hba, b0⟩, hbr⟩ := (HBY.out.below HS2.out).2 i hb
   have HBA := Lib.hid hba
   rw [hba] at hF
   clear hba
   generalize ix bs i = bx at *
   have hR5' := hR5
   have hwc : IntKind.i64.wrap bx = bx := wrap_in (by omega) (by omega)
   have hwa : IntKind.i64.wrap ((R.length : Int) + 1) = (R.length : Int) + 1 := wrap_in (by omega) (by omega)
   have hnz : ¬ ((R.length : Int) + 1 = 0) := by omega
   have htm : bx.tmod ((R.length : Int) + 1) = bx % ((R.length : Int) + 1) := Int.tmod_eq_emod_of_nonneg hbr.1
   have h0 := Int.emod_nonneg bx hnz
   have h1 := Int.emod_lt_of_pos bx (show (0 : Int) < (R.length : Int) + 1 by omega)
   have hwr : IntKind.i64.wrap (bx.tmod ((R.length : Int) + 1)) = bx.tmod ((R.length : Int) + 1) := by rw [htm]; exact wrap_in (by omega) (by omega)
   have hws : IntKind.i64.wrap (bx.tmod ((R.length : Int) + 1) - 1) = bx.tmod ((R.length : Int) + 1) - 1 := by rw [htm]; exact wrap_in (by omega) (by omega)
   have HXR : Hid (-1 ≤ bx.tmod ((R.length : Int) + 1) - 1 ∧ bx.tmod ((R.length : Int) + 1) - 1 < R.length) := by
    have hz0 : 0 ≤ bx.tmod ((R.length : Int) + 1) := by rw [htm]; exact h0
    have hz1 : bx.tmod ((R.length : Int) + 1) < (R.length : Int) + 1 := by rw [htm]; exact h1
    generalize bx.tmod ((R.length : Int) + 1) = z at *
    exact ⟨by omega, by omega⟩
   clear htm h0 h1 hbr
   refine region_any (by kernel_rfl) ?_;revert hF;refine zrb (fuel := 0) [1, 33, 74, 116, 137, 169, 212, 233, 265, 298, 329, 354] [2, 3, 7, 8, 11, 12, 13] fun a hF => ?_
   clear p0 b0 hwc hwa hnz hwr hws hq'
   rw [← HBA.out] at hF
   exact hKU _ _ ⟨_, hF.sub ⟨rfl, rfl, rfl, rfl, rfl, rfl, rfl, trivial⟩, HS2, HO2, HXR.out⟩
  clear hF HS
  have HDL := Lib.hid HO.out.2
  clear HO
  rintro a w7 ⟨x, hF, HS, HO, HXR⟩
  have HNL := Lib.hid (recs_alloc IntE w7 3 [x] #[.int .i64 x] rfl)
  have hba := Joins.below_alloc1 w7 (.cells #[.int .i64 x] 3)
  revert hF;refine zrp [1, 1] [2, 3, 4] fun a hF => ?_;refine seq_one ?_;revert hF;refine qe1 fun a hF => ?_
  have HO6 := Lib.hid (row_of_heap HO.out fun b hb => hba.block b (HO.out.lt b hb).2)
  have HS6 := Lib.hid (HS.out.trans (hba.mono HS.out.size))
  have hl4 : D.length ≤ 4000 := by
   have := HDL.out.1
   omega
  clear hba HS HO
  generalize w7.alloc (.cells #[.int .i64 x] 3) = w8 at *
  obtain ⟨v', w9, hAPP, ho, hg, _⟩ := append_recs (E := IntE) 22 3 22 Tryz.underlying22 info_int rfl (by decide) HO6.out (u := .slice (some ⟨w7.heap.size, 0, none⟩) 1 1) ⟨_, _, rfl, HNL.out, fun h => by cases h⟩ (by simp; omega) HS6.out.size
  have HS7 := Lib.hid (HS6.out.grown hg HS6.out.size (fun q hq => (HO6.out.lt q hq).1))
  have HO7 : Hid (w9.ownsRow w6.heap.size 3 1 v' (D ++ [x]).length (flat IntE (D ++ [x]))) := by
   rw [List.length_append]
   exact ho
  clear ho hg HNL HO6 HS6 hl4
  refine seq_one ?_;refine op_append rfl rfl rfl rfl rfl hF rfl rfl rfl hAPP (fun a hF => ?_);clear hAPP;revert hF;refine zre 4 [2] [2, 3, 7, 8, 11, 12] fun a hF => ?_
  refine hKCr _ _ ⟨_, D ++ [x], hF, HS7, HO7.out, ?_, HDL.out.2.push HXR.out⟩
  rw [List.length_append, HDL.out.1]
  rfl
 clear hF HS1  HO1
 rintro a w20 ⟨v, D, hF, HS, HO⟩

 have HB := Lib.hid (HB.out.trans (HS.out.mono HB.out.size))
 have HP := Lib.hid (HP.out.below HS.out)
 have HBX := Lib.hid (HBX.out.below HS.out)
 clear HS HBY
 obtain ⟨ca, cc, rfl, hDI⟩ := ints_of_own HO.out.1
 have HDL := Lib.hid HO.out.2
 clear HO
 refine wp_seq_k (fun K hK => ?_)
 have p0 := boxed_cell (j := 0) HP.out.box rfl
 have p1 := boxed_cell (j := 1) HP.out.box rfl
 have p2 := boxed_cell (j := 2) HP.out.box rfl

 rw [HDL.out.1] at hF hDI
 revert hF;refine zrp [4, 1] [2, 3, 4] fun a hF => ?_;revert hF;refine zos fun K hK => ?_
 refine (compact_any w20 ra ga ca c G.length d cc single R D G (by omega) (by omega) HP.out.groups hDI (validS_parts HV.out).2.2 (fun i hi => inr_ix HDL.out.2 (by rw [HDL.out.1]; exact hi))).mono ?_
 rintro e w21 ⟨ya, yc, rfl, hb, hyp⟩
 have HB := Lib.hid (HB.out.trans (hb.mono HB.out.size))
 have HP := Lib.hid (HP.out.below hb)
 have HBX := Lib.hid (HBX.out.below hb)
 have HDI2 := Lib.hid (hDI.below hb)
 clear hDI p0 p1 p2
 obtain ⟨yv, hyv⟩ : ∃ x, x = valS G (dec (ix D) G.length) := ⟨_, rfl⟩
 rw [← hyv]
 have HYV := Lib.hid hyv
 clear hyv
 have HYP := Lib.hid hyp
 clear hyp hb
 refine hK _ _ (fun a hF => ?_);clear hK K;refine seq_one ?_;revert hF;refine qe0 fun a hF => ?_
 obtain ⟨wa, gy, e1, e2, hSV, HN⟩ := px_var (sc := yc) (V0 := yv) HYP.out
 rw [e1]
 rw [← e2] at hF
 clear e1 e2
 refine seq_one ?_;refine op_storev rfl rfl hF rfl rfl rfl rfl hSV ?_;clear hF;refine fun a hF => ?_
 clear hSV
 have HB := Lib.hid (HB.out.trans (HN.out.1.mono HB.out.size))
 have HP := Lib.hid (HP.out.below HN.out.1)
 have HBX := Lib.hid (HBX.out.below HN.out.1)
 have HDI := Lib.hid (HDI2.out.below HN.out.1)
 have HY := Lib.hid HN.out.2
 clear HN HYP HDI2
 generalize wa.setRow gy _ = w22 at *
 refine seq_end ?_;replace hF := hF.kp [3, 7, 8, 11, 14] rfl;refine hK _ _ ?_;clear hK;refine wp_seq_k (fun K hK => ?_);refine wp_seq_k (fun K hK => ?_)
 have p0 := boxed_cell (j := 0) HP.out.box rfl
 have p1 := boxed_cell (j := 1) HP.out.box rfl
 have p2 := boxed_cell (j := 2) HP.out.box rfl
 have y0 := boxed_cell (j := 0) HY.out.box rfl
 have y1 := boxed_cell (j := 1) HY.out.box rfl
 revert hF;refine zrp [4, 4] [2, 3] fun a hF => ?_;revert hF;refine zos fun K hK => ?_
 refine (legal_any ra ga ya R.length c G.length d G.length yc single yv R G (seatAll G (ix D)) w22 (by omega) (by omega) (by omega) HP.out.runs HP.out.groups HY.out.spots).mono ?_
 rintro e w23 ⟨q, rfl, hb, hqq⟩
 have HB := Lib.hid (HB.out.trans (hb.mono HB.out.size))
 have HBX := Lib.hid (HBX.out.below hb)
 have HY := Lib.hid (HY.out.below hb)
 have HDI := Lib.hid (HDI.out.below hb)
 clear hb p0 p1 p2 y0 y1
 cases q with
 | false =>
  refine hK _ _ (fun a hF => ?_);clear hK K;revert hF;refine zre 3 [4] [7, 8, 11, 14, 94] fun a hF => ?_;refine hK _ _ ?_;clear hK
  refine cond_yes hF rfl ?_
  revert hF;refine zrs [1, 2] [6] fun a hF => ?_;refine wp_ret ?_;(try simp only [then_ret, block_ret, goto_ret]);revert hF;refine zq ?_
  exact ⟨rfl, HB.out⟩
 | true =>
  have HCH := Lib.hid (choice_of_seats (hqq.mp rfl))
  clear hqq
  obtain ⟨hle, hfc⟩ := HCF.out _ HCH.out
  rw [← HYV.out] at hle hfc
  have HFC := Lib.hid hfc
  clear hfc
  refine hK _ _ (fun a hF => ?_);clear hK K;revert hF;refine zre 3 [4] [7, 8, 11, 14, 94] fun a hF => ?_;refine hK _ _ ?_;clear hK
  refine cond_no hF rfl ?_
  refine wp_skip ?_
  refine hK _ _ ?_;clear hK;refine wp_seq_k (fun K hK => ?_)
  have y1 := boxed_cell (j := 1) HY.out.box rfl
  have b1 := boxed_cell (j := 1) HBX.out.box rfl
  have hq : decide (B < yv) = false := by simp; omega
  have hq' : ¬ B < yv := by omega
  revert hF;refine zrs [4, 4, 4, 4, 5] [7, 8, 11, 14, 100] fun a hF => ?_
  clear hq hq' y1 b1
  refine cond_no hF rfl ?_
  refine wp_skip ?_
  refine hK _ _ ?_;clear hK
  have HDLn : Hid (D.length = G.length) := HDL.out.1
  rw [← HDLn.out] at hF
  have hD5 : D.length ≤ 5 := by rw [HDLn.out]; exact hm5
  by_cases heq : yv = B
  ·
   have HEQ := Lib.hid heq
   have hqe : (yv == B) = true := by simp [heq]
   clear heq hle
   have HJ2 : Hid (∀ j, j < 0 → ix D j = ch j) := fun j hj => absurd hj (Nat.not_lt_zero _)
   have HS2 : Hid (Below w23.heap.size w23 w23) := Below.refl _ _
   refine seq_cut (fun a' w' => FrF 147 [] [(7, .bool true), (8, .pointer (some ⟨bx1, 0, none⟩)), (11, .slice ca D.length cc), (14, .pointer (some ⟨gy, 0, none⟩))] a' ∧ Hid (Below w23.heap.size w23 w') ∧ Hid (∀ j, j < D.length → ix D j = ch j)) (fun KAd hKAd => ?_) ?_
   ·
    skip
    revert hF;refine zrs [2] [7, 8, 11, 14, 15] fun a hF => ?_
    refine wp_block ?_
    refine loop_fr (fun qd a' w' => ∃ i : Nat, i + qd = D.length ∧ FrF 147 [] [(7, .bool true), (8, .pointer (some ⟨bx1, 0, none⟩)), (11, .slice ca D.length cc), (14, .pointer (some ⟨gy, 0, none⟩)), (15, .int .i64 i)] a' ∧ Hid (Below w23.heap.size w23 w') ∧ Hid (∀ j, j < i → ix D j = ch j)) (D.length) ⟨0, by omega, hF, HS2, HJ2⟩ ?_
    clear hF HS2  HJ2
    rintro rkd a wr ⟨i, hikd, hF, HS, HJ⟩ KBd hKBd
    refine wp_seq_k (fun K hK => ?_)
    by_cases hlt : i < D.length
    rotate_left
    ·
     have hlti : ¬ (i : Int) < (D.length : Nat) := by omega
     have yx1 := boxed_cell (j := 1) (HY.out.below HS.out).box rfl
     have b1 := boxed_cell (j := 1) (HBX.out.below HS.out).box rfl
     revert hF;refine zrs [1, 1, 4, 5, 1, 0, 0, 0, 0, 0, 5] [7, 8, 11, 14, 15, 111] fun a hF => ?_
     clear yx1 b1
     refine cond_no hF rfl ?_
     refine wp_exit ?_
     have hie : i = D.length := by omega
     rw [hie] at HJ
     exact hKAd _ _ ⟨hF.sub ⟨rfl, rfl, rfl, rfl, trivial⟩, HS, HJ⟩
    have hlti : (i : Int) < (D.length : Nat) := by omega
    have yx1 := boxed_cell (j := 1) (HY.out.below HS.out).box rfl
    have b1 := boxed_cell (j := 1) (HBX.out.below HS.out).box rfl
    revert hF;refine zrs [1, 1, 4, 5, 1, 4, 4, 4, 4, 5, 5] [7, 8, 11, 14, 15, 111] fun a hF => ?_
    clear yx1 b1
    refine cond_yes hF rfl ?_
    refine wp_skip ?_
    refine hK _ _ ?_;clear hK;replace hF := hF.kp [7, 8, 11, 14, 15] rfl
    clear hKAd
    refine seq_cut (fun a' w' => FrF 147 [] [(7, .bool true), (8, .pointer (some ⟨bx1, 0, none⟩)), (11, .slice ca D.length cc), (14, .pointer (some ⟨gy, 0, none⟩)), (15, .int .i64 i)] a' ∧ Hid (Below w23.heap.size w23 w') ∧ Hid (∀ j, j < (i + 1) → ix D j = ch j)) (fun KCd hKCd => ?_) ?_
    rotate_left
    ·
     clear hF HS HJ
     rintro a w' ⟨hF, HS, HJ⟩
     have hws : IntKind.i64.wrap ((i : Int) + 1) = ((i + 1 : Nat) : Int) := wrap_succ (by omega)
     revert hF;refine zrg [1, 4, 2] [7, 8, 11, 14, 15] fun a hF => ?_
     exact hKBd (D.length - (i + 1)) _ _ (by omega) ⟨i + 1, by omega, hF, HS, HJ⟩
    clear hKBd hikd
    refine wp_block ?_
    have hig : i < G.length := by rw [← HDLn.out]; exact hlt
    have hii : (i : Int) < (D.length : Nat) := by omega
    have b0 := boxed_cell (j := 0) (HBX.out.below HS.out).box rfl
    obtain ⟨bs0, os0, hsa, c0, _⟩ := (HBX.out.below HS.out).spots.2 i hig
    rw [(seat_at G ch i hig).1] at c0
    rw [hsa] at b0
    clear hsa
    have hig' : (i : Int) < (G.length : Nat) := by omega
    revert hF;refine zrs [4, 4, 1, 5, 4, 4, 2] [7, 8, 11, 14, 15, 16] fun a hF => ?_
    clear b0 c0 hig'
    obtain ⟨bd, od, hca, d0⟩ := (HDI.out.below HS.out).2 i hig
    have HCA := Lib.hid hca
    rw [hca] at hF
    clear hca
    obtain ⟨ci, hci⟩ : ∃ x, x = ch i := ⟨_, rfl⟩
    obtain ⟨di, hdi⟩ : ∃ x, x = ix D i := ⟨_, rfl⟩
    rw [← hci] at hF
    rw [← hdi] at d0
    by_cases hne : ci = di
    ·
     have hq : (ci != di) = false := by simp [hne]
     have HPN : Hid (∀ j, j < i + 1 → ix D j = ch j) := fun j hj => by
      by_cases e : j = i
      ·
       subst e; rw [← hci, ← hdi, hne]
      ·
       exact HJ.out j (by omega)
     clear hne hci hdi
     revert hF;refine zrs [1, 1, 1, 5, 4, 5] [7, 8, 11, 14, 15, 16, 125] fun a hF => ?_
     clear hq d0
     refine cond_no hF rfl ?_
     refine wp_skip ?_
     rw [← HCA.out] at hF
     exact hKCd _ _ ⟨hF.sub ⟨rfl, rfl, rfl, rfl, rfl, trivial⟩, HS, HPN⟩
    have hq : (ci != di) = true := by simp [hne]
    obtain ⟨hc0, hcd⟩ := first_diff (HFC.out HEQ.out) hig (fun j hj => HJ.out j hj) (by rw [← hci, ← hdi]; exact Ne.symm hne)
    rw [← hci, ← hdi] at hcd
    rw [← hci] at hc0
    clear hne hci hdi
    revert hF;refine zrs [1, 1, 1, 5, 4, 5] [7, 8, 11, 14, 15, 16, 125] fun a hF => ?_
    clear hq
    refine cond_yes hF rfl ?_
    have hq2 : decide (0 ≤ ci) = true := by simpa using hc0
    by_cases hd0 : di < 0
    ·
     have hq3 : decide (di < 0) = true := by simpa using hd0
     clear hcd
     revert hF;refine zrs [1, 1, 1, 4, 5, 1, 1, 1, 5, 4, 4, 1, 0, 0, 0, 0, 0, 0, 5, 5, 2] [6] fun a hF => ?_
     clear hq2 hq3 d0
     refine wp_ret ?_;(try simp only [then_ret, block_ret, goto_ret]);revert hF;refine zq ?_
     exact ⟨rfl, HB.out.trans (HS.out.mono HB.out.size)⟩
    ·
     have hq3 : decide (di < 0) = false := by simpa using hd0
     have hq4' : ci < di := by omega
     have hq4 : decide (ci < di) = true := by simpa using hq4'
     clear hcd
     revert hF;refine zrs [1, 1, 1, 4, 5, 1, 1, 1, 5, 4, 4, 1, 1, 1, 1, 5, 4, 5, 5, 5, 2] [6] fun a hF => ?_
     clear hq2 hq3 hq4 hq4' d0
     refine wp_ret ?_;(try simp only [then_ret, block_ret, goto_ret]);revert hF;refine zq ?_
     exact ⟨rfl, HB.out.trans (HS.out.mono HB.out.size)⟩
   clear hF HS2  HJ2
   rintro a w30 ⟨hF, HS, HJ⟩
   clear hqe
   revert hF;refine zrs [1, 2] [6] fun a hF => ?_;refine wp_ret ?_;(try simp only [then_ret, block_ret, goto_ret]);revert hF;refine zq ?_
   exact ⟨rfl, HB.out.trans (HS.out.mono HB.out.size)⟩
  ·
   have hqe : (yv == B) = false := by simp [heq]
   clear heq hle
   have HS3 : Hid (Below w23.heap.size w23 w23) := Below.refl _ _
   refine seq_cut (fun a' w' => FrF 147 [] [(7, .bool true), (8, .pointer (some ⟨bx1, 0, none⟩)), (11, .slice ca D.length cc), (14, .pointer (some ⟨gy, 0, none⟩))] a' ∧ Hid (Below w23.heap.size w23 w')) (fun KAn hKAn => ?_) ?_
   ·
    skip
    revert hF;refine zrs [2] [7, 8, 11, 14, 15] fun a hF => ?_
    refine wp_block ?_
    refine loop_fr (fun qn a' w' => ∃ i : Nat, i + qn = D.length ∧ FrF 147 [] [(7, .bool true), (8, .pointer (some ⟨bx1, 0, none⟩)), (11, .slice ca D.length cc), (14, .pointer (some ⟨gy, 0, none⟩)), (15, .int .i64 i)] a' ∧ Hid (Below w23.heap.size w23 w')) (D.length) ⟨0, by omega, hF, HS3⟩ ?_
    clear hF HS3
    rintro rkn a wr ⟨i, hikn, hF, HS⟩ KBn hKBn
    refine wp_seq_k (fun K hK => ?_)
    by_cases hlt : i < D.length
    rotate_left
    ·
     have hlti : ¬ (i : Int) < (D.length : Nat) := by omega
     have yx1 := boxed_cell (j := 1) (HY.out.below HS.out).box rfl
     have b1 := boxed_cell (j := 1) (HBX.out.below HS.out).box rfl
     revert hF;refine zrs [1, 1, 4, 5, 1, 0, 0, 0, 0, 0, 5] [7, 8, 11, 14, 15, 111] fun a hF => ?_
     clear yx1 b1
     refine cond_no hF rfl ?_
     refine wp_exit ?_
     skip
     exact hKAn _ _ ⟨hF.sub ⟨rfl, rfl, rfl, rfl, trivial⟩, HS⟩
    have hlti : (i : Int) < (D.length : Nat) := by omega
    have yx1 := boxed_cell (j := 1) (HY.out.below HS.out).box rfl
    have b1 := boxed_cell (j := 1) (HBX.out.below HS.out).box rfl
    revert hF;refine zrs [1, 1, 4, 5, 1, 4, 4, 4, 4, 5, 5] [7, 8, 11, 14, 15, 111] fun a hF => ?_
    clear yx1 b1
    refine cond_no hF rfl ?_
    refine wp_exit ?_
    exact hKAn _ _ ⟨hF.sub ⟨rfl, rfl, rfl, rfl, trivial⟩, HS⟩
   clear hF HS3
   rintro a w30 ⟨hF, HS⟩
   clear hqe
   revert hF;refine zrs [1, 2] [6] fun a hF => ?_;refine wp_ret ?_;(try simp only [then_ret, block_ret, goto_ret]);revert hF;refine zq ?_
   exact ⟨rfl, HB.out.trans (HS.out.mono HB.out.size)⟩
end Go.Proofs.YthabgljdndbphaaGreatDoor
