/- foyerref23.Compact: the walk; foyerref22.alone: the walk (printed by wip/rmgen.py). -/
import Derived.Test.YthabgljdndbphaaGreatDoorQPKM38
import Derived.Test.YthabgljdndbphaaGreatDoorQPKM39
import Derived.Test.YthabgljdndbphaaGreatDoorQPKM42

set_option linter.unusedVariables false
set_option linter.unusedSimpArgs false
namespace Go.Proofs.YthabgljdndbphaaGreatDoor
open Go.RowKit Go.IntWalk Go.Maps Go.WideMaps
set_option linter.unusedSimpArgs false
set_option linter.unusedVariables false

/-! ### Group by group -/
def spotsOf (G : List (Int × Int)) (c : Nat → Int) (i : Nat) : List (Int × Int) := (List.range i).map (seatOf G c)
def useOf (G : List (Int × Int)) (c : Nat → Int) (n i : Nat) : List Int := (List.range n).map fun (r : Nat) => takes G c (r : Int) i
section
variable {G : List (Int × Int)} {c : Nat → Int} {n i : Nat}
theorem spots_len : (spotsOf G c i).length = i := by unfold spotsOf; simp
theorem spots_succ : spotsOf G c (i + 1) = spotsOf G c i ++ [seatOf G c i] := by unfold spotsOf; rw [List.range_succ, List.map_append]; rfl
theorem spots_all : spotsOf G c G.length = seatAll G c := rfl
theorem use_len : (useOf G c n i).length = n := by unfold useOf; simp
theorem use_at {r : Nat} (hr : r < n) : ix (useOf G c n i) r = takes G c r i := by unfold useOf ix; simp [hr]
theorem use_zero : useOf G c n 0 = List.replicate n 0 := by
 refine List.ext_getElem (by rw [use_len]; simp) fun r h1 h2 => ?_
 simp [useOf, takes, sumRows]
theorem use_same (h : c i = -1) : useOf G c n (i + 1) = useOf G c n i := by
 unfold useOf
 refine List.map_congr_left fun r _ => ?_
 rw [takes, sumRows, ← takes, if_neg (by omega)]
 omega
theorem use_set {q : Nat} (hq : q < n) (h : c i = (q : Int)) : useOf G c n (i + 1) = (useOf G c n i).set q (ix (useOf G c n i) q + gs G i) := by
 rw [use_at hq]
 refine List.ext_getElem (by rw [List.length_set, use_len, use_len]) fun r h1 h2 => ?_
 have e1 : (useOf G c n (i + 1))[r] = takes G c r (i + 1) := by simp [useOf]
 have e2 : ∀ (h : r < (useOf G c n i).length), (useOf G c n i)[r] = takes G c r i := fun h => by simp [useOf]
 rw [List.getElem_set, e1, e2, takes, sumRows, ← takes]
 by_cases e : q = r
 ·
  subst e
  rw [if_pos h, if_pos rfl]
 ·
  rw [if_neg (by omega), if_neg e]
  omega
theorem takes_le (hv : ValuesOk G) (r : Int) : ∀ i, i ≤ G.length → takes G c r i ≤ 12 * i
 | 0, _ => Int.le_refl _
 | i + 1, h => by
  have := takes_le hv r i (by omega)
  have := (hv i (by omega)).1
  rw [takes, sumRows, ← takes]
  split <;> omega
theorem val_le (hv : ValuesOk G) (hr : ∀ i, i < G.length → -1 ≤ c i) : ∀ i, i ≤ G.length → 0 ≤ valS G (dec c i) ∧ valS G (dec c i) ≤ 12000000 * i
 | 0, _ => ⟨Int.le_refl _, Int.le_refl _⟩
 | i + 1, h => by
  have := val_le hv hr i (by omega)
  have hgv := hv i (by omega)
  have h1 : 0 ≤ gs G i * gv G i := Int.mul_nonneg (by omega) (by omega)
  have h2 : gs G i * gv G i ≤ 12 * 1000000 := Int.mul_le_mul hgv.1.2 hgv.2.2 hgv.2.1 (by omega)
  have := hr i (by omega)
  by_cases e : c i = -1
  ·
   rw [val_out' e]; omega
  ·
   obtain ⟨q, hq⟩ : ∃ q : Nat, c i = (q : Int) := ⟨(c i).toNat, by omega⟩
   rw [val_sit' hq]; omega
end
/-! ### In memory -/
structure CmM (w0 w : World) (gp gr gu gx : Nat) (PA : Array Value) (spv : Value) (S : List (Int × Int)) (U : List Int) (xv : Int) : Prop where
 below : Below w0.heap.size w0 w
 prob : w.heap[gp]? = some (.cells PA 25 (0, 0))
 res : w.heap[gr]? = some (.cells #[.slice none 0 0, .int .i64 0] 31 (0, 0))
 used : IntRow w gu 3 U
 pack : w.heap[gx]? = some (.cells #[spv, .int .i64 xv] 31 (0, 0))
 own : w.ownsRow w0.heap.size 46 2 spv S.length (flat SpotE S)
 new : w0.heap.size ≤ gu ∧ w0.heap.size ≤ gx ∧ gr ≠ gx
section
variable {w0 w w' : World} {gp gr gu gx : Nat} {PA : Array Value} {spv : Value} {S : List (Int × Int)} {U : List Int} {xv : Int}
theorem CmM.down (h : CmM w0 w gp gr gu gx PA spv S U xv) (hb : Below w.heap.size w w') : CmM w0 w' gp gr gu gx PA spv S U xv :=
 ⟨h.below.trans (hb.mono h.below.size), (hb.block _ (lt_of_block h.prob)).trans h.prob, (hb.block _ (lt_of_block h.res)).trans h.res, h.used.below hb, (hb.block _ (lt_of_block h.pack)).trans h.pack, row_of_heap h.own fun b hb2 => hb.block b (h.own.lt b hb2).2, h.new⟩
theorem int_type (h : IntRow w gu 3 U) : ∃ arr, w.heap[gu]? = some (.cells arr 3 (0, 0)) := let ⟨arr, e, _⟩ := h; ⟨arr, e⟩
theorem IntRow.keep {S : TypeId → Prop} {D : List Int} {g : Nat} (h : IntRow w g 3 D) (ht : TUpd S w w') (hS : ¬ S 3) : IntRow w' g 3 D := by
 obtain ⟨arr, e⟩ := int_type h
 exact h.of_heap ((ht.keep e hS).trans e.symm)
theorem own_keep {S : TypeId → Prop} {B n : Nat} {v : Value} {xs : List Value} (h : w.ownsRow B 46 2 v n xs) (ht : TUpd S w w') (hS : ¬ S 46) : w'.ownsRow B 46 2 v n xs :=
 row_of_heap h fun b hb => by
  obtain ⟨cur, hc⟩ := own_type h hb
  rw [ht.keep hc hS, hc]
theorem CmM.val (h : CmM w0 w gp gr gu gx PA spv S U xv) (y : Int) : CmM w0 (w.setCell ⟨gx, 1, none⟩ (.int .i64 y)) gp gr gu gx PA spv S U y := by
 have ht := tupd_set (j := 1) h.pack (.int .i64 y)
 refine ⟨h.below.setCell (by show _ ≤ gx; exact h.new.2.1) _, ht.keep h.prob (by decide), ?_, h.used.keep ht (by decide), ?_, own_keep h.own ht (by decide), h.new⟩
 ·
  rw [Below.heap_setCell _ _ _ _ h.new.2.2]
  exact h.res
 ·
  simp [World.setCell, Array.getElem?_modify, h.pack]
theorem CmM.use (h : CmM w0 w gp gr gu gx PA spv S U xv) {q : Nat} (hq : q < U.length) (y : Int) : CmM w0 (w.setCell ⟨gu, q, none⟩ (.int .i64 y)) gp gr gu gx PA spv S (U.set q y) xv := by
 obtain ⟨arr, e⟩ := int_type h.used
 have ht := tupd_set (j := q) e (.int .i64 y)
 exact ⟨h.below.setCell (by show _ ≤ gu; exact h.new.1) _, ht.keep h.prob (by decide), ht.keep h.res (by decide), h.used.set q hq y, ht.keep h.pack (by decide), own_keep h.own ht (by decide), h.new⟩
theorem CmM.spot (h : CmM w0 w gp gr gu gx PA spv S U xv) {v' : Value} {s : Int × Int} (ho : w'.ownsRow w0.heap.size 46 2 v' (S.length + 1) (flat SpotE (S ++ [s]))) (hg : w.grownBy w' spv.ownBlock) : CmM w0 (w'.setCell ⟨gx, 0, none⟩ v') gp gr gu gx PA v' (S ++ [s]) U xv := by
 have ht := tupd_own h.own hg
 have hb1 : Below w0.heap.size w0 w' := h.below.grown hg h.below.size (fun k hk => (h.own.lt k hk).1)
 have hp1 := ht.keep h.pack (by decide)
 have ht2 := tupd_set (j := 0) hp1 v'
 refine ⟨hb1.setCell (by show _ ≤ gx; exact h.new.2.1) _, ht2.keep (ht.keep h.prob (by decide)) (by decide), ?_, (h.used.keep ht (by decide)).keep ht2 (by decide), ?_, ?_, h.new⟩
 ·
  rw [Below.heap_setCell _ _ _ _ h.new.2.2]
  exact ht.keep h.res (by decide)
 ·
  simp [World.setCell, Array.getElem?_modify, hp1]
 ·
  rw [List.length_append]
  exact own_keep ho ht2 (by decide)
theorem World_setRow_ne (w : World) {gz b : Nat} {v : Value} (hb : v.ownBlock = some b) (hne : some gz ≠ v.ownBlock) (B : Array Value) : (w.setRow gz B).heap[b]? = w.heap[b]? := by
 have : gz ≠ b := fun e => hne (by rw [hb, e])
 simp [World.setRow, Array.getElem?_modify, this]
/-- A store into a spot's variable. -/
theorem CmM.spotVar (h : CmM w0 w gp gr gu gx PA spv S U xv) {gz : Nat} {A B : Array Value} (hz : w.heap[gz]? = some (.cells A 46 (0, 0))) (hn : w0.heap.size ≤ gz) (hne : some gz ≠ spv.ownBlock) : CmM w0 (w.setRow gz B) gp gr gu gx PA spv S U xv := by
 have ht := tupd_row hz B
 refine ⟨below_setRow h.below hn B, ht.keep h.prob (by decide), ht.keep h.res (by decide), h.used.keep ht (by decide), ht.keep h.pack (by decide), row_of_heap h.own fun b hb => ?_, h.new⟩
 exact World_setRow_ne w hb hne B
end
set_option maxRecDepth 100000 in
set_option maxHeartbeats 16000000 in
theorem compact_any (w : World) (ra ga ca : Option Addr) (c m d cc : Nat) (single : Bool) (R C : List Int) (G : List (Int × Int)) (hn : R.length ≤ 4000) (hm : m ≤ 4000) (hG : Pairs w ga m G) (hC : Ints w ca m C) (hv : ValuesOk G) (hr : ∀ i, i < m → -1 ≤ ix C i ∧ ix C i < R.length) :
  Calls Tryz.prog 19 #[.agg #[.slice ra R.length c, .slice ga m d, .bool single], .slice ca m cc] w fun e w' => ∃ sa sc, e = .returned (.agg #[.slice sa m sc, .int .i64 (valS G (dec (ix C) m))]) ∧ Below w.heap.size w w' ∧ Pairs w' sa m (seatAll G (ix C)) := by
 have HG := Lib.hid hG
 have HC := Lib.hid hC
 have HV := Lib.hid hv
 have HCR := Lib.hid hr
 have HGL := Lib.hid hG.1
 clear hG hC hv hr
 refine enter_fr (N := 78) [.agg #[.slice ra R.length c, .slice ga m d, .bool single], .slice ca m cc] (Tryz.func19) rfl Tryz.ntmps19 (by rfl) (fun a hF => ?_);replace hF := hF.kp [0, 1] rfl;refine wp_seq_k (fun K hK => ?_);refine region_seq (l := [0, 1]) (by kernel_rfl) ?_;refine seq_one ?_;revert hF;refine qe1 fun a hF => ?_
 have h1 := heap_new w (.cells #[.slice ra R.length c, .slice ga m d, .bool single] 25)
 have b1 := Joins.below_alloc1 w (.cells #[.slice ra R.length c, .slice ga m d, .bool single] 25)
 generalize w.alloc (.cells #[.slice ra R.length c, .slice ga m d, .bool single] 25) = w1 at *
 obtain ⟨gp, hgp⟩ : ∃ x, x = w.heap.size := ⟨_, rfl⟩
 rw [← hgp] at hF h1
 clear hgp
 refine seq_one ?_;revert hF;refine qe0 fun a hF => ?_
 have h2 := heap_new w1 (.cells #[.slice none 0 0, .int .i64 0] 31)
 have b2 := Joins.below_alloc1 w1 (.cells #[.slice none 0 0, .int .i64 0] 31)
 have h12 := (b2.block _ (lt_of_block h1)).trans h1
 have HB2 := Lib.hid (b1.trans (b2.mono b1.size))
 have HB1s := Lib.hid b1.size
 clear h1 b1 b2
 generalize w1.alloc (.cells #[.slice none 0 0, .int .i64 0] 31) = w2 at *
 obtain ⟨gr, hgr⟩ : ∃ x, x = w1.heap.size := ⟨_, rfl⟩
 rw [← hgr] at hF h2
 have HGR : Hid (w.heap.size ≤ gr) := by rw [hgr]; exact HB1s.out
 clear hgr
 have HH := Lib.hid (And.intro h12 h2)
 clear h12 h2
 refine seq_end ?_;replace hF := hF.kp [1, 2, 4] rfl;refine hK _ _ ?_;clear hK
 obtain ⟨arr, hs, hz, hmk⟩ := make_ints R.length hn
 have p0 := boxed_cell (j := 0) HH.out.1 rfl
 refine wp_seq_k (fun K hK => ?_);revert hF;refine zrp [4, 4, 4] [3, 4] fun a hF => ?_;refine seq_one ?_;revert hF;refine qe2 fun a hF => ?_
 have HU : Hid (IntRow (w2.alloc (.cells arr 3)) w2.heap.size 3 (List.replicate R.length 0)) := IntRow.made rfl hs hz
 have b3 := Joins.below_alloc1 w2 (.cells arr 3)
 have HH3 := Lib.hid (And.intro ((b3.block _ (lt_of_block HH.out.1)).trans HH.out.1) ((b3.block _ (lt_of_block HH.out.2)).trans HH.out.2))
 have HB3 := Lib.hid (HB2.out.trans (b3.mono HB2.out.size))
 have HGU : Hid (w.heap.size ≤ w2.heap.size) := HB2.out.size
 clear p0 b3 HH HB2 hmk hs hz
 generalize w2.alloc (.cells arr 3) = w3 at *
 generalize w2.heap.size = gu at *
 revert hF;refine zre 4 [2] [1, 2, 4, 5] fun a hF => ?_;refine hK _ _ ?_;clear hK;refine wp_seq_k (fun K hK => ?_);revert hF;refine zrp [3] [1, 2] fun a hF => ?_;refine seq_one ?_;revert hF;refine qe0 fun a hF => ?_
 obtain ⟨wa, gx, hwa, hgv, hSV, HTW⟩ := var_new w3 31 #[.slice none 0 0, .int .i64 0] #[.slice none 0 0, .int .i64 0] (by kernel_rfl) rfl (by simp [Value.oneCell'])
 rw [hwa]
 rw [← hgv] at hF
 clear hwa hgv
 refine seq_one ?_;refine op_storev rfl rfl hF rfl rfl rfl rfl hSV ?_;clear hF;refine fun a hF => ?_
 clear hSV
 refine hK _ _ ?_;clear hK
 generalize wa.setRow gx #[.slice none 0 0, .int .i64 0] = w4 at *
 have HS0 : Hid (CmM w w4 gp gr gu gx #[.slice ra R.length c, .slice ga m d, .bool single] (.slice none 0 0) (spotsOf G (ix C) 0) (useOf G (ix C) R.length 0) (valS G (dec (ix C) 0))) := by
  refine ⟨HB3.out.trans (HTW.out.1.mono HB3.out.size), (HTW.out.1.block _ (lt_of_block HH3.out.1)).trans HH3.out.1, (HTW.out.1.block _ (lt_of_block HH3.out.2)).trans HH3.out.2, ?_, HTW.out.2.1, nil_row, HGU.out, Nat.le_trans HB3.out.size HTW.out.2.2, ?_⟩
  ·
   rw [use_zero]
   exact HU.out.below HTW.out.1
  ·
   have := lt_of_block HH3.out.2
   have := HTW.out.2.2
   omega
 clear HU HH3 HB3 HGU HTW
 refine seq_cut (fun a' w' => ∃ spv : Value, FrF 78 [] [(1, .slice ca m cc), (2, .pointer (some ⟨gp, 0, none⟩)), (4, .pointer (some ⟨gr, 0, none⟩)), (5, .slice (some ⟨gu, 0, none⟩) R.length R.length), (6, .pointer (some ⟨gx, 0, none⟩))] a' ∧ Hid (CmM w w' gp gr gu gx #[.slice ra R.length c, .slice ga m d, .bool single] spv (spotsOf G (ix C) m) (useOf G (ix C) R.length m) (valS G (dec (ix C) m)))) (fun KAl hKAl => ?_) ?_
 ·
  skip
  revert hF;refine zrs [2] [1, 2, 4, 5, 6, 7] fun a hF => ?_
  refine wp_block ?_
  refine loop_fr (fun ql a' w' => ∃ i : Nat, i + ql = m ∧ ∃ spv : Value, FrF 78 [] [(1, .slice ca m cc), (2, .pointer (some ⟨gp, 0, none⟩)), (4, .pointer (some ⟨gr, 0, none⟩)), (5, .slice (some ⟨gu, 0, none⟩) R.length R.length), (6, .pointer (some ⟨gx, 0, none⟩)), (7, .int .i64 i)] a' ∧ Hid (CmM w w' gp gr gu gx #[.slice ra R.length c, .slice ga m d, .bool single] spv (spotsOf G (ix C) i) (useOf G (ix C) R.length i) (valS G (dec (ix C) i)))) (m) ⟨0, by omega, _, hF, HS0⟩ ?_
  clear hF HS0
  rintro rkl a wr ⟨i, hikl, spv, hF, HS⟩ KBl hKBl
  refine wp_seq_k (fun K hK => ?_)
  by_cases hlt : i < m
  rotate_left
  ·
   have hlti : ¬ (i : Int) < (m : Nat) := by omega
   have p1 := boxed_cell (j := 1) HS.out.prob rfl
   revert hF;refine zrs [1, 4, 4, 4, 5] [1, 2, 4, 5, 6, 7, 18] fun a hF => ?_
   clear p1
   refine cond_no hF rfl ?_
   refine wp_exit ?_
   have hie : i = m := by omega
   rw [hie] at HS
   exact hKAl _ _ ⟨_, hF.sub ⟨rfl, rfl, rfl, rfl, rfl, trivial⟩, HS⟩
  have hlti : (i : Int) < (m : Nat) := by omega
  have p1 := boxed_cell (j := 1) HS.out.prob rfl
  revert hF;refine zrs [1, 4, 4, 4, 5] [1, 2, 4, 5, 6, 7, 18] fun a hF => ?_
  clear p1
  refine cond_yes hF rfl ?_
  refine wp_skip ?_
  refine hK _ _ ?_;clear hK;replace hF := hF.kp [1, 2, 4, 5, 6, 7] rfl
  clear hKAl
  refine seq_cut (fun a' w' => ∃ spv : Value, FrF 78 [] [(1, .slice ca m cc), (2, .pointer (some ⟨gp, 0, none⟩)), (4, .pointer (some ⟨gr, 0, none⟩)), (5, .slice (some ⟨gu, 0, none⟩) R.length R.length), (6, .pointer (some ⟨gx, 0, none⟩)), (7, .int .i64 i)] a' ∧ Hid (CmM w w' gp gr gu gx #[.slice ra R.length c, .slice ga m d, .bool single] spv (spotsOf G (ix C) (i + 1)) (useOf G (ix C) R.length (i + 1)) (valS G (dec (ix C) (i + 1))))) (fun KCl hKCl => ?_) ?_
  rotate_left
  ·
   clear hF HS
   rintro a w' ⟨spv, hF, HS⟩
   have hws : IntKind.i64.wrap ((i : Int) + 1) = ((i + 1 : Nat) : Int) := wrap_succ (by omega)
   revert hF;refine zrg [1, 4, 2] [1, 2, 4, 5, 6, 7] fun a hF => ?_
   exact hKBl (m - (i + 1)) _ _ (by omega) ⟨i + 1, by omega, _, hF, HS⟩
  clear hKBl hikl
  refine wp_block ?_
  have hii : (i : Int) < (m : Nat) := by omega
  obtain ⟨bc, oc, hca, _⟩ := HC.out.2 i hlt
  have HCA := Lib.hid hca
  have hcr := HCR.out i hlt
  have hgv := HV.out i (by rw [HGL.out]; exact hlt)
  have htk := fun r => And.intro (takes_nonneg HV.out (ix C) r i (by rw [HGL.out]; omega)) (takes_le (c := ix C) HV.out r i (by rw [HGL.out]; omega))
  have HTK := Lib.hid htk
  have hvl := val_le (c := ix C) HV.out (fun j hj => (HCR.out j (by rw [← HGL.out]; exact hj)).1) i (by rw [HGL.out]; omega)
  have hmul : 0 ≤ gs G i * gv G i ∧ gs G i * gv G i ≤ 12000000 := ⟨Int.mul_nonneg (by omega) (by omega), Int.le_trans (Int.mul_le_mul hgv.1.2 hgv.2.2 hgv.2.1 (by omega)) (by omega)⟩
  clear htk
  rw [hca] at hF
  refine wp_seq_k (fun K hK => ?_);revert hF;refine zrp [3] [1, 2] fun a hF => ?_;refine seq_one ?_;revert hF;refine qe0 fun a hF => ?_
  obtain ⟨wa, gz, hwa, hgv, hSV, HTW⟩ := var_new wr 46 #[.int .i64 0, .int .i64 0] #[.int .i64 (-1), .int .i64 0] (by kernel_rfl) rfl (by simp [Value.oneCell'])
  rw [hwa]
  rw [← hgv] at hF
  clear hwa hgv
  refine seq_one ?_;refine op_storev rfl rfl hF rfl rfl rfl rfl hSV ?_;clear hF;refine fun a hF => ?_
  clear hSV
  refine hK _ _ ?_;clear hK
  generalize wa.setRow gz #[.int .i64 (-1), .int .i64 0] = w3 at *
  have HGZ : Hid (w.heap.size ≤ gz ∧ some gz ≠ spv.ownBlock) := ⟨Nat.le_trans HS.out.below.size HTW.out.2.2, fun e => by
   have := (HS.out.own.lt gz e.symm).2
   have := HTW.out.2.2
   omega⟩
  have HS3 : Hid (CmM w w3 gp gr gu gx #[.slice ra R.length c, .slice ga m d, .bool single] spv (spotsOf G (ix C) i) (useOf G (ix C) R.length i) (valS G (dec (ix C) i)) ∧ w3.heap[gz]? = some (.cells #[.int .i64 ((-1 : Int), (0 : Int)).1, .int .i64 ((-1 : Int), (0 : Int)).2] 46 (0, 0))) := ⟨HS.out.down HTW.out.1, HTW.out.2.1⟩
  clear HS HTW
  refine seq_cut (fun a' w' => FrF 78 [] [(1, .slice (some ⟨bc, oc, none⟩) m cc), (2, .pointer (some ⟨gp, 0, none⟩)), (4, .pointer (some ⟨gr, 0, none⟩)), (5, .slice (some ⟨gu, 0, none⟩) R.length R.length), (6, .pointer (some ⟨gx, 0, none⟩)), (7, .int .i64 i), (8, .pointer (some ⟨gz, 0, none⟩))] a' ∧ Hid (CmM w w' gp gr gu gx #[.slice ra R.length c, .slice ga m d, .bool single] spv (spotsOf G (ix C) i) (useOf G (ix C) R.length (i + 1)) (valS G (dec (ix C) (i + 1))) ∧ w'.heap[gz]? = some (.cells #[.int .i64 (seatOf G (ix C) i).1, .int .i64 (seatOf G (ix C) i).2] 46 (0, 0)))) (fun KU hKU => ?_) ?_
  ·
   clear hca
   obtain ⟨bc', oc', hca', c0⟩ := (HC.out.below HS3.out.1.below).2 i hlt
   obtain ⟨rfl, rfl⟩ : bc = bc' ∧ oc = oc' := by
    have := HCA.out.symm.trans hca'
    simpa using this
   clear hca'
   by_cases hneg : ix C i = -1
   ·
    have hq : decide (0 ≤ ix C i) = false := by rw [hneg]; rfl
    have hq' : ¬ 0 ≤ ix C i := by omega
    have HNG := Lib.hid hneg
    clear hneg
    revert hF;refine zrs [1, 1, 5, 4, 4] [1, 2, 4, 5, 6, 7, 8, 26] fun a hF => ?_
    clear hq hq' c0
    refine cond_no hF rfl ?_
    refine wp_skip ?_
    replace hF := hF.kp [1, 2, 4, 5, 6, 7, 8] rfl
    refine hKU _ _ ⟨hF, ?_, ?_⟩
    ·
     rw [use_same HNG.out, val_out' HNG.out]
     exact HS3.out.1
    ·
     unfold seatOf
     rw [HNG.out]
     exact HS3.out.2
   obtain ⟨q, hqq⟩ : ∃ q : Nat, ix C i = (q : Int) := ⟨(ix C i).toNat, by omega⟩
   have HQQ := Lib.hid hqq
   have hqn : q < R.length := by omega
   have hqn' : (q : Int) < (R.length : Nat) := by omega
   rw [hqq] at c0
   have hq : decide ((0 : Int) ≤ (q : Int)) = true := by simp
   have hq' : (0 : Int) ≤ (q : Int) := by omega
   clear hneg hqq hcr
   revert hF;refine zrs [1, 1, 5, 4, 4] [1, 2, 4, 5, 6, 7, 8, 26] fun a hF => ?_
   clear hq hq'
   refine cond_yes hF rfl ?_
   have htq := HTK.out q
   have HUQ : Hid (ix (useOf G (ix C) R.length i) q = takes G (ix C) q i) := use_at hqn
   have HUL : Hid (q < (useOf G (ix C) R.length i).length) := by show q < _; rw [use_len]; exact hqn
   obtain ⟨tq, htqe⟩ : ∃ x, x = takes G (ix C) q i := ⟨_, rfl⟩
   rw [← htqe] at HUQ htq
   have HTQ := Lib.hid htqe
   clear htqe
   obtain ⟨vi, hvi⟩ : ∃ x, x = valS G (dec (ix C) i) := ⟨_, rfl⟩
   rw [← hvi] at HS3 hvl
   have HVI := Lib.hid hvi
   clear hvi
   have hbd := below_d (Below.refl w3.heap.size w3)
   have HSd := Lib.hid (HS3.out.1.down hbd)
   have HZd : Hid (w3.drew.heap[gz]? = some (.cells #[.int .i64 (-1), .int .i64 0] 46 (0, 0))) := HS3.out.2
   have u0 := HSd.out.used.cell q HUL.out
   rw [HUQ.out] at u0
   have hSV := run_storeVar_row (P := Tryz.prog) w3.drew gz 46 46 #[.int .i64 (-1), .int .i64 0] #[.int .i64 q, .int .i64 tq] HZd.out (by kernel_rfl) rfl (by simp [Value.oneCell'])
   have HS4 := Lib.hid (HSd.out.spotVar HZd.out HGZ.out.1 HGZ.out.2 (B := #[.int .i64 q, .int .i64 tq]))
   have HZ4 : Hid ((w3.drew.setRow gz #[.int .i64 q, .int .i64 tq]).heap[gz]? = some (.cells #[.int .i64 q, .int .i64 tq] 46 (0, 0))) := setRow_heap _ _ _ _ _ (0, 0) HZd.out
   clear HSd HZd HS3 hbd
   refine wp_seq_k (fun K hK => ?_);refine region_any (by kernel_rfl) ?_;revert hF;refine zra (fuel := 1) [1, 33, 74, 116, 129, 161, 193, 234, 276, 298, 340, 362] [12] fun a hF => ?_;refine any_one (n := 12) (fuel := 0) (by kernel_rfl) ?_;refine op_storev rfl rfl hF rfl rfl rfl rfl hSV ?_;clear hF;refine fun a hF => ?_
   clear hSV u0 c0
   refine any_end (by kernel_rfl) ?_;replace hF := hF.kp [1, 2, 4, 5, 6, 7, 8] rfl;refine hK _ _ ?_;clear hK
   generalize w3.drew.setRow gz #[.int .i64 q, .int .i64 tq] = w4 at *
   have hbd := below_d (Below.refl w4.heap.size w4)
   have HSd := Lib.hid (HS4.out.down hbd)
   have HZd : Hid (w4.drew.heap[gz]? = some (.cells #[.int .i64 q, .int .i64 tq] 46 (0, 0))) := HZ4.out
   have u0 := HSd.out.used.cell q HUL.out
   rw [HUQ.out] at u0
   have f0 := HSd.out.used.free q
   obtain ⟨bc', oc', hca', c0⟩ := (HC.out.below HSd.out.below).2 i hlt
   obtain ⟨rfl, rfl⟩ : bc = bc' ∧ oc = oc' := by
    have := HCA.out.symm.trans hca'
    simpa using this
   clear hca'
   rw [HQQ.out] at c0
   obtain ⟨bg, og, hga, e0, e1⟩ := (HG.out.below HSd.out.below).2 i hlt
   have p1 := boxed_cell (j := 1) HSd.out.prob rfl
   rw [hga] at p1
   have hws : IntKind.i64.wrap (tq + gs G i) = tq + gs G i := wrap_in (by omega) (by omega)
   have HS5 := Lib.hid (HSd.out.use HUL.out (tq + gs G i))
   have HZ5 : Hid ((w4.drew.setCell ⟨gu, q, none⟩ (.int .i64 (tq + gs G i))).heap[gz]? = some (.cells #[.int .i64 q, .int .i64 tq] 46 (0, 0))) := by
    obtain ⟨arr, hh⟩ := int_type HSd.out.used
    exact (tupd_set (j := q) hh _).keep HZd.out (by decide)
   clear HSd HZd HS4 HZ4 hbd hga
   refine wp_seq_k (fun K hK => ?_);refine region_any (by kernel_rfl) ?_;generalize w4.drew = wd4 at *;revert hF;refine zra (fuel := 1) [1, 33, 65, 106, 148, 170, 212, 233, 276, 289, 330, 361, 404, 426, 458] [15] fun a hF => ?_;refine any_one (n := 15) (fuel := 0) (by kernel_rfl) ?_;revert hF;refine qu2 fun a hF => ?_
   clear u0 f0 c0 e0 e1 p1 hws
   refine any_end (by kernel_rfl) ?_;replace hF := hF.kp [1, 2, 4, 5, 6, 7, 8] rfl;refine hK _ _ ?_;clear hK
   generalize wd4.setCell ⟨gu, q, none⟩ (.int .i64 (tq + gs G i)) = w5 at *
   have hbd := below_d (Below.refl w5.heap.size w5)
   have HSd := Lib.hid (HS5.out.down hbd)
   have HZd : Hid (w5.drew.heap[gz]? = some (.cells #[.int .i64 q, .int .i64 tq] 46 (0, 0))) := HZ5.out
   obtain ⟨bg, og, hga, e0, e1⟩ := (HG.out.below HSd.out.below).2 i hlt
   have p1 := boxed_cell (j := 1) HSd.out.prob rfl
   rw [hga] at p1
   have x1 := boxed_cell (j := 1) HSd.out.pack rfl
   have f1 := Joins.unfrozen_of_block HSd.out.pack 1
   have hwm : IntKind.i64.wrap (gs G i * gv G i) = gs G i * gv G i := wrap_in (by omega) (by omega)
   obtain ⟨b, hb⟩ : ∃ x, x = gs G i * gv G i := ⟨_, rfl⟩
   rw [← hb] at hwm hmul
   have HB := Lib.hid hb
   have hws : IntKind.i64.wrap (vi + b) = vi + b := wrap_in (by omega) (by omega)
   have HS6 := Lib.hid (HSd.out.val (vi + b))
   have HZ6 : Hid ((w5.drew.setCell ⟨gx, 1, none⟩ (.int .i64 (vi + b))).heap[gz]? = some (.cells #[.int .i64 q, .int .i64 tq] 46 (0, 0))) := (tupd_set (j := 1) HSd.out.pack _).keep HZd.out (by decide)
   rw [hb] at hwm
   rw [hb] at hws HS6 HZ6
   clear HSd HZd HS5 HZ5 hbd hga hb
   refine region_any (by kernel_rfl) ?_;generalize w5.drew = wd5 at *;revert hF;refine zra (fuel := 1) [9, 52, 73, 116, 129, 170, 201, 244, 265, 308, 321, 362, 393, 436, 458, 490, 521] [17] fun a hF => ?_;refine any_one (n := 17) (fuel := 0) (by kernel_rfl) ?_;revert hF;refine qu2 fun a hF => ?_
   clear x1 f1 e0 e1 p1 hws hwm
   refine any_end (by kernel_rfl) ?_;replace hF := hF.kp [1, 2, 4, 5, 6, 7, 8] rfl;replace hF := hF.kp [1, 2, 4, 5, 6, 7, 8] rfl
   refine hKU _ _ ⟨hF, ?_, ?_⟩
   ·
    rw [use_set hqn HQQ.out, val_sit' HQQ.out, HUQ.out, ← HVI.out]
    exact HS6.out
   ·
    unfold seatOf
    rw [HQQ.out, if_pos (by omega), ← HTQ.out]
    exact HZ6.out
  clear hF HS3 hca
  rintro a w7 ⟨hF, HX⟩
  have HSL : Hid (spotsOf G (ix C) (i + 1) = spotsOf G (ix C) i ++ [seatOf G (ix C) i]) := spots_succ
  rw [HSL.out] at hKCl
  obtain ⟨sp, hsp⟩ : ∃ x, x = seatOf G (ix C) i := ⟨_, rfl⟩
  rw [← hsp] at HX hKCl
  clear hsp HSL
  have hsl : (spotsOf G (ix C) i).length ≤ 4000 := by rw [spots_len]; omega
  generalize spotsOf G (ix C) i = S at *
  have z0 := boxed_cell (j := 0) HX.out.2 rfl
  have z1 := boxed_cell (j := 1) HX.out.2 rfl
  have g0 := boxed_cell (j := 0) HX.out.1.pack rfl
  have hlv : (loadVar 46 ⟨gz, 0, none⟩).run Tryz.prog w7 = .ok (.agg #[.int .i64 sp.1, .int .i64 sp.2]) w7 := by go_simp
  revert hF;refine zrp [4, 4, 4] [3, 4, 5, 6] fun a hF => ?_;refine seq_one ?_;revert hF;refine qe1 fun a hF => ?_
  clear hlv z0 z1 g0
  have HN := Lib.hid (recs_alloc SpotE w7 46 [sp] #[.int .i64 sp.1, .int .i64 sp.2] rfl)
  have HXa := Lib.hid (HX.out.1.down (Joins.below_alloc1 w7 (.cells #[.int .i64 sp.1, .int .i64 sp.2] 46)))
  clear HX
  generalize w7.alloc (.cells #[.int .i64 sp.1, .int .i64 sp.2] 46) = w8 at *
  obtain ⟨v', w9, hAPP, ho, hg, _⟩ := append_recs (E := SpotE) 29 46 29 Tryz.underlying29 info_spot rfl (by decide) HXa.out.own (u := .slice (some ⟨w7.heap.size, 0, none⟩) 1 1) ⟨_, _, rfl, HN.out, fun h => by cases h⟩ (by simp; omega) HXa.out.below.size
  have hpk := (tupd_own HXa.out.own hg).keep HXa.out.pack (by decide)
  have g0 := boxed_cell (j := 0) hpk rfl
  have f0 := Joins.unfrozen_of_block hpk 0
  obtain ⟨sa', sc', rfl, _⟩ := OwnRecs.of_row ho
  have HXs := Lib.hid (HXa.out.spot ho hg)
  clear ho hg hpk HXa HN
  refine seq_one ?_;refine op_append rfl rfl rfl rfl rfl hF rfl rfl rfl hAPP (fun a hF => ?_);clear hAPP;revert hF;refine zrc 5 [4] [6] fun a hF => ?_;refine seq_one ?_;revert hF;refine qu2 fun a hF => ?_
  clear g0 f0
  refine seq_end ?_;replace hF := hF.kp [1, 2, 4, 5, 6, 7] rfl
  generalize w9.setCell ⟨gx, 0, none⟩ _ = w10 at *
  rw [← HCA.out] at hF
  exact hKCl _ _ ⟨_, hF, HXs⟩
 clear hF HS0
 rintro a w20 ⟨spv, hF, HS⟩
 obtain ⟨sa, sc, rfl, hown⟩ := OwnRecs.of_row HS.out.own
 have hsl : (spotsOf G (ix C) m).length = m := spots_len
 have HPR : Hid (Pairs w20 sa m (seatAll G (ix C))) := by
  have := recs_pairs hown.recs
  rw [hsl] at this
  rw [← spots_all, HGL.out]
  exact this
 have HPO : Hid (∀ b, (Value.slice sa (spotsOf G (ix C) m).length sc).ownBlock = some b → ∃ cur, w20.heap[b]? = some (.cells cur 46 (0, 0))) := fun b hb => own_type HS.out.own hb
 rw [hsl] at HS HPO
 clear hown
 have x0 := boxed_cell (j := 0) HS.out.pack rfl
 have x1 := boxed_cell (j := 1) HS.out.pack rfl
 clear hsl
 obtain ⟨xv, hxv⟩ : ∃ x, x = valS G (dec (ix C) m) := ⟨_, rfl⟩
 rw [← hxv] at HS x1 ⊢
 clear hxv
 have hlv : (loadVar 31 ⟨gx, 0, none⟩).run Tryz.prog w20 = .ok (.agg #[.slice sa m sc, .int .i64 xv]) w20 := by go_simp
 have hSV := run_storeVar_row (P := Tryz.prog) w20 gr 31 31 #[.slice none 0 0, .int .i64 0] #[.slice sa m sc, .int .i64 xv] HS.out.res (by kernel_rfl) rfl (by simp [Value.oneCell'])
 have HRR := Lib.hid (setRow_heap w20 gr _ #[.slice sa m sc, .int .i64 xv] _ (0, 0) HS.out.res)
 have HBE : Hid (Below w.heap.size w (w20.setRow gr #[.slice sa m sc, .int .i64 xv])) := below_setRow HS.out.below HGR.out _
 have HP2 : Hid (Pairs (w20.setRow gr #[.slice sa m sc, .int .i64 xv]) sa m (seatAll G (ix C))) := by
  obtain ⟨rfl2, hp⟩ := HPR.out
  refine ⟨rfl2, fun k hk => ?_⟩
  obtain ⟨b, o, e, c0, c1⟩ := hp k hk
  have hne : b ≠ gr := fun e2 => by
   have hb := HPO.out b (by rw [e]; rfl)
   rw [e2] at hb
   obtain ⟨cur, hc⟩ := hb
   rw [HS.out.res] at hc
   cases hc
  have hh : (w20.setRow gr #[.slice sa m sc, .int .i64 xv]).heap[b]? = w20.heap[b]? := by simp [World.setRow, Array.getElem?_modify, Ne.symm hne]
  exact ⟨b, o, e, by rw [World.cell?_of_block (a := ⟨b, o + k * 2, none⟩) hh]; exact c0, by rw [World.cell?_of_block (a := ⟨b, o + k * 2 + 1, none⟩) hh]; exact c1⟩
 clear HPR HPO
 refine wp_seq_k (fun K hK => ?_);revert hF;refine zrp [4] [1] fun a hF => ?_;refine seq_one ?_;refine op_storev rfl rfl hF rfl rfl rfl rfl hSV ?_;clear hF;refine fun a hF => ?_
 clear hSV hlv x0 x1
 generalize w20.setRow gr #[.slice sa m sc, .int .i64 xv] = w21 at *
 refine seq_end ?_;replace hF := hF.kp [4] rfl;refine hK _ _ ?_;clear hK
 have hlv2 : (loadVar 31 ⟨gr, 0, none⟩).run Tryz.prog w21 = .ok (.agg #[.slice sa m sc, .int .i64 xv]) w21 := by
  have d0 := boxed_cell (j := 0) HRR.out rfl
  have d1 := boxed_cell (j := 1) HRR.out rfl
  clear hF
  go_simp
 refine wp_ret ?_
 try simp only [then_ret, block_ret, goto_ret]
 refine ret_cell (fn := Tryz.f19) rfl hF rfl hlv2 ?_
 exact ⟨sa, sc, rfl, HBE.out, HP2.out⟩
end Go.Proofs.YthabgljdndbphaaGreatDoor

namespace Go.Proofs.YthabgljdndbphaaGreatDoor
open Go.RowKit

set_option maxRecDepth 10000 in
set_option maxHeartbeats 3200000 in
theorem alone_any (la : Option Addr) (n c : Nat) (D : List Bool) (w : World) (hn : n ≤ 100000) (hD : Bools w la n D) :
  Calls Tryz.prog 63 #[.slice la n c] w fun e w' => e = .returned (.bool (aloneB D)) ∧ w = w' := by
 have HD := Lib.hid hD
 have HL := Lib.hid hD.1
 clear hD
 go_enter Tryz.func63, Tryz.ntmps63
 go_wp2_with fail
 go_loop [3, 4, 5] (fun v3 v4 v5 => ∃ i : Nat, v5 = .int .i64 i ∧ v3 = .bool (someTo D i) ∧ v4 = .bool (loneTo D i) ∧ i ≤ n) (fun _ _ v5 => n - (intOf v5).toNat)
 case atStart => exact ⟨0, rfl, rfl, rfl, Nat.zero_le _⟩
 case round =>
  obtain ⟨i, rfl, rfl, rfl, hi⟩ := hrel
  by_cases hlt : i < n
  ·
   obtain ⟨db, dof, rfl, c0⟩ := HD.out.2 i hlt
   obtain ⟨b1, h1⟩ : ∃ b, someTo D i = b := ⟨_, rfl⟩
   obtain ⟨b2, h2⟩ : ∃ b, loneTo D i = b := ⟨_, rfl⟩
   obtain ⟨b3, h3⟩ : ∃ b, bx D i = b := ⟨_, rfl⟩
   rw [h3] at c0
   have HS : Hid (someTo D (i + 1) = (b1 || b3)) := by show _ = _; rw [someTo_succ, h1, h3]
   rw [h1, h2]
   have H2 := Lib.hid h2
   have H3 := Lib.hid h3
   clear h1 h2 h3
   cases b2
   ·
    cases b3
    ·
     by_cases hi0 : i = 0
     ·
      subst i
      simp only [Nat.add_zero] at c0
      by_cases hin : 0 + 1 = n
      ·
       have e5 : ((1 : Int) == (n : Int)) = true := by simp; omega
       have HN := Lib.hid hin
       clear hin
       cases b1
       all_goals
        have HT : Hid (loneTo D (0 + 1) = true) := by show _ = _; rw [loneTo_succ, H2.out]; unfold loneAt; rw [H3.out, HL.out, HN.out]; simp
        go_wp2_with fail
        go_round
        case rel => exact ⟨0 + 1, by go_num, by rw [HS.out]; rfl, by rw [HT.out], by omega⟩
        case measure => simp [intOf]; omega
      ·
       have e5 : ((1 : Int) == (n : Int)) = false := by simp; omega
       have e8 : 1 < n := by omega
       obtain ⟨db2, dof2, e6, c2⟩ := HD.out.2 (0 + 1) (by omega)
       simp only [Option.some.injEq, Addr.mk.injEq, and_true] at e6
       obtain ⟨rfl, rfl⟩ := e6
       obtain ⟨b5, h5⟩ : ∃ b, bx D (0 + 1) = b := ⟨_, rfl⟩
       rw [h5, Nat.zero_add] at c2
       have H5 := Lib.hid h5
       have HN := Lib.hid hin
       clear h5 hin
       cases b5
       ·
        cases b1
        all_goals
         have HT : Hid (loneTo D (0 + 1) = false) := by show _ = _; rw [loneTo_succ, H2.out]; unfold loneAt; rw [H3.out, HL.out, H5.out, show decide (0 + 1 = n) = false from decide_eq_false HN.out]; simp
         go_wp2_with fail
         go_round
         case rel => exact ⟨0 + 1, by go_num, by rw [HS.out]; rfl, by rw [HT.out], by omega⟩
         case measure => simp [intOf]; omega
       ·
        cases b1
        all_goals
         have HT : Hid (loneTo D (0 + 1) = true) := by show _ = _; rw [loneTo_succ, H2.out]; unfold loneAt; rw [H3.out, HL.out, H5.out, show decide (0 + 1 = n) = false from decide_eq_false HN.out]; simp
         go_wp2_with fail
         go_round
         case rel => exact ⟨0 + 1, by go_num, by rw [HS.out]; rfl, by rw [HT.out], by omega⟩
         case measure => simp [intOf]; omega
     ·
      obtain ⟨j, rfl⟩ : ∃ j, i = j + 1 := ⟨i - 1, by omega⟩
      clear hi0
      have e1 : (((j : Int) + 1) == 0) = false := by simp; omega
      have e2 : ((j + 1 : Nat) : Int) - 1 = j := by omega
      obtain ⟨db3, dof3, e7, c3⟩ := HD.out.2 j (by omega)
      simp only [Option.some.injEq, Addr.mk.injEq, and_true] at e7
      obtain ⟨rfl, rfl⟩ := e7
      obtain ⟨b4, h4⟩ : ∃ b, bx D j = b := ⟨_, rfl⟩
      rw [h4] at c3
      have HB := Lib.hid h4
      clear h4
      cases b4
      ·
       cases b1
       all_goals
        have HT : Hid (loneTo D (j + 1 + 1) = false) := by show _ = _; rw [loneTo_succ, H2.out]; unfold loneAt; rw [H3.out]; simp [HB.out]
        go_wp2_with fail
        go_round
        case rel => exact ⟨j + 1 + 1, by go_num, by rw [HS.out]; rfl, by rw [HT.out], by omega⟩
        case measure => simp [intOf]; omega
      ·
       by_cases hin : j + 1 + 1 = n
       ·
        have e5 : (((j : Int) + 1 + 1) == (n : Int)) = true := by simp; omega
        have HN := Lib.hid hin
        clear hin
        cases b1
        all_goals
         have HT : Hid (loneTo D (j + 1 + 1) = true) := by show _ = _; rw [loneTo_succ, H2.out]; unfold loneAt; rw [H3.out, HL.out, HN.out]; simp [HB.out]
         go_wp2_with fail
         go_round
         case rel => exact ⟨j + 1 + 1, by go_num, by rw [HS.out]; rfl, by rw [HT.out], by omega⟩
         case measure => simp [intOf]; omega
       ·
        have e5 : (((j : Int) + 1 + 1) == (n : Int)) = false := by simp; omega
        have e8 : j + 1 + 1 < n := by omega
        obtain ⟨db2, dof2, e6, c2⟩ := HD.out.2 (j + 1 + 1) (by omega)
        simp only [Option.some.injEq, Addr.mk.injEq, and_true] at e6
        obtain ⟨rfl, rfl⟩ := e6
        obtain ⟨b5, h5⟩ : ∃ b, bx D (j + 1 + 1) = b := ⟨_, rfl⟩
        rw [h5] at c2
        have H5 := Lib.hid h5
        have HN := Lib.hid hin
        clear h5 hin
        cases b5
        ·
         cases b1
         all_goals
          have HT : Hid (loneTo D (j + 1 + 1) = false) := by show _ = _; rw [loneTo_succ, H2.out]; unfold loneAt; rw [H3.out, HL.out, H5.out, show decide (j + 1 + 1 = n) = false from decide_eq_false HN.out]; simp [HB.out]
          go_wp2_with fail
          go_round
          case rel => exact ⟨j + 1 + 1, by go_num, by rw [HS.out]; rfl, by rw [HT.out], by omega⟩
          case measure => simp [intOf]; omega
        ·
         cases b1
         all_goals
          have HT : Hid (loneTo D (j + 1 + 1) = true) := by show _ = _; rw [loneTo_succ, H2.out]; unfold loneAt; rw [H3.out, HL.out, H5.out, show decide (j + 1 + 1 = n) = false from decide_eq_false HN.out]; simp [HB.out]
          go_wp2_with fail
          go_round
          case rel => exact ⟨j + 1 + 1, by go_num, by rw [HS.out]; rfl, by rw [HT.out], by omega⟩
          case measure => simp [intOf]; omega
    ·
     cases b1
     all_goals
      have HT : Hid (loneTo D (i + 1) = false) := by show _ = _; rw [loneTo_succ, H2.out]; unfold loneAt; rw [H3.out]; simp
      go_wp2_with fail
      go_round
      case rel => exact ⟨i + 1, by go_num, by rw [HS.out]; rfl, by rw [HT.out], by omega⟩
      case measure => simp [intOf]; omega
   ·
    cases b1
    all_goals
     cases b3
     all_goals
      have HT : Hid (loneTo D (i + 1) = true) := by show _ = _; rw [loneTo_succ, H2.out]; simp
      go_wp2_with fail
      go_round
      case rel => exact ⟨i + 1, by go_num, by rw [HS.out]; rfl, by rw [HT.out], by omega⟩
      case measure => simp [intOf]; omega
  ·
   obtain rfl : i = n := by omega
   have HF : Hid (aloneB D = (someTo D i && loneTo D i)) := by show _ = _; unfold aloneB; rw [HL.out]
   obtain ⟨b1, h1⟩ : ∃ b, someTo D i = b := ⟨_, rfl⟩
   obtain ⟨b2, h2⟩ : ∃ b, loneTo D i = b := ⟨_, rfl⟩
   rw [h1, h2] at HF
   rw [h1, h2]
   clear h1 h2
   cases b1
   all_goals
    go_wp2_with fail
    go_ret
    exact ⟨by rw [HF.out]; rfl, rfl⟩
end Go.Proofs.YthabgljdndbphaaGreatDoor
