/- foyerlaw23.PackProved: the walk; foyerref23.SameProofs of two proofs with equal steps: the walk; PackRoom: plain: a further run, a further group, a longer run; append(append([]T{}, l...), x): the states in whatever order the two literals are made. -/
import Derived.Test.YthabgljdndbphaaGreatDoorQPKM24
import Derived.Test.YthabgljdndbphaaGreatDoorQPKM38
import Derived.Test.YthabgljdndbphaaGreatDoorQPKM39

set_option linter.unusedVariables false
set_option linter.unusedSimpArgs false
namespace Go.Proofs.YthabgljdndbphaaGreatDoor
open Go.RowKit Go.IntWalk Go.Maps Go.WideMaps
set_option linter.unusedSimpArgs false
set_option linter.unusedVariables false

/-- A problem in memory, and the variable that holds it. -/
structure PbAt (w : World) (gp : Nat) (ra ga : Option Addr) (c d : Nat) (single : Bool) (R : List Int) (G : List (Int × Int)) : Prop where
 box : w.heap[gp]? = some (.cells #[.slice ra R.length c, .slice ga G.length d, .bool single] 25 (0, 0))
 runs : Ints w ra R.length R
 groups : Pairs w ga G.length G
 kit : PKit w
theorem PbAt.below {w w' : World} {gp : Nat} {ra ga : Option Addr} {c d : Nat} {single : Bool} {R : List Int} {G : List (Int × Int)} (h : PbAt w gp ra ga c d single R G) (hb : Below w.heap.size w w') : PbAt w' gp ra ga c d single R G :=
 ⟨(hb.block _ (lt_of_block h.box)).trans h.box, h.runs.below hb, h.groups.below hb, h.kit.below hb⟩
theorem pb_new {w : World} {ra ga : Option Addr} {c d : Nat} {single : Bool} {R : List Int} {G : List (Int × Int)} (hR : Ints w ra R.length R) (hG : Pairs w ga G.length G) (hk : PKit w) :
  ∃ w1 gp, w.alloc (.cells #[.slice ra R.length c, .slice ga G.length d, .bool single] 25) = w1 ∧ gp = w.heap.size ∧ Hid (Below w.heap.size w w1) ∧ Hid (PbAt w1 gp ra ga c d single R G) := by
 have hb := Joins.below_alloc1 w (.cells #[.slice ra R.length c, .slice ga G.length d, .bool single] 25)
 exact ⟨_, _, rfl, rfl, hb, heap_new _ _, hR.below hb, hG.below hb, hk.below hb⟩
end Go.Proofs.YthabgljdndbphaaGreatDoor

namespace Go.Proofs.YthabgljdndbphaaGreatDoor
open Go.RowKit Go.IntWalk Go.Maps Go.WideMaps
set_option linter.unusedSimpArgs false
set_option linter.unusedVariables false

set_option maxRecDepth 100000 in
set_option maxHeartbeats 16000000 in
theorem sameproofs_any (w : World) (pa pb : Option Addr) (k pc pd : Nat) (T : List StepT) (hS : Steps w pa k T) (hT : Steps w pb k T) (hk : k ≤ 100000) (hkl : ∀ n, n < k → (stepAt T n).kids.length ≤ 100000) :
  Calls Tryz.prog 14 #[.agg #[.slice pa k pc], .agg #[.slice pb k pd]] w fun e w' => e = .returned (.bool true) ∧ Below w.heap.size w w' := by
 have HKL := Lib.hid hkl
 have h1 := heap_new w (.cells #[.slice pa k pc] 34)
 have b1 := Joins.below_alloc1 w (.cells #[.slice pa k pc] 34)
 have HS1 := Lib.hid (hS.below b1)
 have HT1 := Lib.hid (hT.below b1)
 have HA1 := Lib.hid h1
 have HB1 := Lib.hid b1
 clear hS hT h1 b1 hkl
 refine enter_fr (N := 72) [.agg #[.slice pa k pc], .agg #[.slice pb k pd]] (Tryz.func14) rfl Tryz.ntmps14 (by rfl) (fun a hF => ?_);replace hF := hF.kp [0, 1] rfl;refine wp_seq_k (fun K hK => ?_);refine region_seq (l := [0, 1, 2]) (by kernel_rfl) ?_;refine seq_one ?_;revert hF;refine qe1 fun a hF => ?_
 generalize w.alloc (.cells #[.slice pa k pc] 34) = w1 at *
 obtain ⟨g1, hg1⟩ : ∃ x, x = w.heap.size := ⟨_, rfl⟩
 rw [← hg1] at hF HA1
 clear hg1
 refine seq_one ?_;revert hF;refine qe1 fun a hF => ?_
 have h2 := heap_new w1 (.cells #[.slice pb k pd] 34)
 have b2 := Joins.below_alloc1 w1 (.cells #[.slice pb k pd] 34)
 have HA := Lib.hid ((b2.block _ (lt_of_block HA1.out)).trans HA1.out)
 have HS := Lib.hid (HS1.out.below b2)
 have HT := Lib.hid (HT1.out.below b2)
 have HB := Lib.hid (HB1.out.trans (b2.mono HB1.out.size))
 have HA2 := Lib.hid h2
 clear h2 b2 HA1 HS1 HT1 HB1
 generalize w1.alloc (.cells #[.slice pb k pd] 34) = w2 at *
 obtain ⟨g2, hg2⟩ : ∃ x, x = w1.heap.size := ⟨_, rfl⟩
 rw [← hg2] at hF HA2
 clear hg2
 revert hF;refine zre 2 [2] [2, 3] fun a hF => ?_;refine hK _ _ ?_;clear hK
 have p0 := boxed_cell (j := 0) HA.out rfl
 have q0 := boxed_cell (j := 0) HA2.out rfl
 refine wp_seq_k (fun K hK => ?_);revert hF;refine zrs [4, 4, 4, 4, 4, 4, 5] [2, 3, 15] fun a hF => ?_
 clear p0 q0
 refine cond_no hF rfl ?_
 refine wp_skip ?_
 refine hK _ _ ?_;clear hK
 have HE0 : Hid (Below w2.heap.size w2 w2) := Below.refl _ _
 refine seq_cut (fun a' w' => FrF 72 [] [(2, .pointer (some ⟨g1, 0, none⟩)), (3, .pointer (some ⟨g2, 0, none⟩))] a' ∧ Hid (Below w2.heap.size w2 w')) (fun KAi hKAi => ?_) ?_
 ·
  skip
  revert hF;refine zrs [2] [2, 3, 5] fun a hF => ?_
  refine wp_block ?_
  refine loop_fr (fun qi a' w' => ∃ i : Nat, i + qi = k ∧ FrF 72 [] [(2, .pointer (some ⟨g1, 0, none⟩)), (3, .pointer (some ⟨g2, 0, none⟩)), (5, .int .i64 i)] a' ∧ Hid (Below w2.heap.size w2 w')) (k) ⟨0, by omega, hF, HE0⟩ ?_
  clear hF HE0
  rintro rki a wr ⟨i, hiki, hF, HE⟩ KBi hKBi
  refine wp_seq_k (fun K hK => ?_)
  by_cases hlt : i < k
  rotate_left
  ·
   have hlti : ¬ (i : Int) < (k : Nat) := by omega
   have p0 := boxed_cell (j := 0) ((HE.out.block _ (lt_of_block HA.out)).trans HA.out) rfl
   revert hF;refine zrs [1, 4, 4, 4, 5] [2, 3, 5, 20] fun a hF => ?_
   clear p0
   refine cond_no hF rfl ?_
   refine wp_exit ?_
   skip
   exact hKAi _ _ ⟨hF.sub ⟨rfl, rfl, trivial⟩, HE⟩
  have hlti : (i : Int) < (k : Nat) := by omega
  have p0 := boxed_cell (j := 0) ((HE.out.block _ (lt_of_block HA.out)).trans HA.out) rfl
  revert hF;refine zrs [1, 4, 4, 4, 5] [2, 3, 5, 20] fun a hF => ?_
  clear p0
  refine cond_yes hF rfl ?_
  refine wp_skip ?_
  refine hK _ _ ?_;clear hK;replace hF := hF.kp [2, 3, 5] rfl
  clear hKAi
  refine seq_cut (fun a' w' => FrF 72 [] [(2, .pointer (some ⟨g1, 0, none⟩)), (3, .pointer (some ⟨g2, 0, none⟩)), (5, .int .i64 i)] a' ∧ Hid (Below w2.heap.size w2 w')) (fun KCi hKCi => ?_) ?_
  rotate_left
  ·
   clear hF HE
   rintro a w' ⟨hF, HE⟩
   have hws : IntKind.i64.wrap ((i : Int) + 1) = ((i + 1 : Nat) : Int) := wrap_succ (by omega)
   revert hF;refine zrg [1, 4, 2] [2, 3, 5] fun a hF => ?_
   exact hKBi (k - (i + 1)) _ _ (by omega) ⟨i + 1, by omega, hF, HE⟩
  clear hKBi hiki
  refine wp_block ?_
  obtain ⟨b1, o1, ka, kc1, e1, c0, c1, c2, hI1⟩ := (HS.out.below HE.out).2 i hlt
  have hii : (i : Int) < (k : Nat) := by omega
  have hkl := HKL.out i hlt
  obtain ⟨t, ht⟩ : ∃ t, t = stepAt T i := ⟨_, rfl⟩
  rw [← ht] at c0 c1 c2 hI1 hkl
  have HTT := Lib.hid ht
  clear ht
  have HI1 := Lib.hid hI1
  have p0 := boxed_cell (j := 0) ((HE.out.block _ (lt_of_block HA.out)).trans HA.out) rfl
  rw [e1] at p0
  clear hI1 e1
  obtain ⟨t1, ht1⟩ : ∃ x, x = t.kind := ⟨_, rfl⟩
  obtain ⟨t2, ht2⟩ : ∃ x, x = t.group := ⟨_, rfl⟩
  obtain ⟨D, hD⟩ : ∃ x, x = t.kids := ⟨_, rfl⟩
  rw [← ht1] at c0
  rw [← ht2] at c1
  rw [← hD] at c2 HI1 hkl
  have HE1 := Lib.hid ht1
  have HE2 := Lib.hid ht2
  have HED := Lib.hid hD
  clear ht1 ht2 hD
  refine wp_seq_k (fun K hK => ?_);revert hF;refine zrp [4, 4, 1, 5, 4] [5, 6] fun a hF => ?_;refine seq_one ?_;revert hF;refine qe0 fun a hF => ?_
  obtain ⟨wa, gx, hwa, hgv, hSV, HTW⟩ := var_new wr 71 #[.int .i64 0, .int .i64 0, .slice none 0 0] #[.int .i64 t1, .int .i64 t2, .slice ka D.length kc1] (by kernel_rfl) rfl (by simp [Value.oneCell'])
  rw [hwa]
  rw [← hgv] at hF
  clear hwa hgv
  refine seq_one ?_;refine op_storev rfl rfl hF rfl rfl rfl rfl hSV ?_;clear hF;refine fun a hF => ?_
  clear hSV
  refine hK _ _ ?_;clear hK
  generalize wa.setRow gx #[.int .i64 t1, .int .i64 t2, .slice ka D.length kc1] = w5 at *
  clear c0 c1 c2 p0
  have HE5 := Lib.hid (HE.out.trans (HTW.out.1.mono HE.out.size))
  have HX5 := Lib.hid HTW.out.2.1
  have HI5 := Lib.hid (HI1.out.below HTW.out.1)
  clear HTW HE HI1
  obtain ⟨b2, o2, kb, kc2, e2, c0, c1, c2, hI2⟩ := (HT.out.below HE5.out).2 i hlt
  rw [← HTT.out] at c0 c1 c2 hI2
  rw [← HE1.out] at c0
  rw [← HE2.out] at c1
  rw [← HED.out] at c2 hI2
  have HJ := Lib.hid hI2
  have p0 := boxed_cell (j := 0) ((HE5.out.block _ (lt_of_block HA2.out)).trans HA2.out) rfl
  rw [e2] at p0
  clear hI2 e2
  refine wp_seq_k (fun K hK => ?_);revert hF;refine zrp [4, 4, 1, 5, 4] [5, 6] fun a hF => ?_;refine seq_one ?_;revert hF;refine qe0 fun a hF => ?_
  obtain ⟨wa, gy, hwa, hgv, hSV, HTW⟩ := var_new w5 71 #[.int .i64 0, .int .i64 0, .slice none 0 0] #[.int .i64 t1, .int .i64 t2, .slice kb D.length kc2] (by kernel_rfl) rfl (by simp [Value.oneCell'])
  rw [hwa]
  rw [← hgv] at hF
  clear hwa hgv
  refine seq_one ?_;refine op_storev rfl rfl hF rfl rfl rfl rfl hSV ?_;clear hF;refine fun a hF => ?_
  clear hSV
  refine hK _ _ ?_;clear hK
  generalize wa.setRow gy #[.int .i64 t1, .int .i64 t2, .slice kb D.length kc2] = w6 at *
  clear c0 c1 c2 p0
  have HE6 := Lib.hid (HE5.out.trans (HTW.out.1.mono HE5.out.size))
  have HX6 := Lib.hid ((HTW.out.1.block _ (lt_of_block HX5.out)).trans HX5.out)
  have HY6 := Lib.hid HTW.out.2.1
  have HI6 := Lib.hid (HI5.out.below HTW.out.1)
  have HJ6 := Lib.hid (HJ.out.below HTW.out.1)
  clear HTW HE5 HX5 HI5 HJ HE1 HE2 HED HTT
  have x0 := boxed_cell (j := 0) HX6.out rfl
  have x1 := boxed_cell (j := 1) HX6.out rfl
  have x2 := boxed_cell (j := 2) HX6.out rfl
  have y0 := boxed_cell (j := 0) HY6.out rfl
  have y1 := boxed_cell (j := 1) HY6.out rfl
  have y2 := boxed_cell (j := 2) HY6.out rfl
  refine wp_seq_k (fun K hK => ?_);revert hF;refine zrs [4, 4, 4, 4, 5, 1, 4, 4, 4, 4, 5, 5, 1, 4, 4, 4, 4, 4, 4, 5, 5] [2, 3, 5, 6, 7, 53] fun a hF => ?_
  clear x0 x1 x2 y0 y1 y2
  refine cond_no hF rfl ?_
  refine wp_skip ?_
  refine hK _ _ ?_;clear hK;revert hF;refine zrs [2] [2, 3, 5, 6, 7, 8] fun a hF => ?_
  refine wp_block ?_
  have HZ6 : Hid (Below w6.heap.size w6 w6) := Below.refl _ _
  refine loop_fr (fun q a' w' => ∃ j : Nat, j + q = D.length ∧ FrF 72 [] [(2, .pointer (some ⟨g1, 0, none⟩)), (3, .pointer (some ⟨g2, 0, none⟩)), (5, .int .i64 i), (6, .pointer (some ⟨gx, 0, none⟩)), (7, .pointer (some ⟨gy, 0, none⟩)), (8, .int .i64 j)] a' ∧ Hid (Below w6.heap.size w6 w')) D.length ⟨0, by omega, hF.sub ⟨rfl, rfl, rfl, rfl, rfl, rfl, trivial⟩, HZ6⟩ ?_
  clear hF HZ6
  rintro rkj a wj ⟨j, hjk, hF, HZ⟩ KBj hKBj
  have x2 := boxed_cell (j := 2) ((HZ.out.block _ (lt_of_block HX6.out)).trans HX6.out) rfl
  refine wp_seq_k (fun K hK => ?_)
  by_cases hlt2 : j < D.length
  rotate_left
  ·
   have hlti2 : ¬ (j : Int) < (D.length : Nat) := by omega
   revert hF;refine zrs [1, 4, 4, 4, 5] [2, 3, 5, 6, 7, 8, 58] fun a hF => ?_
   clear hlti2 x2
   refine cond_no hF rfl ?_
   refine wp_exit ?_
   exact hKCi _ _ ⟨hF.sub ⟨rfl, rfl, rfl, trivial⟩, HE6.out.trans (HZ.out.mono HE6.out.size)⟩
  have hlti2 : (j : Int) < (D.length : Nat) := by omega
  revert hF;refine zrs [1, 4, 4, 4, 5] [2, 3, 5, 6, 7, 8, 58] fun a hF => ?_
  refine cond_yes hF rfl ?_
  refine wp_skip ?_
  refine hK _ _ ?_;clear hK;replace hF := hF.kp [2, 3, 5, 6, 7, 8] rfl
  refine seq_cut (fun a' w' => FrF 72 [] [(2, .pointer (some ⟨g1, 0, none⟩)), (3, .pointer (some ⟨g2, 0, none⟩)), (5, .int .i64 i), (6, .pointer (some ⟨gx, 0, none⟩)), (7, .pointer (some ⟨gy, 0, none⟩)), (8, .int .i64 j)] a' ∧ Hid (Below w6.heap.size w6 w')) (fun KD hKD => ?_) ?_
  rotate_left
  ·
   clear hF HZ x2
   rintro a w' ⟨hF, HZ⟩
   have hws : IntKind.i64.wrap ((j : Int) + 1) = ((j + 1 : Nat) : Int) := wrap_succ (by omega)
   revert hF;refine zrg [1, 4, 2] [2, 3, 5, 6, 7, 8] fun a hF => ?_
   exact hKBj (D.length - (j + 1)) _ _ (by omega) ⟨j + 1, by omega, hF.sub ⟨rfl, rfl, rfl, rfl, rfl, rfl, trivial⟩, HZ⟩
  clear hKBj hjk
  refine wp_block ?_
  obtain ⟨b3, o3, hka, d0⟩ := (HI6.out.below HZ.out).2 j hlt2
  obtain ⟨b4, o4, hkb, d1⟩ := (HJ6.out.below HZ.out).2 j hlt2
  have y2 := boxed_cell (j := 2) ((HZ.out.block _ (lt_of_block HY6.out)).trans HY6.out) rfl
  rw [hka] at x2
  rw [hkb] at y2
  have x2' : wj.drew.cell? ⟨gx, 2, none⟩ = some (.slice (some ⟨b3, o3, none⟩) D.length kc1) := x2
  have y2' : wj.drew.cell? ⟨gy, 2, none⟩ = some (.slice (some ⟨b4, o4, none⟩) D.length kc2) := y2
  have d0' : wj.drew.cell? ⟨b3, o3 + j, none⟩ = some (.int .i64 (ix D j)) := d0
  have d1' : wj.drew.cell? ⟨b4, o4 + j, none⟩ = some (.int .i64 (ix D j)) := d1
  have HZd : Hid (Below w6.heap.size w6 wj.drew) := below_d HZ.out
  clear x2 y2 d0 d1 hka hkb HZ
  generalize ix D j = dj at *
  refine wp_seq_k (fun K hK => ?_);refine region_any (by kernel_rfl) ?_;generalize wj.drew = wd at *;revert hF;refine zrb (fuel := 0) [9, 52, 65, 106, 148, 169, 212, 225, 266, 308, 330] [2, 3, 5, 6, 7, 8, 71] fun a hF => ?_
  clear x2' y2' d0' d1'
  refine hK _ _ ?_;clear hK
  refine cond_no hF rfl ?_
  refine wp_skip ?_
  exact hKD _ _ ⟨hF.sub ⟨rfl, rfl, rfl, rfl, rfl, rfl, trivial⟩, HZd⟩
 clear hF HE0
 rintro a w20 ⟨hF, HE⟩
 revert hF;refine zrs [2] [4] fun a hF => ?_;refine wp_ret ?_;(try simp only [then_ret, block_ret, goto_ret]);revert hF;refine zq ?_
 exact ⟨rfl, HB.out.trans (HE.out.mono HB.out.size)⟩
end Go.Proofs.YthabgljdndbphaaGreatDoor

namespace Go.Proofs.YthabgljdndbphaaGreatDoor
set_option linter.unusedSimpArgs false
set_option linter.unusedVariables false

section
variable {single : Bool} {R R' : List Int} {G : List (Int × Int)} {c : Nat → Int}
end
section
variable {R : List Int} {G : List (Int × Int)} {g : Int × Int} {c : Nat → Int}
end
end Go.Proofs.YthabgljdndbphaaGreatDoor

namespace Go.Proofs.YthabgljdndbphaaGreatDoor
open Go.RowKit Go.IntWalk
set_option linter.unusedSimpArgs false
set_option linter.unusedVariables false

theorem own_fresh {α : Type} {k : Nat} {E : Enc α k} {w : World} {B g : Nat} {T : TypeId} {x : α} {arr : Array Value} (h : w.heap[g]? = some (.cells arr T (0, 0))) (ha : arr = (E.cells x).toArray) (hB : B ≤ g) : w.ownsRow B T k (.slice (some ⟨g, 0, none⟩) 1 1) 1 (flat E [x]) := by
 subst ha
 refine ⟨by rw [flat_len]; simp, .inr ⟨g, 1, _, rfl, hB, h, Nat.le_refl _, by unfold maxLen; omega, by simp [E.len], ?_⟩⟩
 rw [flat_single, List.take_of_length_le (by simp [E.len])]
theorem recs_one {α : Type} {k : Nat} {E : Enc α k} {w : World} {g : Nat} {T : TypeId} {x : α} {arr : Array Value} (h : w.heap[g]? = some (.cells arr T (0, 0))) (ha : arr = (E.cells x).toArray) : Recs E w (some ⟨g, 0, none⟩) 1 [x] := by
 obtain ⟨la, c, e, hr, _⟩ := Rcs.of_own (own_fresh (B := 0) h ha (Nat.zero_le _))
 simp only [Value.slice.injEq] at e
 obtain ⟨rfl, _, _⟩ := e
 exact hr

theorem own_none {α : Type} {k : Nat} {E : Enc α k} {w : World} {B : Nat} (T : TypeId) (hB : B ≤ w.heap.size) : (w.alloc (.cells #[] T)).ownsRow B T k (.slice (some ⟨w.heap.size, 0, none⟩) 0 0) 0 (flat E []) :=
 ⟨by simp [flat], .inr ⟨w.heap.size, 0, #[], rfl, hB, heap_new w _, Nat.le_refl _, by unfold maxLen; omega, by simp, by simp [flat]⟩⟩

/-- The state: o: the list that grows, g: where the last element lies. -/
structure AS {α : Type} {k : Nat} (E : Enc α k) (T : TypeId) (wd : World) (B0 : Nat) (a : α) (x : World) (o : Option (Value × List α)) (g : Option Nat) : Prop where
 below : Below B0 wd x
 size : B0 ≤ x.heap.size
 own : ∀ v D, o = some (v, D) → x.ownsRow B0 T k v D.length (flat E D)
 px : ∀ g5, g = some g5 → x.heap[g5]? = some (.cells (E.cells a).toArray T (0, 0))
 ne : ∀ v D g5, o = some (v, D) → g = some g5 → v.ownBlock ≠ some g5

section
variable {α : Type} {k : Nat} {E : Enc α k} {T : TypeId} {wd x : World} {B0 : Nat} {a : α}
theorem AS.start (B0 : Nat) (wd : World) (h : B0 ≤ wd.heap.size) : AS E T wd B0 a wd none none :=
 ⟨Below.refl _ _, h, fun _ _ e => (by cases e), fun _ e => (by cases e), fun _ _ _ e => (by cases e)⟩
theorem AS.lit {g : Option Nat} (h : AS E T wd B0 a x none g) : AS E T wd B0 a (x.alloc (.cells #[] T)) (some (.slice (some ⟨x.heap.size, 0, none⟩) 0 0, [])) g := by
 have hb := Joins.below_alloc1 x (.cells #[] T)
 refine ⟨h.below.trans (hb.mono h.size), Nat.le_trans h.size hb.size, fun v D e => ?_, fun g5 e => (hb.block g5 (lt_of_block (h.px g5 e))).trans (h.px g5 e), fun v D g5 e e2 e3 => ?_⟩
 ·
  cases e
  exact own_none T h.size
 ·
  cases e
  have h1 := lt_of_block (h.px g5 e2)
  simp only [Value.ownBlock, Option.some.injEq] at e3
  omega
theorem AS.one {o : Option (Value × List α)} (h : AS E T wd B0 a x o none) {arr : Array Value} (ha : arr = (E.cells a).toArray) : AS E T wd B0 a (x.alloc (.cells arr T)) o (some x.heap.size) := by
 subst ha
 have hb := Joins.below_alloc1 x (.cells (E.cells a).toArray T)
 refine ⟨h.below.trans (hb.mono h.size), Nat.le_trans h.size hb.size, fun v D e => row_of_heap (h.own v D e) fun b hb2 => hb.block b ((h.own v D e).lt b hb2).2, fun g5 e => ?_, fun v D g5 e e2 e3 => ?_⟩
 ·
  cases e
  exact heap_new x _
 ·
  cases e2
  have := ((h.own v D e).lt _ e3).2
  omega
theorem AS.app {v : Value} {D l : List α} {g : Option Nat} (h : AS E T wd B0 a x (some (v, D)) g) (t ty : TypeId) {z u : Value} {bytes : Nat} (ht : Tryz.prog.underlying t = some (.slice T)) (hi : (Tryz.prog.info? T).map (fun i => (i.zero, i.size, i.bytes)) = some (some z, k, bytes)) (hzs : z.cells.size = k) (hby : bytes ≤ 1000)
  (hu : Rcs E x u l) {D' : List α} (hD : D ++ l = D') (h63 : D'.length ≤ 1000000) :
  ∃ la lc x', (Builtin.append_ #[t, t] ty #[v, u]).run Tryz.prog x = .ok (.slice la D'.length lc) x' ∧ AS E T wd B0 a x' (some (.slice la D'.length lc, D')) g := by
 subst hD
 rw [List.length_append] at h63
 obtain ⟨v', x', h1, ho, hg, hv⟩ := append_recs t T ty ht hi hzs hby (h.own v D rfl) hu h63 h.size
 obtain ⟨la, lc, rfl, _⟩ := OwnRecs.of_row ho
 rw [List.length_append]
 refine ⟨la, lc, x', h1, h.below.grown hg h.size (fun k hk => ((h.own v D rfl).lt k hk).1), Nat.le_trans h.size hg.size, fun v2 D2 e => ?_, fun g5 e => ?_, fun v2 D2 g5 e e2 e3 => ?_⟩
 ·
  cases e
  rw [List.length_append]
  exact ho
 ·
  exact (hg.block g5 (lt_of_block (h.px g5 e)) (fun e2 => h.ne v D g5 rfl e e2.symm)).trans (h.px g5 e)
 ·
  cases e
  rcases hv with e4 | e4
  ·
   exact h.ne v D g5 rfl e2 (e4.symm.trans e3)
  ·
   have h1 := lt_of_block (h.px g5 e2)
   rw [e4, Option.some.injEq] at e3
   omega
theorem AS.rcs {o : Option (Value × List α)} {g5 : Nat} (h : AS E T wd B0 a x o (some g5)) : Rcs E x (.slice (some ⟨g5, 0, none⟩) 1 1) [a] :=
 ⟨_, _, rfl, recs_one (h.px g5 rfl) rfl, fun e => by cases e⟩
theorem AS.row {la : Option Addr} {n lc : Nat} {D : List α} {g : Option Nat} (h : AS E T wd B0 a x (some (.slice la n lc, D)) g) {x' : World} (hx : ∀ b, B0 ≤ b → b < x.heap.size → x'.heap[b]? = x.heap[b]?) : Recs E x' la D.length D := by
 have := row_of_heap (h.own _ _ rfl) (w' := x') fun b hb => hx b ((h.own _ _ rfl).lt b hb).1 ((h.own _ _ rfl).lt b hb).2
 obtain ⟨la', lc', e, hr⟩ := OwnRecs.of_row this
 cases e
 exact hr.recs
/-- .. behind a store below it. -/
theorem AS.set {la : Option Addr} {n lc : Nat} {D : List α} {g : Option Nat} (h : AS E T wd B0 a x (some (.slice la n lc, D)) g) {b o : Nat} {v : Value} (hb : b < B0) : Recs E (x.setCell ⟨b, o, none⟩ v) la D.length D :=
 h.row fun b' h1 _ => Below.heap_setCell _ _ _ _ (by simp; omega)
theorem AS.recs {la : Option Addr} {n lc : Nat} {D : List α} {g : Option Nat} (h : AS E T wd B0 a x (some (.slice la n lc, D)) g) : Recs E x la D.length D := by
 have := h.own _ _ rfl
 obtain ⟨la', lc', e, hr⟩ := OwnRecs.of_row this
 cases e
 exact hr.recs
end
end Go.Proofs.YthabgljdndbphaaGreatDoor
