/- foyerlaw23.steps: the walk; foyerlaw23.PackProved: the walk. -/
import Derived.Test.YthabgljdndbphaaGreatDoorQPKL28
import Derived.Test.YthabgljdndbphaaGreatDoorQPKL43
import Derived.Test.YthabgljdndbphaaGreatDoorQPKL44
import Derived.Test.YthabgljdndbphaaGreatDoorQPKL45

set_option linter.unusedVariables false
set_option linter.unusedSimpArgs false
namespace Go.Proofs.YthabgljdndbphaaGreatDoor
open Go.RowKit Go.IntWalk Go.Maps Go.WideMaps
set_option linter.unusedSimpArgs false
set_option linter.unusedVariables false

def rowN (f : Nat → Nat) (l : Nat) : List Int := (List.range l).map fun i => (f i : Int)
theorem rowN_len (f : Nat → Nat) (l : Nat) : (rowN f l).length = l := by simp [rowN]
theorem rowN_at {f : Nat → Nat} {l i : Nat} (h : i < l) : ix (rowN f l) i = (f i : Int) := by
 unfold ix rowN
 simp [h]
theorem rowN_congr {f g : Nat → Nat} {l : Nat} (h : ∀ i, f i = g i) : rowN f l = rowN g l := by
 have : f = g := funext h
 rw [this]
theorem rowN_set (f : Nat → Nat) (l q y : Nat) : (rowN f l).set q (y : Int) = rowN (fun i => if i = q then y else f i) l := by
 unfold rowN
 refine List.ext_getElem (by simp) fun i h1 h2 => ?_
 simp only [List.getElem_set, List.getElem_map, List.getElem_range]
 by_cases e : q = i
 ·
  subst e; simp
 ·
  rw [if_neg e, if_neg (by omega)]
theorem rowN_zero (l : Nat) : List.replicate l (0 : Int) = rowN (fun _ => 0) l := by
 refine List.ext_getElem (by simp [rowN]) fun i h1 h2 => ?_
 simp [rowN]
theorem nxA_small {n m g : Nat} (hn : n ≤ 40) (hm : m ≤ 8) (hg : g < m) (k i : Nat) : nxA n (limS n g) k i ≤ 16400000000000000 := by
 unfold nxA
 have h1 := limS_small (k := i) hn hm hg
 have h2 : limS n g (i - 1) * (n - (i - 1)) ≤ 400000000000000 * 40 := Nat.mul_le_mul (limS_small hn hm hg) (by omega)
 split <;> split <;> omega
/-- The two rows of lists, in memory. -/
structure StM (w0 w : World) (ga gn : Nat) (S A : Nat → Nat) (m : Nat) : Prop where
 below : Below w0.heap.size w0 w
 rows : IntRow w ga 3 (rowN S m)
 next : IntRow w gn 3 (rowN A m)
 new : w0.heap.size ≤ ga ∧ w0.heap.size ≤ gn ∧ gn ≠ ga
theorem StM.down {w0 w w' : World} {ga gn m : Nat} {S A : Nat → Nat} (h : StM w0 w ga gn S A m) (hb : Below w.heap.size w w') : StM w0 w' ga gn S A m :=
 ⟨h.below.trans (hb.mono h.below.size), h.rows.below hb, h.next.below hb, h.new⟩
theorem StM.put {w0 w : World} {ga gn m q y : Nat} {S A : Nat → Nat} (h : StM w0 w ga gn S A m) (hq : q < m) : StM w0 (w.setCell ⟨gn, q, none⟩ (.int .i64 (y : Int))) ga gn S (fun i => if i = q then y else A i) m := by
 refine ⟨h.below.setCell (by show _ ≤ gn; exact h.new.2.1) _, h.rows.of_heap (Below.heap_setCell _ _ _ _ h.new.2.2.symm), ?_, h.new⟩
 have := h.next.set q (by rw [rowN_len]; exact hq) (y : Int)
 rw [rowN_set] at this
 exact this
theorem StM.sub {w0 w : World} {ga gn m : Nat} {S A B : Nat → Nat} (h : StM w0 w ga gn S A m) (e : ∀ i, A i = B i) : StM w0 w ga gn S B m := ⟨h.below, h.rows, rowN_congr e ▸ h.next, h.new⟩
/-- What steps returns: all of them, or more than enough. -/
def StepsP (n m : Nat) (w : World) (e : Ending) (w' : World) : Prop := ∃ v : Nat, e = .returned (.int .i64 (v : Int)) ∧ Below w.heap.size w w' ∧ (v = 1 + limE n m 0 ∨ (1000000 < v ∧ v ≤ 1 + limE n m 0))
set_option maxRecDepth 100000 in
set_option maxHeartbeats 16000000 in
theorem steps_any (w : World) (n m : Nat) (hn : n ≤ 40) (hm : m ≤ 8) : Calls Tryz.prog 20 #[.int .i64 n, .int .i64 m] w (StepsP n m w) := by
 obtain ⟨M, hM1, hM2⟩ : ∃ x, x ≤ m + 2 ∧ m + 2 ≤ x := ⟨_, Nat.le_refl _, Nat.le_refl _⟩
 refine enter_fr (N := 70) [.int .i64 n, .int .i64 m] (Tryz.func20) rfl Tryz.ntmps20 (by rfl) (fun a hF => ?_);replace hF := hF.kp [0, 1] rfl;revert hF;refine zrs [2] [0, 1] fun a hF => ?_
 obtain ⟨arr, hs, hz, hmk⟩ := make_ints M (by omega)
 have hw : IntKind.i64.wrap ((m : Int) + 2) = (M : Int) := by
  rw [show (m : Int) + 2 = (M : Int) from by omega]
  exact wrap_in (by omega) (by omega)
 refine wp_seq_k (fun K hK => ?_);revert hF;refine zrp [1, 4] [2, 3] fun a hF => ?_;refine seq_one ?_;revert hF;refine qe2 fun a hF => ?_
 have HU : Hid (IntRow (w.alloc (.cells arr 3)) w.heap.size 3 (List.replicate M 0)) := IntRow.made rfl hs hz
 have HB := Lib.hid (Joins.below_alloc1 w (.cells arr 3))
 have HGA : Hid (w.heap.size ≤ w.heap.size) := Nat.le_refl _
 clear hmk hs hz hw
 generalize w.alloc (.cells arr 3) = w1 at *
 obtain ⟨ga, hga⟩ : ∃ x, x = w.heap.size := ⟨_, rfl⟩
 rw [← hga] at hF HU
 have HGA : Hid (w.heap.size ≤ ga) := by rw [hga]; exact Nat.le_refl _
 clear hga
 revert hF;refine zre 3 [2] [0, 1, 5] fun a hF => ?_;refine hK _ _ ?_;clear hK
 have f0 := HU.out.free 0
 have hM0 : 0 < M := by omega
 have hM3 : ¬ M = 0 := by omega
 have d0 := HU.out.cell 0 (by simp; omega)
 have HO0 : Hid (Below w.heap.size w (w1.setCell ⟨ga, 0, none⟩ (.int .i64 1)) ∧ IntRow (w1.setCell ⟨ga, 0, none⟩ (.int .i64 1)) ga 3 (rowN (limS n 0) M) ∧ w.heap.size ≤ ga) := ⟨HB.out.setCell (by show _ ≤ ga; exact HGA.out) _, by
  have := HU.out.set 0 (by simp; omega) ((1 : Nat) : Int)
  rw [rowN_zero, rowN_set] at this
  exact this, HGA.out⟩
 have HTO0 : Hid (limT n 0 ≤ 1000000) := by show 1 ≤ _; omega
 refine wp_seq_k (fun K hK => ?_);revert hF;refine zrp [1, 4] [2] fun a hF => ?_;refine seq_one ?_;revert hF;refine qu1 fun a hF => ?_
 clear f0 d0 HU HB HGA
 refine seq_end ?_;replace hF := hF.kp [0, 1, 5] rfl
 generalize w1.setCell ⟨ga, 0, none⟩ (.int .i64 1) = w2 at *
 refine hK _ _ ?_;clear hK;revert hF;refine zrs [2] [0, 1, 5, 6] fun a hF => ?_
 refine seq_cut (fun a' w' => FrF 70 [] [(0, .int .i64 n), (1, .int .i64 m), (6, .int .i64 ((limT n m : Nat) : Int))] a' ∧ Hid (Below w.heap.size w w')) (fun KAg hKAg => ?_) ?_
 ·
  skip
  revert hF;refine zrs [2] [0, 1, 5, 6, 7] fun a hF => ?_
  refine wp_block ?_
  refine loop_fr (fun qg a' w' => ∃ g : Nat, g + qg = m ∧ ∃ ga : Nat, FrF 70 [] [(0, .int .i64 n), (1, .int .i64 m), (5, .slice (some ⟨ga, 0, none⟩) M M), (6, .int .i64 ((limT n g : Nat) : Int)), (7, .int .i64 g)] a' ∧ Hid (Below w.heap.size w w' ∧ IntRow w' ga 3 (rowN (limS n g) M) ∧ w.heap.size ≤ ga) ∧ Hid (limT n g ≤ 1000000)) (m) ⟨0, by omega, _, hF, HO0, HTO0⟩ ?_
  clear hF HO0  HTO0
  rintro rkg a wo ⟨g, hikg, ga, hF, HO, HTO⟩ KBg hKBg
  refine wp_seq_k (fun K hK => ?_)
  by_cases hlt : g < m
  rotate_left
  ·
   have hlti : ¬ (g : Int) < (m : Nat) := by omega
   revert hF;refine zrs [1, 1, 5] [0, 1, 5, 6, 7, 17] fun a hF => ?_
   refine cond_no hF rfl ?_
   refine wp_exit ?_
   have hie : g = m := by omega
   rw [hie] at hF
   exact hKAg _ _ ⟨hF.sub ⟨rfl, rfl, rfl, trivial⟩, HO.out.1⟩
  have hlti : (g : Int) < (m : Nat) := by omega
  revert hF;refine zrs [1, 1, 5] [0, 1, 5, 6, 7, 17] fun a hF => ?_
  refine cond_yes hF rfl ?_
  refine wp_skip ?_
  refine hK _ _ ?_;clear hK;replace hF := hF.kp [0, 1, 5, 6, 7] rfl
  clear hKAg
  refine seq_cut (fun a' w' => ∃ ga : Nat, FrF 70 [] [(0, .int .i64 n), (1, .int .i64 m), (5, .slice (some ⟨ga, 0, none⟩) M M), (6, .int .i64 ((limT n (g + 1) : Nat) : Int)), (7, .int .i64 g)] a' ∧ Hid (Below w.heap.size w w' ∧ IntRow w' ga 3 (rowN (limS n (g + 1)) M) ∧ w.heap.size ≤ ga) ∧ Hid (limT n (g + 1) ≤ 1000000)) (fun KCg hKCg => ?_) ?_
  rotate_left
  ·
   clear hF HO HTO
   rintro a w' ⟨ga, hF, HO, HTO⟩
   have hws : IntKind.i64.wrap ((g : Int) + 1) = ((g + 1 : Nat) : Int) := wrap_succ (by omega)
   revert hF;refine zrg [1, 4, 2] [0, 1, 5, 6, 7] fun a hF => ?_
   exact hKBg (m - (g + 1)) _ _ (by omega) ⟨g + 1, by omega, _, hF, HO, HTO⟩
  clear hKBg hikg
  refine wp_block ?_
  obtain ⟨arr, hs, hz, hmk⟩ := make_ints M (by omega)
  have hw : IntKind.i64.wrap ((m : Int) + 2) = (M : Int) := by
   rw [show (m : Int) + 2 = (M : Int) from by omega]
   exact wrap_in (by omega) (by omega)
  refine wp_seq_k (fun K hK => ?_);revert hF;refine zrp [1, 4] [2, 3] fun a hF => ?_;refine seq_one ?_;revert hF;refine qe2 fun a hF => ?_
  have HU : Hid (IntRow (wo.alloc (.cells arr 3)) wo.heap.size 3 (List.replicate M 0)) := IntRow.made rfl hs hz
  have b3 := Joins.below_alloc1 wo (.cells arr 3)
  have hne : wo.heap.size ≠ ga := fun e => by
   obtain ⟨arr2, hh⟩ := int_type HO.out.2.1
   have := lt_of_block hh
   omega
  have HS0 : Hid (StM w (wo.alloc (.cells arr 3)) ga wo.heap.size (limS n g) (nxA n (limS n g) 0) M) :=
   ⟨HO.out.1.trans (b3.mono HO.out.1.size), HO.out.2.1.below b3, by
    have := HU.out
    rw [rowN_zero] at this
    rw [rowN_congr (nxA_zero n (limS n g))]
    exact this, HO.out.2.2, HO.out.1.size, hne⟩
  have HT0 : Hid (limT n g + sumN (limS n g) 0 * (n + 1) ≤ 1000000) := by
   show limT n g + 0 * _ ≤ _
   rw [Nat.zero_mul]
   exact HTO.out
  clear hmk hs hz hw HU b3 HO HTO hne
  generalize wo.alloc (.cells arr 3) = w3 at *
  generalize wo.heap.size = gn at *
  revert hF;refine zre 3 [2] [0, 1, 5, 6, 7, 8] fun a hF => ?_;refine hK _ _ ?_;clear hK
  have hz : (limT n g : Int) = ((limT n g + sumN (limS n g) 0 * (n + 1) : Nat) : Int) := by
   show _ = ((limT n g + 0 * (n + 1) : Nat) : Int)
   rw [Nat.zero_mul]
   rfl
  rw [hz] at hF
  clear hz
  refine seq_cut (fun a' w' => FrF 70 [] [(0, .int .i64 n), (1, .int .i64 m), (5, .slice (some ⟨ga, 0, none⟩) M M), (6, .int .i64 ((limT n g + sumN (limS n g) (g + 1) * (n + 1) : Nat) : Int)), (7, .int .i64 g), (8, .slice (some ⟨gn, 0, none⟩) M M)] a' ∧ Hid (StM w w' ga gn (limS n g) (nxA n (limS n g) (g + 1)) M) ∧ Hid (limT n g + sumN (limS n g) (g + 1) * (n + 1) ≤ 1000000)) (fun KAk hKAk => ?_) ?_
  ·
   skip
   revert hF;refine zrs [2] [0, 1, 5, 6, 7, 8, 9] fun a hF => ?_
   refine wp_block ?_
   refine loop_fr (fun qk a' w' => ∃ k : Nat, k + qk = (g + 1) ∧ FrF 70 [] [(0, .int .i64 n), (1, .int .i64 m), (5, .slice (some ⟨ga, 0, none⟩) M M), (6, .int .i64 ((limT n g + sumN (limS n g) k * (n + 1) : Nat) : Int)), (7, .int .i64 g), (8, .slice (some ⟨gn, 0, none⟩) M M), (9, .int .i64 k)] a' ∧ Hid (StM w w' ga gn (limS n g) (nxA n (limS n g) k) M) ∧ Hid (limT n g + sumN (limS n g) k * (n + 1) ≤ 1000000)) ((g + 1)) ⟨0, by omega, hF, HS0, HT0⟩ ?_
   clear hF HS0  HT0
   rintro rkk a wr ⟨k, hikk, hF, HS, HT6⟩ KBk hKBk
   refine wp_seq_k (fun K hK => ?_)
   by_cases hlk : k < (g + 1)
   rotate_left
   ·
    have hlki : ¬ (k : Int) ≤ (g : Nat) := by omega
    revert hF;refine zrs [1, 1, 5] [0, 1, 5, 6, 7, 8, 9, 25] fun a hF => ?_
    refine cond_no hF rfl ?_
    refine wp_exit ?_
    have hie : k = (g + 1) := by omega
    rw [hie] at hF HS HT6
    exact hKAk _ _ ⟨hF.sub ⟨rfl, rfl, rfl, rfl, rfl, rfl, trivial⟩, HS, HT6⟩
   have hlki : (k : Int) ≤ (g : Nat) := by omega
   revert hF;refine zrs [1, 1, 5] [0, 1, 5, 6, 7, 8, 9, 25] fun a hF => ?_
   refine cond_yes hF rfl ?_
   refine wp_skip ?_
   refine hK _ _ ?_;clear hK;replace hF := hF.kp [0, 1, 5, 6, 7, 8, 9] rfl
   clear hKAk
   refine seq_cut (fun a' w' => FrF 70 [] [(0, .int .i64 n), (1, .int .i64 m), (5, .slice (some ⟨ga, 0, none⟩) M M), (6, .int .i64 ((limT n g + sumN (limS n g) (k + 1) * (n + 1) : Nat) : Int)), (7, .int .i64 g), (8, .slice (some ⟨gn, 0, none⟩) M M), (9, .int .i64 k)] a' ∧ Hid (StM w w' ga gn (limS n g) (nxA n (limS n g) (k + 1)) M) ∧ Hid (limT n g + sumN (limS n g) (k + 1) * (n + 1) ≤ 1000000)) (fun KCk hKCk => ?_) ?_
   rotate_left
   ·
    clear hF HS HT6
    rintro a w' ⟨hF, HS, HT6⟩
    have hws : IntKind.i64.wrap ((k : Int) + 1) = ((k + 1 : Nat) : Int) := wrap_succ (by omega)
    revert hF;refine zrg [1, 4, 2] [0, 1, 5, 6, 7, 8, 9] fun a hF => ?_
    exact hKBk ((g + 1) - (k + 1)) _ _ (by omega) ⟨k + 1, by omega, hF, HS, HT6⟩
   clear hKBk hikk
   refine wp_block ?_
   have hkm : k < M := by omega
   have hkm' : (k : Int) < (M : Nat) := by omega
   have hgm : g < m := hlt
   have hle := limT_le (n := n) (m := m) hgm (k := k + 1) (by omega)
   have hsm := lim_small hn hm
   have hs1 := limS_small (n := n) (m := m) (g := g) (k := k) hn hm hgm
   have ha1 := nxA_small hn hm hgm k k
   have ha2 : nxA n (limS n g) k (k + 1) = 0 := nxA_top _ _ _
   have HNX := Lib.hid (nxA_one n (limS n g) k)
   rw [sumN, Nat.add_mul] at hle
   have hsn : sumN (limS n g) (k + 1) * (n + 1) = sumN (limS n g) k * (n + 1) + limS n g k * (n + 1) := by rw [sumN, Nat.add_mul]
   rw [hsn] at hKCk
   have hbd := below_d (Below.refl wr.heap.size wr)
   have c0 := HS.out.rows.cell k (by rw [rowN_len]; exact hkm)
   rw [rowN_at hkm] at c0
   have hm1 : limS n g k * (n + 1) ≤ 400000000000000 * 41 := Nat.mul_le_mul hs1 (by omega)
   have hm2 : limS n g k * (n - k) ≤ 400000000000000 * 40 := Nat.mul_le_mul hs1 (by omega)
   obtain ⟨T, hT⟩ : ∃ x, x = limT n g + sumN (limS n g) k * (n + 1) := ⟨_, rfl⟩
   rw [← Nat.add_assoc, ← hT] at hKCk
   rw [← Nat.add_assoc, ← hT] at hle
   rw [← hT] at hF HT6
   obtain ⟨s, hs⟩ : ∃ x, x = limS n g k := ⟨_, rfl⟩
   rw [← hs] at hs1 hm1 hm2 hle hKCk c0 HNX
   obtain ⟨P, hP⟩ : ∃ x, x = s * (n + 1) := ⟨_, rfl⟩
   rw [← hP] at hm1 hle hKCk
   have hT6 := HT6.out
   obtain ⟨n1, hn1⟩ : ∃ x, x = n + 1 := ⟨_, rfl⟩
   have hw1 : IntKind.i64.wrap ((n : Int) + 1) = (n1 : Int) := by
    rw [hn1]
    exact wrap_succ (by omega)
   have hw2 : IntKind.i64.wrap ((s : Int) * (n1 : Int)) = (P : Int) := by
    rw [← Int.natCast_mul, hn1, ← hP]
    exact wrap_in (by omega) (by omega)
   obtain ⟨TP, hTP⟩ : ∃ x, x = T + P := ⟨_, rfl⟩
   have hw3 : IntKind.i64.wrap ((T : Int) + (P : Int)) = (TP : Int) := by
    rw [hTP, Int.natCast_add]
    exact wrap_in (by omega) (by omega)
   rw [← hTP] at hKCk hle
   clear hn1 hTP
   have HTE := Lib.hid hT
   have HSE := Lib.hid hs
   clear hT hs hP hsn hsm
   revert hF;refine zrs [1, 1, 1, 5, 4, 1, 4, 5, 5, 2] [0, 1, 5, 6, 7, 8, 9] fun a hF => ?_
   clear hw1 hw2 hw3 c0
   have HSd := Lib.hid (HS.out.down hbd)
   clear hbd HS
   have c0 := HSd.out.rows.cell k (by rw [rowN_len]; exact hkm)
   rw [rowN_at hkm, ← HSE.out] at c0
   have d0 := HSd.out.next.cell k (by rw [rowN_len]; exact hkm)
   rw [rowN_at hkm] at d0
   have f0 := HSd.out.next.free k
   obtain ⟨x, hx⟩ : ∃ x, x = nxA n (limS n g) k k := ⟨_, rfl⟩
   rw [← hx] at d0 ha1 HNX
   clear hx
   obtain ⟨y, hy⟩ : ∃ y, y = x + s := ⟨_, rfl⟩
   have hw4 : IntKind.i64.wrap ((x : Int) + (s : Int)) = (y : Int) := by
    rw [hy, Int.natCast_add]
    exact wrap_in (by omega) (by omega)
   have HS5 := Lib.hid (HSd.out.put (y := y) hkm)
   rw [← hy] at HNX
   clear hy
   clear HSd
   refine wp_seq_k (fun K hK => ?_);refine region_any (by kernel_rfl) ?_;generalize wr.drew = wd at *;revert hF;refine zra (fuel := 1) [1, 33, 74, 116, 129, 161, 202, 244, 266, 298] [10] fun a hF => ?_;refine any_one (n := 10) (fuel := 0) (by kernel_rfl) ?_;revert hF;refine qu2 fun a hF => ?_
   clear c0 d0 f0 hw4
   refine any_end (by kernel_rfl) ?_;replace hF := hF.kp [0, 1, 5, 6, 7, 8, 9] rfl;refine hK _ _ ?_;clear hK
   generalize wd.setCell ⟨gn, k, none⟩ (.int .i64 (y : Int)) = w5 at *
   refine seq_cut (fun a' w' => FrF 70 [] [(0, .int .i64 n), (1, .int .i64 m), (5, .slice (some ⟨ga, 0, none⟩) M M), (6, .int .i64 (TP : Int)), (7, .int .i64 g), (8, .slice (some ⟨gn, 0, none⟩) M M), (9, .int .i64 k)] a' ∧ Hid (StM w w' ga gn (limS n g) (nxA n (limS n g) (k + 1)) M)) (fun KU hKU => ?_) ?_
   ·
    by_cases hnk : k < n
    ·
     have hq : (k : Int) < (n : Nat) := by omega
     refine wp_seq_k (fun KV hKV => ?_);revert hF;refine zrg [1, 1, 5] [0, 1, 5, 6, 7, 8, 9, 49] fun a hF => ?_
     clear hq
     refine hKV _ _ ?_;clear hKV
     refine cond_yes hF rfl ?_
     have hbd := below_d (Below.refl w5.heap.size w5)
     have HSd := Lib.hid (HS5.out.down hbd)
     clear hbd HS5
     obtain ⟨k1, hk1a, hk1b⟩ : ∃ x, x ≤ k + 1 ∧ k + 1 ≤ x := ⟨_, Nat.le_refl _, Nat.le_refl _⟩
     have HK1 : Hid (k1 = k + 1) := by show _ = _; omega
     rw [← HK1.out] at ha2
     have hk2 : k1 < M := by omega
     have hk2' : (k1 : Int) < (M : Nat) := by omega
     have c0 := HSd.out.rows.cell k (by rw [rowN_len]; exact hkm)
     rw [rowN_at hkm, ← HSE.out] at c0
     have d0 := HSd.out.next.cell k1 (by rw [rowN_len]; exact hk2)
     rw [rowN_at hk2, if_neg (by omega), ha2] at d0
     have f0 := HSd.out.next.free k1
     obtain ⟨Q, hQ⟩ : ∃ x, x = s * (n - k) := ⟨_, rfl⟩
     rw [← hQ] at hm2 HNX
     obtain ⟨nk, hnk'⟩ : ∃ x, x = n - k := ⟨_, rfl⟩
     have hw1 : IntKind.i64.wrap ((k : Int) + 1) = (k1 : Int) := by
      rw [HK1.out]
      exact wrap_succ (by omega)
     have hw2 : IntKind.i64.wrap ((n : Int) - (k : Int)) = (nk : Int) := by
      rw [show (n : Int) - (k : Int) = (nk : Int) from by omega]
      exact wrap_in (by omega) (by omega)
     have hw3 : IntKind.i64.wrap ((s : Int) * (nk : Int)) = (Q : Int) := by
      rw [← Int.natCast_mul, hnk', ← hQ]
      exact wrap_in (by omega) (by omega)
     obtain ⟨zz, hz0⟩ : ∃ z : Nat, z = 0 := ⟨_, rfl⟩
     rw [← hz0] at d0
     have hw4 : IntKind.i64.wrap ((zz : Int) + (Q : Int)) = (Q : Int) := by
      rw [show (zz : Int) + (Q : Int) = (Q : Int) from by omega]
      exact wrap_in (by omega) (by omega)
     have HS6 := Lib.hid (HSd.out.put (y := Q) hk2)
     clear HSd hQ ha2 hnk' hz0
     refine region_any (by kernel_rfl) ?_;generalize w5.drew = wd5 at *;revert hF;refine zra (fuel := 1) [1, 33, 73, 106, 148, 161, 193, 234, 276, 289, 321, 362, 394, 426, 458] [15] fun a hF => ?_;refine any_one (n := 15) (fuel := 0) (by kernel_rfl) ?_;revert hF;refine qu2 fun a hF => ?_
     clear c0 d0 f0 hw1 hw2 hw3 hw4
     refine any_end (by kernel_rfl) ?_;replace hF := hF.kp [0, 1, 5, 6, 7, 8, 9] rfl
     generalize wd5.setCell ⟨gn, k1, none⟩ (.int .i64 (Q : Int)) = w6 at *
     refine hKU _ _ ⟨hF.sub ⟨rfl, rfl, rfl, rfl, rfl, rfl, rfl, trivial⟩, HS6.out.sub fun i => ?_⟩
     rw [HNX.out i, HK1.out]
     by_cases e1 : i = k
     ·
      subst e1; rw [if_neg (by omega), if_pos rfl, if_pos rfl]
     ·
      by_cases e2 : i = k + 1
      ·
       subst e2; rw [if_pos rfl, if_neg (by omega), if_pos rfl]
      ·
       rw [if_neg e2, if_neg e1, if_neg e1, if_neg e2]
    ·
     have hq : ¬ (k : Int) < (n : Nat) := by omega
     refine wp_seq_k (fun KV hKV => ?_);revert hF;refine zrg [1, 1, 5] [0, 1, 5, 6, 7, 8, 9, 49] fun a hF => ?_
     clear hq
     refine hKV _ _ ?_;clear hKV
     refine cond_no hF rfl ?_
     refine wp_skip ?_
     refine hKU _ _ ⟨hF.sub ⟨rfl, rfl, rfl, rfl, rfl, rfl, rfl, trivial⟩, HS5.out.sub fun i => ?_⟩
     rw [HNX.out i]
     by_cases e1 : i = k
     ·
      rw [if_pos e1, if_pos e1]
     ·
      rw [if_neg e1, if_neg e1]
      by_cases e2 : i = k + 1
      ·
       subst e2
       rw [if_pos rfl, ha2, show n - k = 0 from by omega, Nat.mul_zero]
      ·
       rw [if_neg e2]
   clear hF HS5
   rintro a w7 ⟨hF, HS7⟩
   by_cases hbig : 1000000 < TP
   ·
    have hq : (1000000 : Int) < (TP : Nat) := by omega
    revert hF;refine zrs [1, 4] [0, 1, 5, 6, 7, 8, 9, 66] fun a hF => ?_
    clear hq
    refine cond_yes hF rfl ?_
    revert hF;refine zrs [1, 2] [4] fun a hF => ?_;refine wp_ret ?_;(try simp only [then_ret, block_ret, goto_ret]);revert hF;refine zq ?_
    exact ⟨TP, rfl, HS7.out.below, Or.inr ⟨hbig, hle⟩⟩
   have hq : ¬ (1000000 : Int) < (TP : Nat) := by omega
   revert hF;refine zrs [1, 4] [0, 1, 5, 6, 7, 8, 9, 66] fun a hF => ?_
   clear hq
   refine cond_no hF rfl ?_
   refine wp_skip ?_
   exact hKCk _ _ ⟨hF.sub ⟨rfl, rfl, rfl, rfl, rfl, rfl, rfl, trivial⟩, HS7, (by show TP ≤ 1000000; omega)⟩
  clear hF HS0  HT0
  rintro a w8 ⟨hF, HS, HT6⟩
  have HO8 : Hid (Below w.heap.size w w8 ∧ IntRow w8 gn 3 (rowN (limS n (g + 1)) M) ∧ w.heap.size ≤ gn) := ⟨HS.out.below, by
   have := HS.out.next
   rw [rowN_congr (nxA_end (n := n) (g := g))] at this
   exact this, HS.out.new.2.1⟩
  clear HS
  revert hF;refine zrg [1, 2] [0, 1, 5, 6, 7] fun a hF => ?_
  exact hKCg _ _ ⟨_, hF.sub ⟨rfl, rfl, rfl, rfl, rfl, trivial⟩, HO8, HT6⟩
 clear hF HO0  HTO0
 rintro a w9 ⟨hF, HB9⟩
 revert hF;refine zrs [1, 2] [4] fun a hF => ?_;refine wp_ret ?_;(try simp only [then_ret, block_ret, goto_ret]);revert hF;refine zq ?_
 exact ⟨limT n m, rfl, HB9.out, Or.inl limT_end⟩
end Go.Proofs.YthabgljdndbphaaGreatDoor

namespace Go.Proofs.YthabgljdndbphaaGreatDoor
open Go.RowKit Go.IntWalk Go.Maps Go.WideMaps
set_option linter.unusedSimpArgs false
set_option linter.unusedVariables false

/-- A problem in memory, and the variable that holds it. -/
structure PbAt (w : World) (gp : Nat) (ra ga : Option Addr) (c d : Nat) (single : Bool) (R : List Int) (G : List (Int × Int)) : Prop where
 box : w.heap[gp]? = some (.cells #[.slice ra R.length c, .slice ga G.length d, .bool single] 25 (0, 0))
 runs : Ints w ra R.length R
 groups : Pairs w ga G.length G
 kit : PKit w
theorem PbAt.below {w w' : World} {gp : Nat} {ra ga : Option Addr} {c d : Nat} {single : Bool} {R : List Int} {G : List (Int × Int)} (h : PbAt w gp ra ga c d single R G) (hb : Below w.heap.size w w') : PbAt w' gp ra ga c d single R G :=
 ⟨(hb.block _ (lt_of_block h.box)).trans h.box, h.runs.below hb, h.groups.below hb, h.kit.below hb⟩
end Go.Proofs.YthabgljdndbphaaGreatDoor
