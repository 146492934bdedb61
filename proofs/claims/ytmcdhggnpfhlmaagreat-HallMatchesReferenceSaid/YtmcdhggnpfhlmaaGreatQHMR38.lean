/- sight: the reference: ok, turn, Crosses. -/
import Derived.Test.YtmcdhggnpfhlmaaGreatQHMR14
import Derived.Test.YtmcdhggnpfhlmaaGreatQHMR27

set_option linter.unusedVariables false
set_option linter.unusedSimpArgs false
namespace Go.Proofs.YtmcdhggnpfhlmaaGreat
open Go.RowKit Go.IntWalk
set_option linter.unusedSimpArgs false
set_option linter.unusedVariables false

set_option maxRecDepth 100000 in
set_option maxHeartbeats 8000000 in
theorem rok_any (w : World) (ra : Option Addr) (n c : Nat) (xs : List Int) (h : Recs IntE w ra n xs) (hn : n ≤ 9223372036854775807) :
  Calls Tryz.prog 70 #[.slice ra n c] w fun e w' => e = .returned (.bool (xs.all coordB)) ∧ Below w.heap.size w w' := by
 have HX := Lib.hid h
 have HL := Lib.hid h.1
 clear h
 refine enter_fr (N := 22) [.slice ra n c] (Tryz.func70) rfl Tryz.ntmps70 (by rfl) (fun a hF => ?_);replace hF := hF.kp [0] rfl;revert hF;refine zrs [2] [0] fun a hF => ?_;refine wp_seq_k (fun KA hKA => ?_);revert hF;refine zrs [2] [0, 3] fun a hF => ?_
 refine wp_block ?_
 refine loop_fr (fun k a' w' => ∃ i : Nat, i + k = n ∧ FrF 22 [] [(0, .slice ra n c), (3, .int .i64 i)] a' ∧ w' = w ∧ Hid ((xs.take i).all coordB = true)) n ⟨0, by omega, hF.sub ⟨rfl, rfl, trivial⟩, rfl, rfl⟩ ?_
 clear hF
 rintro rk a wr ⟨i, hik, hF, hw, HP⟩ KB hKB
 subst hw
 refine wp_seq_k (fun K hK => ?_)
 by_cases hlt : i < n
 rotate_left
 ·
  have hil0 : ¬ (i : Int) < n := by omega
  revert hF;refine zrs [1, 1, 4, 5] [0, 3, 7] fun a hF => ?_
  refine cond_no hF rfl ?_
  refine wp_exit ?_
  refine hKA _ _ ?_;clear hKA;revert hF;refine zrs [2] [2] fun a hF => ?_;refine wp_ret ?_;(try simp only [then_ret, block_ret, goto_ret]);revert hF;refine zq ?_
  have hie : i = xs.length := by rw [HL.out]; omega
  have := HP.out
  rw [hie, List.take_length] at this
  exact ⟨by rw [this]; rfl, Below.refl _ _⟩
 have hii : (i : Int) < n := by omega
 revert hF;refine zrs [1, 1, 4, 5] [0, 3, 7] fun a hF => ?_
 refine cond_yes hF rfl ?_
 refine wp_skip ?_
 refine hK _ _ ?_;clear hK;replace hF := hF.kp [0, 3] rfl
 clear hKA
 have hil : i < xs.length := by rw [HL.out]; exact hlt
 obtain ⟨b, o, hra, d0⟩ := int_at HX.out i hlt hil
 have HT : Hid ((xs.take (i + 1)).all coordB = ((xs.take i).all coordB && coordB xs[i])) := by
  show _ = _
  rw [List.take_succ_eq_append_getElem hil, List.all_append]
  simp
 have HM : Hid (coordB xs[i] = false → xs.all coordB = false) := fun h => by
  rw [List.all_eq_false]
  exact ⟨xs[i], List.getElem_mem hil, by rw [h]; simp⟩
 subst hra
 generalize xs[i] = x at *
 refine wp_seq_k (fun KC hKC => ?_)
 refine wp_block ?_
 by_cases h0 : x < 0
 ·
  have HE := Lib.hid (HM.out (by simp [coordB]; omega))
  revert hF;refine zrs [1, 1, 5, 4, 4, 1, 0, 0, 0, 0, 0, 5] [0, 3, 21] fun a hF => ?_
  refine cond_yes hF rfl ?_
  revert hF;refine zrs [2] [2] fun a hF => ?_;refine wp_ret ?_;(try simp only [then_ret, block_ret, goto_ret]);revert hF;refine zq ?_
  exact ⟨by rw [HE.out]; rfl, Below.refl _ _⟩
 by_cases h1 : 10000 < x
 ·
  have HE := Lib.hid (HM.out (by simp [coordB]; omega))
  revert hF;refine zrs [1, 1, 5, 4, 4, 1, 1, 1, 5, 4, 4, 5] [0, 3, 21] fun a hF => ?_
  refine cond_yes hF rfl ?_
  revert hF;refine zrs [2] [2] fun a hF => ?_;refine wp_ret ?_;(try simp only [then_ret, block_ret, goto_ret]);revert hF;refine zq ?_
  exact ⟨by rw [HE.out]; rfl, Below.refl _ _⟩
 have HN : Hid ((xs.take (i + 1)).all coordB = true) := by
  show _ = _
  rw [HT.out, HP.out]
  simp [coordB]
  omega
 revert hF;refine zrs [1, 1, 5, 4, 4, 1, 1, 1, 5, 4, 4, 5] [0, 3, 21] fun a hF => ?_
 refine cond_no hF rfl ?_
 refine wp_skip ?_
 refine hKC _ _ ?_;clear hKC
 have hws : IntKind.i64.wrap ((i : Int) + 1) = ((i + 1 : Nat) : Int) := wrap_succ (by omega)
 revert hF;refine zrg [1, 4, 2] [0, 3] fun a hF => ?_
 exact hKB (n - (i + 1)) _ _ (by omega) ⟨i + 1, by omega, hF, rfl, HN⟩

/-- The sign. -/
def sgn (s : Int) : Int := if 0 < s then 1 else if s < 0 then -1 else 0

set_option maxRecDepth 100000 in
set_option maxHeartbeats 8000000 in
theorem turn_any (w : World) (pa pb pc : PntR) (ha : PntOk pa) (hb : PntOk pb) (hc : PntOk pc) :
  Calls Tryz.prog 89 #[.agg #[.int .i64 pa.x, .int .i64 pa.y], .agg #[.int .i64 pb.x, .int .i64 pb.y], .agg #[.int .i64 pc.x, .int .i64 pc.y]] w fun e w' => e = .returned (.int .i64 (sgn (sideS pa pb pc))) ∧ Below w.heap.size w w' := by
 obtain ⟨a1, a2, a3, a4⟩ := ha
 obtain ⟨b1, b2, b3, b4⟩ := hb
 obtain ⟨c1, c2, c3, c4⟩ := hc
 have hw1 : IntKind.i64.wrap (pb.x - pa.x) = pb.x - pa.x := wrap_in (by omega) (by omega)
 have hw2 : IntKind.i64.wrap (pc.y - pa.y) = pc.y - pa.y := wrap_in (by omega) (by omega)
 have hw3 : IntKind.i64.wrap (pb.y - pa.y) = pb.y - pa.y := wrap_in (by omega) (by omega)
 have hw4 : IntKind.i64.wrap (pc.x - pa.x) = pc.x - pa.x := wrap_in (by omega) (by omega)
 obtain ⟨m1, m2⟩ := mul_bd (x := pb.x - pa.x) (y := pc.y - pa.y) (by omega) (by omega) (by omega) (by omega)
 obtain ⟨m3, m4⟩ := mul_bd (x := pb.y - pa.y) (y := pc.x - pa.x) (by omega) (by omega) (by omega) (by omega)
 have hw5 : IntKind.i64.wrap ((pb.x - pa.x) * (pc.y - pa.y)) = (pb.x - pa.x) * (pc.y - pa.y) := wrap_in (by omega) (by omega)
 have hw6 : IntKind.i64.wrap ((pb.y - pa.y) * (pc.x - pa.x)) = (pb.y - pa.y) * (pc.x - pa.x) := wrap_in (by omega) (by omega)
 have hw7 : IntKind.i64.wrap ((pb.x - pa.x) * (pc.y - pa.y) - (pb.y - pa.y) * (pc.x - pa.x)) = (pb.x - pa.x) * (pc.y - pa.y) - (pb.y - pa.y) * (pc.x - pa.x) := wrap_in (by omega) (by omega)
 clear a1 a2 a3 a4 b1 b2 b3 b4 c1 c2 c3 c4 m1 m2 m3 m4
 obtain ⟨sd, hsd⟩ : ∃ s, s = sideS pa pb pc := ⟨_, rfl⟩
 have HSD := Lib.hid hsd
 rw [← hsd]
 clear hsd
 refine enter_fr (N := 35) [.agg #[.int .i64 pa.x, .int .i64 pa.y], .agg #[.int .i64 pb.x, .int .i64 pb.y], .agg #[.int .i64 pc.x, .int .i64 pc.y]] (Tryz.func89) rfl Tryz.ntmps89 (by rfl) (fun a hF => ?_);replace hF := hF.kp [0, 1, 2] rfl;refine wp_seq_k (fun K hK => ?_);refine region_seq (l := [0, 1, 2, 3]) (by kernel_rfl) ?_;refine seq_one ?_;revert hF;refine qe1 fun a hF => ?_;refine seq_one ?_;revert hF;refine qe1 fun a hF => ?_
 have HB1 := Lib.hid (Joins.below_alloc1 w (.cells #[.int .i64 pa.x, .int .i64 pa.y] 23))
 have HX1 : Hid (PntIn (w.alloc (.cells #[.int .i64 pa.x, .int .i64 pa.y] 23)) w.heap.size pa) := World.alloc_heap_new w _
 have hs1 : (w.alloc (.cells #[.int .i64 pa.x, .int .i64 pa.y] 23)).heap.size = w.heap.size + 1 := by simp only [World.alloc, Array.size_push]
 generalize w.alloc (.cells #[.int .i64 pa.x, .int .i64 pa.y] 23) = w1 at *
 refine seq_one ?_;revert hF;refine qe1 fun a hF => ?_
 have HB2 := Lib.hid (Joins.below_alloc1 w1 (.cells #[.int .i64 pb.x, .int .i64 pb.y] 23))
 have HX2 : Hid (PntIn (w1.alloc (.cells #[.int .i64 pb.x, .int .i64 pb.y] 23)) w1.heap.size pb) := World.alloc_heap_new w1 _
 have hs2 : (w1.alloc (.cells #[.int .i64 pb.x, .int .i64 pb.y] 23)).heap.size = w1.heap.size + 1 := by simp only [World.alloc, Array.size_push]
 rw [hs1] at HX2 hs2
 generalize w1.alloc (.cells #[.int .i64 pb.x, .int .i64 pb.y] 23) = w2 at *
 revert hF;refine zre 3 [2] [3, 4, 5] fun a hF => ?_
 have HB3 := Lib.hid (Joins.below_alloc1 w2 (.cells #[.int .i64 pc.x, .int .i64 pc.y] 23))
 have HX3 : Hid (PntIn (w2.alloc (.cells #[.int .i64 pc.x, .int .i64 pc.y] 23)) w2.heap.size pc) := World.alloc_heap_new w2 _
 rw [hs2] at HX3
 generalize w2.alloc (.cells #[.int .i64 pc.x, .int .i64 pc.y] 23) = w3 at *
 refine hK _ _ ?_;clear hK
 have HBB : Hid (Below w.heap.size w w3) := HB1.out.trans ((HB2.out.trans (HB3.out.mono HB2.out.size)).mono HB1.out.size)
 obtain ⟨d0, d1⟩ := ((HX1.out.down HB2.out).down HB3.out).cells
 obtain ⟨e0, e1⟩ := (HX2.out.down HB3.out).cells
 obtain ⟨f0, f1⟩ := HX3.out.cells
 clear HX1 HX2 HX3 HB1 HB2 HB3
 revert hF;refine zrs [4, 4, 4, 4, 5, 4, 4, 4, 4, 5, 5, 4, 4, 4, 4, 5, 4, 4, 4, 4, 5, 5, 5, 2] [7] fun a hF => ?_
 clear d0 d1 e0 e1 f0 f1
 have hsq : (pb.x - pa.x) * (pc.y - pa.y) - (pb.y - pa.y) * (pc.x - pa.x) = sd := HSD.out.symm
 rw [hsq] at hF
 clear hw1 hw2 hw3 hw4 hw5 hw6 hw7 hsq HSD
 refine wp_seq_k (fun K hK => ?_)
 by_cases h0 : 0 < sd
 ·
  revert hF;refine zrs [1, 4] [7, 32] fun a hF => ?_
  refine cond_yes hF rfl ?_
  revert hF;refine zrs [2] [6] fun a hF => ?_;refine wp_ret ?_;(try simp only [then_ret, block_ret, goto_ret]);revert hF;refine zq ?_
  exact ⟨by unfold sgn; rw [if_pos h0]; rfl, HBB.out⟩
 revert hF;refine zrs [1, 4] [7, 32] fun a hF => ?_
 refine cond_no hF rfl ?_
 refine wp_skip ?_
 refine hK _ _ ?_;clear hK;refine wp_seq_k (fun K hK => ?_)
 by_cases h1 : sd < 0
 ·
  revert hF;refine zrs [1, 4] [34] fun a hF => ?_
  refine cond_yes hF rfl ?_
  revert hF;refine zrs [2] [6] fun a hF => ?_;refine wp_ret ?_;(try simp only [then_ret, block_ret, goto_ret]);revert hF;refine zq ?_
  exact ⟨by unfold sgn; rw [if_neg h0, if_pos h1]; rfl, HBB.out⟩
 revert hF;refine zrs [1, 4] [34] fun a hF => ?_
 refine cond_no hF rfl ?_
 refine wp_skip ?_
 refine hK _ _ ?_;clear hK;revert hF;refine zrs [2] [6] fun a hF => ?_;refine wp_ret ?_;(try simp only [then_ret, block_ret, goto_ret]);revert hF;refine zq ?_
 exact ⟨by unfold sgn; rw [if_neg h0, if_neg h1]; rfl, HBB.out⟩
end Go.Proofs.YtmcdhggnpfhlmaaGreat
