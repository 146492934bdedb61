/- hall: the reference: coord, fault, none, add, box. -/
import Derived.Test.YtmcdhggnpfhlmaaGreatQHMR05
import Derived.Test.YtmcdhggnpfhlmaaGreatQHMR06
import Derived.Test.YtmcdhggnpfhlmaaGreatQHMR10
import Derived.Test.YtmcdhggnpfhlmaaGreatQHMR16
import Derived.Laws.CopyOwn
import Derived.Laws.Tables

set_option linter.unusedVariables false
set_option linter.unusedSimpArgs false
namespace Go.Proofs.YtmcdhggnpfhlmaaGreat
open Go.RowKit Go.IntWalk
set_option linter.unusedSimpArgs false
set_option linter.unusedVariables false

set_option maxRecDepth 100000 in
set_option maxHeartbeats 8000000 in
theorem rcoord_any (w : World) (n : Int) : Calls Tryz.prog 66 #[.int .i64 n] w fun e w' => e = .returned (.bool (coordB n)) ∧ Below w.heap.size w w' := by
 unfold coordB
 refine enter_fr (N := 9) [.int .i64 n] (Tryz.func66) rfl Tryz.ntmps66 (by rfl) (fun a hF => ?_);replace hF := hF.kp [0] rfl;revert hF;refine zrs [2] [0] fun a hF => ?_
 by_cases h0 : 0 ≤ n
 ·
  revert hF;refine zrs [1, 4, 1, 1, 4, 5, 2] [2] fun a hF => ?_;refine wp_ret ?_;(try simp only [then_ret, block_ret, goto_ret]);revert hF;refine zq ?_
  exact ⟨by simp [h0, tupF], Below.refl _ _⟩
 ·
  revert hF;refine zrs [1, 4, 1, 0, 0, 5, 2] [2] fun a hF => ?_;refine wp_ret ?_;(try simp only [then_ret, block_ret, goto_ret]);revert hF;refine zq ?_
  exact ⟨by simp [h0, tupF], Below.refl _ _⟩

/-- A fault in a block of its own. -/
def FltIn (w : World) (g : Nat) (x : FaultR) : Prop := w.heap[g]? = some (.cells #[.int .i64 x.err, .int .i64 x.at', .int .i64 x.other] 55 (0, 0))
theorem FltIn.cells {w : World} {g : Nat} {x : FaultR} (h : FltIn w g x) : w.cell? ⟨g, 0, none⟩ = some (.int .i64 x.err) ∧ w.cell? ⟨g, 1, none⟩ = some (.int .i64 x.at') ∧ w.cell? ⟨g, 2, none⟩ = some (.int .i64 x.other) :=
 ⟨boxed_cell (j := 0) h rfl, boxed_cell (j := 1) h rfl, boxed_cell (j := 2) h rfl⟩

/-- A struct variable is made: its block, the run of its store, what stays. -/
theorem var_new (w : World) (T : TypeId) (Z V : Array Value) (hi : (Tryz.prog.info? T).map (·.size) = some V.size) (ho : Z.size = V.size) (h1 : V.all (·.oneCell') = true) :
  ∃ wa g, w.alloc (.cells Z T) = wa ∧ g = w.heap.size ∧ (storeVar T ⟨g, 0, none⟩ (.agg V)).run Tryz.prog wa = .ok () (wa.setRow g V) ∧ Hid (Below w.heap.size w (wa.setRow g V) ∧ (wa.setRow g V).heap[g]? = some (.cells V T (0, 0)) ∧ w.heap.size ≤ g) := by
 have hs0 : (w.alloc (.cells Z T)).heap[w.heap.size]? = some (.cells Z T (0, 0)) := World.alloc_heap_new _ _
 exact ⟨_, _, rfl, rfl, run_storeVar_row _ _ T T Z V hs0 hi ho h1, below_setRow (Joins.below_alloc1 w _) (Nat.le_refl _) V, setRow_heap _ _ Z V T (0, 0) hs0, Nat.le_refl _⟩
/-- A fault is put into its variable. -/
theorem flt_put {w wf : World} {gr : Nat} (a b c : Int) (hr : FltIn wf gr ⟨0, 0, 0⟩) (hb : Below w.heap.size w wf) (hg : w.heap.size ≤ gr) :
  ∃ wz, wf.setRow gr #[.int .i64 a, .int .i64 b, .int .i64 c] = wz ∧ (storeVar 55 ⟨gr, 0, none⟩ (.agg #[.int .i64 a, .int .i64 b, .int .i64 c])).run Tryz.prog wf = .ok () wz ∧ (loadVar 55 ⟨gr, 0, none⟩).run Tryz.prog wz = .ok (.agg #[.int .i64 a, .int .i64 b, .int .i64 c]) wz ∧ Hid (Below w.heap.size w wz) := by
 refine ⟨_, rfl, run_storeVar_row _ _ 55 55 #[.int .i64 0, .int .i64 0, .int .i64 0] #[.int .i64 a, .int .i64 b, .int .i64 c] hr (by kernel_rfl) rfl (by simp [Value.oneCell']), ?_, below_setRow hb hg _⟩
 have hx : FltIn (wf.setRow gr #[.int .i64 a, .int .i64 b, .int .i64 c]) gr ⟨a, b, c⟩ := setRow_heap wf gr #[.int .i64 0, .int .i64 0, .int .i64 0] #[.int .i64 a, .int .i64 b, .int .i64 c] 55 (0, 0) hr
 obtain ⟨c0, c1, c2⟩ := hx.cells
 generalize wf.setRow gr #[.int .i64 a, .int .i64 b, .int .i64 c] = wz at *
 go_simp
set_option maxRecDepth 100000 in
set_option maxHeartbeats 8000000 in
theorem rfault_any (w : World) (x : FaultR) : Calls Tryz.prog 67 #[.int .i64 x.err, .int .i64 x.at', .int .i64 x.other] w fun e w' => e = .returned (.agg #[.int .i64 x.err, .int .i64 x.at', .int .i64 x.other]) ∧ Below w.heap.size w w' := by
 obtain ⟨a0, a1, a2⟩ := x
 dsimp only
 refine enter_fr (N := 11) [.int .i64 a0, .int .i64 a1, .int .i64 a2] (Tryz.func67) rfl Tryz.ntmps67 (by rfl) (fun a hF => ?_);replace hF := hF.kp [0, 1, 2] rfl;refine wp_seq_k (fun K hK => ?_);refine region_seq (l := [0]) (by kernel_rfl) ?_;refine seq_one ?_;revert hF;refine qe0 fun a hF => ?_
 have hs0 : (w.alloc (.cells #[.int .i64 0, .int .i64 0, .int .i64 0] 55)).heap[w.heap.size]? = some (.cells #[.int .i64 0, .int .i64 0, .int .i64 0] 55 (0, 0)) := World.alloc_heap_new _ _
 have hb1 := Joins.below_alloc1 w (.cells #[.int .i64 0, .int .i64 0, .int .i64 0] 55)
 refine seq_end ?_;replace hF := hF.kp [0, 1, 2, 6] rfl;refine hK _ _ ?_;clear hK
 generalize w.alloc (.cells #[.int .i64 0, .int .i64 0, .int .i64 0] 55) = wa at *
 obtain ⟨g, hgv⟩ : ∃ g, g = w.heap.size := ⟨_, rfl⟩
 have hgw : w.heap.size ≤ g := Nat.le_of_eq hgv.symm
 rw [← hgv] at hF hs0
 clear hgv
 have hSV := run_storeVar_row (P := Tryz.prog) wa g 55 55 #[.int .i64 0, .int .i64 0, .int .i64 0] #[.int .i64 a0, .int .i64 a1, .int .i64 a2] hs0 (by kernel_rfl) rfl (by simp [Value.oneCell'])
 have HX : Hid (FltIn (wa.setRow g #[.int .i64 a0, .int .i64 a1, .int .i64 a2]) g ⟨a0, a1, a2⟩) := setRow_heap wa g #[.int .i64 0, .int .i64 0, .int .i64 0] #[.int .i64 a0, .int .i64 a1, .int .i64 a2] 55 (0, 0) hs0
 have HB : Hid (Below w.heap.size w (wa.setRow g #[.int .i64 a0, .int .i64 a1, .int .i64 a2])) := below_setRow hb1 hgw #[.int .i64 a0, .int .i64 a1, .int .i64 a2]
 clear hs0 hb1 hgw
 refine wp_seq_k (fun K hK => ?_);revert hF;refine zrp [1, 1, 1, 6] [4] fun a hF => ?_;refine seq_one ?_;refine op_storev rfl rfl hF rfl rfl rfl rfl hSV ?_;clear hF;refine fun a hF => ?_;refine seq_end ?_;replace hF := hF.kp [6] rfl
 clear hSV
 refine hK _ _ ?_;clear hK
 generalize wa.setRow g #[.int .i64 a0, .int .i64 a1, .int .i64 a2] = w2 at *
 have hlv : (loadVar 55 ⟨g, 0, none⟩).run Tryz.prog w2 = .ok (.agg #[.int .i64 a0, .int .i64 a1, .int .i64 a2]) w2 := by
  obtain ⟨c0, c1, c2⟩ := HX.out.cells
  clear hF
  go_simp
 refine wp_ret ?_
 (try simp only [then_ret, block_ret, goto_ret])
 exact ret_cell (fn := Tryz.f67) rfl hF rfl hlv ⟨rfl, HB.out⟩

set_option maxRecDepth 100000 in
set_option maxHeartbeats 8000000 in
theorem rnone_any (w : World) : Calls Tryz.prog 103 #[] w fun e w' => e = .returned (.agg #[.int .i64 0, .int .i64 0, .int .i64 0]) ∧ Below w.heap.size w w' := by
 refine enter_fr (N := 2) [] (Tryz.func103) rfl Tryz.ntmps103 (by rfl) (fun a hF => ?_);replace hF := hF.kp [] rfl;refine wp_seq_k (fun K hK => ?_);refine region_seq (l := [0]) (by kernel_rfl) ?_;refine seq_one ?_;revert hF;refine qe0 fun a hF => ?_
 have hs0 : (w.alloc (.cells #[.int .i64 0, .int .i64 0, .int .i64 0] 55)).heap[w.heap.size]? = some (.cells #[.int .i64 0, .int .i64 0, .int .i64 0] 55 (0, 0)) := World.alloc_heap_new _ _
 have hb1 := Joins.below_alloc1 w (.cells #[.int .i64 0, .int .i64 0, .int .i64 0] 55)
 refine seq_end ?_;replace hF := hF.kp [0] rfl;refine hK _ _ ?_;clear hK
 generalize w.alloc (.cells #[.int .i64 0, .int .i64 0, .int .i64 0] 55) = wa at *
 obtain ⟨g, hgv⟩ : ∃ g, g = w.heap.size := ⟨_, rfl⟩
 have hgw : w.heap.size ≤ g := Nat.le_of_eq hgv.symm
 rw [← hgv] at hF hs0
 clear hgv
 have hSV := run_storeVar_row (P := Tryz.prog) wa g 55 55 #[.int .i64 0, .int .i64 0, .int .i64 0] #[.int .i64 0, .int .i64 0, .int .i64 0] hs0 (by kernel_rfl) rfl (by simp [Value.oneCell'])
 have HX : Hid (FltIn (wa.setRow g #[.int .i64 0, .int .i64 0, .int .i64 0]) g ⟨0, 0, 0⟩) := setRow_heap wa g #[.int .i64 0, .int .i64 0, .int .i64 0] #[.int .i64 0, .int .i64 0, .int .i64 0] 55 (0, 0) hs0
 have HB : Hid (Below w.heap.size w (wa.setRow g #[.int .i64 0, .int .i64 0, .int .i64 0])) := below_setRow hb1 hgw #[.int .i64 0, .int .i64 0, .int .i64 0]
 clear hs0 hb1 hgw
 refine wp_seq_k (fun K hK => ?_);revert hF;refine zrp [3] [1] fun a hF => ?_;refine seq_one ?_;refine op_storev rfl rfl hF rfl rfl rfl rfl hSV ?_;clear hF;refine fun a hF => ?_;refine seq_end ?_;replace hF := hF.kp [0] rfl
 clear hSV
 refine hK _ _ ?_;clear hK
 generalize wa.setRow g #[.int .i64 0, .int .i64 0, .int .i64 0] = w2 at *
 have hlv : (loadVar 55 ⟨g, 0, none⟩).run Tryz.prog w2 = .ok (.agg #[.int .i64 0, .int .i64 0, .int .i64 0]) w2 := by
  obtain ⟨c0, c1, c2⟩ := HX.out.cells
  clear hF
  go_simp
 refine wp_ret ?_
 (try simp only [then_ret, block_ret, goto_ret])
 exact ret_cell (fn := Tryz.f103) rfl hF rfl hlv ⟨rfl, HB.out⟩

/-- A fault, if there is one. -/
def fltL (x : FaultR) : List FaultR := if x.err = 0 then [] else [x]
set_option maxRecDepth 100000 in
set_option maxHeartbeats 8000000 in
theorem radd_any (w : World) (B : Nat) (v : Value) (xs : List FaultR) (x : FaultR) (ho : w.ownsRow B 55 3 v xs.length (flat FaultE xs)) (hB : B ≤ w.heap.size) (hl : xs.length ≤ 900000) :
  Calls Tryz.prog 83 #[v, .agg #[.int .i64 x.err, .int .i64 x.at', .int .i64 x.other]] w fun e w' => ∃ v', e = .returned v' ∧ Below B w w' ∧ w'.ownsRow B 55 3 v' (xs ++ fltL x).length (flat FaultE (xs ++ fltL x)) ∧ TUpd (fun T => T = 55) w w' := by
 obtain ⟨la, lc, rfl, _⟩ := OwnRecs.of_row ho
 have HO := Lib.hid ho
 have hB := hB
 clear ho
 refine enter_fr (N := 13) [.slice la xs.length lc, .agg #[.int .i64 x.err, .int .i64 x.at', .int .i64 x.other]] (Tryz.func83) rfl Tryz.ntmps83 (by rfl) (fun a hF => ?_);replace hF := hF.kp [0, 1] rfl;refine wp_seq_k (fun K hK => ?_);refine region_seq (l := [0, 1]) (by kernel_rfl) ?_;refine seq_one ?_;revert hF;refine qe1 fun a hF => ?_
 have HX : Hid (FltIn (w.alloc (.cells #[.int .i64 x.err, .int .i64 x.at', .int .i64 x.other] 55)) w.heap.size x) := World.alloc_heap_new w _
 have HB1 : Hid (Below w.heap.size w (w.alloc (.cells #[.int .i64 x.err, .int .i64 x.at', .int .i64 x.other] 55))) := Joins.below_alloc1 w _
 have HO1 := Lib.hid (row_of_heap HO.out fun b hb => HB1.out.block b (HO.out.lt b hb).2)
 generalize w.alloc (.cells #[.int .i64 x.err, .int .i64 x.at', .int .i64 x.other] 55) = w1 at *
 obtain ⟨g, hg⟩ : ∃ g, g = w.heap.size := ⟨_, rfl⟩
 rw [← hg] at hF HX
 clear hg HO
 revert hF;refine zre 1 [2] [0, 3] fun a hF => ?_;refine hK _ _ ?_;clear hK
 obtain ⟨c0, c1, c2⟩ := HX.out.cells
 refine wp_seq_k (fun K hK => ?_)
 by_cases h0 : x.err = 0
 ·
  have he : (x.err == 0) = true := by simp [h0]
  have hfl : fltL x = [] := by unfold fltL; rw [if_pos h0]
  clear h0
  revert hF;refine zrs [4, 4, 4] [0, 3, 7] fun a hF => ?_
  refine cond_yes hF rfl ?_
  revert hF;refine zrs [1, 2] [4] fun a hF => ?_;refine wp_ret ?_;(try simp only [then_ret, block_ret, goto_ret]);revert hF;refine zq ?_
  refine ⟨_, rfl, HB1.out.mono hB, ?_, TUpd.of_below HB1.out⟩
  rw [hfl, List.append_nil]
  exact HO1.out
 have he : (x.err == 0) = false := by simp [h0]
 have hfl : fltL x = [x] := by unfold fltL; rw [if_neg h0]
 have HFL := Lib.hid hfl
 clear h0 hfl
 revert hF;refine zrs [4, 4, 4] [0, 3, 7] fun a hF => ?_
 refine cond_no hF rfl ?_
 refine wp_skip ?_
 refine hK _ _ ?_;clear hK
 clear he
 refine wp_seq_k (fun K hK => ?_);revert hF;refine zrp [1, 4] [2, 3, 4] fun a hF => ?_;refine seq_one ?_;revert hF;refine qe1 fun a hF => ?_
 clear c0 c1 c2
 have HN := Lib.hid (recs_alloc FaultE w1 55 [x] #[.int .i64 x.err, .int .i64 x.at', .int .i64 x.other] rfl)
 have HBa := Lib.hid (Joins.below_alloc1 w1 (.cells #[.int .i64 x.err, .int .i64 x.at', .int .i64 x.other] 55))
 have HO2 := Lib.hid (row_of_heap HO1.out fun b hb => HBa.out.block b (HO1.out.lt b hb).2)
 have HB2 : Hid (Below B w (w1.alloc (.cells #[.int .i64 x.err, .int .i64 x.at', .int .i64 x.other] 55))) := (HB1.out.trans (HBa.out.mono HB1.out.size)).mono hB
 have HS2 : Hid (B ≤ (w1.alloc (.cells #[.int .i64 x.err, .int .i64 x.at', .int .i64 x.other] 55)).heap.size) := Nat.le_trans hB (Nat.le_trans HB1.out.size HBa.out.size)
 have HT2 : Hid (TUpd (fun T => T = 55) w (w1.alloc (.cells #[.int .i64 x.err, .int .i64 x.at', .int .i64 x.other] 55))) := TUpd.of_below (HB1.out.trans (HBa.out.mono HB1.out.size))
 clear HBa HO1 HB1 HX
 generalize w1.alloc (.cells #[.int .i64 x.err, .int .i64 x.at', .int .i64 x.other] 55) = w2 at *
 obtain ⟨v', w3, hAPP, ho, hg, _⟩ := append_recs (E := FaultE) 36 55 36 Tryz.underlying36 info_fault rfl (by decide) HO2.out (u := .slice (some ⟨w1.heap.size, 0, none⟩) 1 1) ⟨_, _, rfl, HN.out, fun h => by cases h⟩ (by simp; omega) HS2.out
 have HB3 : Hid (Below B w w3) := HB2.out.grown hg HS2.out (fun k hk => (HO2.out.lt k hk).1)
 have HT3 : Hid (TUpd (fun T => T = 55) w w3) := HT2.out.trans (TUpd.of_grown hg fun b hb => by
  obtain ⟨cur, hh⟩ := own_type HO2.out hb
  exact ⟨_, _, _, hh, rfl⟩)
 have HO3 := Lib.hid ho
 clear ho hg HN HO2 HB2 HS2 HT2
 refine seq_one ?_;refine op_append rfl rfl rfl rfl rfl hF rfl rfl rfl hAPP (fun a hF => ?_);clear hAPP;revert hF;refine zre 4 [2] [4] fun a hF => ?_;refine hK _ _ ?_;clear hK;refine wp_ret ?_;(try simp only [then_ret, block_ret, goto_ret]);revert hF;refine zq ?_
 refine ⟨v', rfl, HB3.out, ?_, HT3.out⟩
 rw [HFL.out, List.length_append]
 exact HO3.out

set_option maxRecDepth 100000 in
set_option maxHeartbeats 8000000 in
theorem rbox_any (w : World) (b : BoxR) : Calls Tryz.prog 102 #[.agg #[.int .i64 b.x, .int .i64 b.y, .int .i64 b.x2, .int .i64 b.y2]] w fun e w' => e = .returned (.bool (boxB b)) ∧ Below w.heap.size w w' := by
 obtain ⟨b0, b1, b2, b3⟩ := b
 unfold boxB
 dsimp only
 refine enter_fr (N := 35) [.agg #[.int .i64 b0, .int .i64 b1, .int .i64 b2, .int .i64 b3]] (Tryz.func102) rfl Tryz.ntmps102 (by rfl) (fun a hF => ?_);replace hF := hF.kp [0] rfl;refine wp_seq_k (fun K hK => ?_);refine region_seq (l := [0, 1]) (by kernel_rfl) ?_;refine seq_one ?_;revert hF;refine qe1 fun a hF => ?_
 have HX : Hid (BoxIn (w.alloc (.cells #[.int .i64 b0, .int .i64 b1, .int .i64 b2, .int .i64 b3] 59)) w.heap.size ⟨b0, b1, b2, b3⟩) := World.alloc_heap_new w _
 have HB1 : Hid (Below w.heap.size w (w.alloc (.cells #[.int .i64 b0, .int .i64 b1, .int .i64 b2, .int .i64 b3] 59))) := Joins.below_alloc1 w _
 generalize w.alloc (.cells #[.int .i64 b0, .int .i64 b1, .int .i64 b2, .int .i64 b3] 59) = w1 at *
 obtain ⟨g, hg⟩ : ∃ g, g = w.heap.size := ⟨_, rfl⟩
 rw [← hg] at hF HX
 clear hg
 revert hF;refine zre 1 [2] [1] fun a hF => ?_;refine hK _ _ ?_;clear hK
 obtain ⟨c0, c1, c2, c3⟩ := HX.out.cells
 refine wp_seq_k (fun K hK => ?_);revert hF;refine zrp [4, 4] [2, 3, 4, 5, 6, 7, 8, 9, 10, 11, 12, 13, 14, 15, 16, 17, 18, 19, 20, 21, 22, 23, 24, 25, 26, 27, 28, 29, 30, 31, 32] fun a hF => ?_;revert hF;refine zos fun K hK => ?_
 refine (rcoord_any w1 b0).mono ?_
 rintro e w2 ⟨rfl, hb⟩
 have HX2 := Lib.hid (HX.out.down hb)
 have HB2 : Hid (Below w.heap.size w w2) := HB1.out.trans (hb.mono HB1.out.size)
 clear HX HB1 hb c0 c1 c2 c3
 obtain ⟨c0, c1, c2, c3⟩ := HX2.out.cells
 generalize coordB b0 = k0 at *
 cases k0
 ·
  refine hK _ _ (fun a hF => ?_);clear hK K;revert hF;refine zre 3 [1, 0, 0, 0, 5, 1, 0, 0, 0, 5, 1, 0, 0, 0, 5, 1, 0, 0, 0, 0, 0, 5, 1, 0, 0, 0, 0, 0, 5, 2] [2] fun a hF => ?_;refine hK _ _ ?_;clear hK;refine wp_ret ?_;(try simp only [then_ret, block_ret, goto_ret]);revert hF;refine zq ?_
  exact ⟨by simp [tupF], HB2.out⟩
 refine hK _ _ (fun a hF => ?_);clear hK K;revert hF;refine zrc 3 [1, 4, 4] [6, 7, 8, 9, 10, 11, 12, 13, 14, 15, 16, 17, 18, 19, 20, 21, 22, 23, 24, 25, 26, 27, 28, 29, 30, 31, 32] fun a hF => ?_;revert hF;refine zos fun K hK => ?_
 refine (rcoord_any w2 b1).mono ?_
 rintro e w3 ⟨rfl, hb⟩
 have HX3 := Lib.hid (HX2.out.down hb)
 have HB3 : Hid (Below w.heap.size w w3) := HB2.out.trans (hb.mono HB2.out.size)
 clear HX2 HB2 hb c0 c1 c2 c3
 obtain ⟨c0, c1, c2, c3⟩ := HX3.out.cells
 generalize coordB b1 = k1 at *
 cases k1
 ·
  refine hK _ _ (fun a hF => ?_);clear hK K;revert hF;refine zre 7 [5, 1, 0, 0, 0, 5, 1, 0, 0, 0, 5, 1, 0, 0, 0, 0, 0, 5, 1, 0, 0, 0, 0, 0, 5, 2] [2] fun a hF => ?_;refine hK _ _ ?_;clear hK;refine wp_ret ?_;(try simp only [then_ret, block_ret, goto_ret]);revert hF;refine zq ?_
  exact ⟨by simp [tupF], HB3.out⟩
 refine hK _ _ (fun a hF => ?_);clear hK K;revert hF;refine zrc 7 [5, 1, 4, 4] [11, 12, 13, 14, 15, 16, 17, 18, 19, 20, 21, 22, 23, 24, 25, 26, 27, 28, 29, 30, 31, 32] fun a hF => ?_;revert hF;refine zos fun K hK => ?_
 refine (rcoord_any w3 b2).mono ?_
 rintro e w4 ⟨rfl, hb⟩
 have HX4 := Lib.hid (HX3.out.down hb)
 have HB4 : Hid (Below w.heap.size w w4) := HB3.out.trans (hb.mono HB3.out.size)
 clear HX3 HB3 hb c0 c1 c2 c3
 obtain ⟨c0, c1, c2, c3⟩ := HX4.out.cells
 generalize coordB b2 = k2 at *
 cases k2
 ·
  refine hK _ _ (fun a hF => ?_);clear hK K;revert hF;refine zre 12 [5, 1, 0, 0, 0, 5, 1, 0, 0, 0, 0, 0, 5, 1, 0, 0, 0, 0, 0, 5, 2] [2] fun a hF => ?_;refine hK _ _ ?_;clear hK;refine wp_ret ?_;(try simp only [then_ret, block_ret, goto_ret]);revert hF;refine zq ?_
  exact ⟨by simp [tupF], HB4.out⟩
 refine hK _ _ (fun a hF => ?_);clear hK K;revert hF;refine zrc 12 [5, 1, 4, 4] [16, 17, 18, 19, 20, 21, 22, 23, 24, 25, 26, 27, 28, 29, 30, 31, 32] fun a hF => ?_;revert hF;refine zos fun K hK => ?_
 refine (rcoord_any w4 b3).mono ?_
 rintro e w5 ⟨rfl, hb⟩
 have HX5 := Lib.hid (HX4.out.down hb)
 have HB5 : Hid (Below w.heap.size w w5) := HB4.out.trans (hb.mono HB4.out.size)
 clear HX4 HB4 hb c0 c1 c2 c3
 obtain ⟨c0, c1, c2, c3⟩ := HX5.out.cells
 generalize coordB b3 = k3 at *
 cases k3
 ·
  refine hK _ _ (fun a hF => ?_);clear hK K;revert hF;refine zre 17 [5, 1, 0, 0, 0, 0, 0, 5, 1, 0, 0, 0, 0, 0, 5, 2] [2] fun a hF => ?_;refine hK _ _ ?_;clear hK;refine wp_ret ?_;(try simp only [then_ret, block_ret, goto_ret]);revert hF;refine zq ?_
  exact ⟨by simp [tupF], HB5.out⟩
 by_cases hx : b0 ≤ b2
 ·
  refine hK _ _ (fun a hF => ?_);clear hK K;revert hF;refine zre 17 [5, 1, 4, 4, 4, 4, 5, 5, 1, 4, 4, 4, 4, 5, 5, 2] [2] fun a hF => ?_;refine hK _ _ ?_;clear hK;refine wp_ret ?_;(try simp only [then_ret, block_ret, goto_ret]);revert hF;refine zq ?_
  exact ⟨by simp [hx, tupF], HB5.out⟩
 ·
  refine hK _ _ (fun a hF => ?_);clear hK K;revert hF;refine zre 17 [5, 1, 4, 4, 4, 4, 5, 5, 1, 0, 0, 0, 0, 0, 5, 2] [2] fun a hF => ?_;refine hK _ _ ?_;clear hK;refine wp_ret ?_;(try simp only [then_ret, block_ret, goto_ret]);revert hF;refine zq ?_
  exact ⟨by simp [hx, tupF], HB5.out⟩
end Go.Proofs.YtmcdhggnpfhlmaaGreat
