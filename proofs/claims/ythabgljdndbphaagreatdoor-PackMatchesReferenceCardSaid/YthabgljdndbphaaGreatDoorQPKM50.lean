/- foyerref23.Solve: the walk. -/
import Derived.Test.YthabgljdndbphaaGreatDoorQPKM17
import Derived.Test.YthabgljdndbphaaGreatDoorQPKM47
import Derived.Test.YthabgljdndbphaaGreatDoorQPKM49

set_option linter.unusedVariables false
set_option linter.unusedSimpArgs false
namespace Go.Proofs.YthabgljdndbphaaGreatDoor
open Go.RowKit Go.IntWalk Go.Maps Go.WideMaps
set_option linter.unusedSimpArgs false
set_option linter.unusedVariables false
set_option maxRecDepth 100000 in
set_option maxHeartbeats 32000000 in
theorem rsolve_bad (w : World) (ra ga : Option Addr) (c d : Nat) (single : Bool) (R : List Int) (G : List (Int × Int)) (hn : R.length ≤ 4000) (hm : G.length ≤ 4000) (hR : Ints w ra R.length R) (hG : Pairs w ga G.length G) (hbad : validS R G = false) :
  Calls Tryz.prog 12 #[.agg #[.slice ra R.length c, .slice ga G.length d, .bool single]] w fun e w' => e = .returned (.tuple #[.agg #[.slice none 0 0, .int .i64 0], .agg #[.slice none 0 0], .int .i64 1]) ∧ Below w.heap.size w w' := by
 have HBAD := Lib.hid hbad
 clear hbad
 have HR := Lib.hid hR
 have HG := Lib.hid hG
 clear hR hG
 refine enter_fr (N := 46) [.agg #[.slice ra R.length c, .slice ga G.length d, .bool single]] (Tryz.func12) rfl Tryz.ntmps12 (by rfl) (fun a hF => ?_);replace hF := hF.kp [0] rfl;refine wp_seq_k (fun K hK => ?_);refine region_seq (l := [0, 1, 2, 3]) (by kernel_rfl) ?_;refine seq_one ?_;revert hF;refine qe1 fun a hF => ?_
 have hb1 := Joins.below_alloc1 w (.cells #[.slice ra R.length c, .slice ga G.length d, .bool single] 25)
 have hp1 : (w.alloc (.cells #[.slice ra R.length c, .slice ga G.length d, .bool single] 25)).heap[w.heap.size]? = some (.cells #[.slice ra R.length c, .slice ga G.length d, .bool single] 25 (0, 0)) := heap_new _ _
 generalize w.alloc (.cells #[.slice ra R.length c, .slice ga G.length d, .bool single] 25) = w1 at *
 refine seq_one ?_;revert hF;refine qe0 fun a hF => ?_
 have hb2 := Joins.below_alloc1 w1 (.cells #[.slice none 0 0, .int .i64 0] 31)
 have hp2 := (hb2.block _ (lt_of_block hp1)).trans hp1
 have hx2 : (w1.alloc (.cells #[.slice none 0 0, .int .i64 0] 31)).heap[w1.heap.size]? = some (.cells #[.slice none 0 0, .int .i64 0] 31 (0, 0)) := heap_new _ _
 have hB2 := hb1.trans (hb2.mono hb1.size)
 have hn1 := hb1.size
 clear hb1 hb2 hp1
 generalize w1.alloc (.cells #[.slice none 0 0, .int .i64 0] 31) = w2 at *
 generalize w1.heap.size = bx at *
 refine seq_one ?_;revert hF;refine qe0 fun a hF => ?_
 have hb3 := Joins.below_alloc1 w2 (.cells #[.slice none 0 0] 34)
 have HS : Hid (RvM w (w2.alloc (.cells #[.slice none 0 0] 34)) w.heap.size bx w2.heap.size #[.slice ra R.length c, .slice ga G.length d, .bool single] (.slice none 0 0) (.int .i64 0) (.slice none 0 0)) :=
  ⟨hB2.trans (hb3.mono hB2.size), (hb3.block _ (lt_of_block hp2)).trans hp2, (hb3.block _ (lt_of_block hx2)).trans hx2, heap_new _ _, hn1, hB2.size⟩
 clear hb3 hp2 hx2 hB2 hn1
 generalize w2.alloc (.cells #[.slice none 0 0] 34) = w3 at *
 generalize w2.heap.size = bp at *
 obtain ⟨pB, hpb⟩ : ∃ x, x = w.heap.size := ⟨_, rfl⟩
 rw [← hpb] at hF HS
 clear hpb
 revert hF;refine zre 3 [2] [1, 2, 3] fun a hF => ?_;refine hK _ _ ?_;clear hK;refine wp_seq_k (fun K hK => ?_);refine wp_seq_k (fun K hK => ?_)
 have p0 := boxed_cell (j := 0) HS.out.prob rfl
 have p1 := boxed_cell (j := 1) HS.out.prob rfl
 have p2 := boxed_cell (j := 2) HS.out.prob rfl
 revert hF;refine zrp [4] [1, 2] fun a hF => ?_;revert hF;refine zos fun K hK => ?_
 refine (refvalid_any ra ga R.length c G.length d single _ R G w3 (by omega) (by omega) (HR.out.below HS.out.below) (HG.out.below HS.out.below) rfl).mono ?_
 rintro e w4 ⟨rfl, hb⟩
 have HS := Lib.hid (HS.out.down hb)
 clear hb p0 p1 p2
 rw [HBAD.out]
 refine hK _ _ (fun a hF => ?_);clear hK K;revert hF;refine zre 2 [4] [1, 2, 3, 10] fun a hF => ?_;refine hK _ _ ?_;clear hK
 refine cond_yes hF rfl ?_
 refine wp_seq_k (fun K hK => ?_)
 have hSV := run_storeVar_row (P := Tryz.prog) w4 bx 31 31 #[.slice none 0 0, .int .i64 0] #[.slice none 0 0, .int .i64 0] HS.out.x (by kernel_rfl) rfl (by simp [Value.oneCell'])
 have HSx := Lib.hid (HS.out.setX (.slice none 0 0) (.int .i64 0))
 revert hF;refine zrp [3, 3] [2, 3, 4] fun a hF => ?_;refine seq_one ?_;refine op_storev rfl rfl hF rfl rfl rfl rfl hSV ?_;clear hF;refine fun a hF => ?_
 clear hSV HS
 generalize w4.setRow bx #[.slice none 0 0, .int .i64 0] = w20 at *
 have hSV := run_storeVar_row (P := Tryz.prog) w20 bp 34 34 #[.slice none 0 0] #[.slice none 0 0] HSx.out.y (by kernel_rfl) rfl (by simp [Value.oneCell'])
 have HSy := Lib.hid (HSx.out.setY (.slice none 0 0))
 refine seq_one ?_;refine op_storev rfl rfl hF rfl rfl rfl rfl hSV ?_;clear hF;refine fun a hF => ?_
 clear hSV HSx
 generalize w20.setRow bp #[.slice none 0 0] = w21 at *
 revert hF;refine zre 4 [2] [2, 3, 4] fun a hF => ?_;refine hK _ _ ?_;clear hK
 refine wp_ret ?_
 try simp only [then_ret, block_ret, goto_ret]
 refine ret_cct (fn := Tryz.f12) rfl hF rfl rfl rfl HSy.out.loadX HSy.out.loadY ?_
 exact ⟨rfl, HSy.out.below⟩
set_option maxRecDepth 100000 in
set_option maxHeartbeats 32000000 in
theorem rsolve_many (w : World) (ra ga : Option Addr) (c d : Nat) (single : Bool) (R : List Int) (G : List (Int × Int)) (hn : R.length ≤ 4000) (hm : G.length ≤ 4000) (hR : Ints w ra R.length R) (hG : Pairs w ga G.length G) (hval : validS R G = true) (hbig : 40 < R.length ∨ 8 < G.length) :
  Calls Tryz.prog 12 #[.agg #[.slice ra R.length c, .slice ga G.length d, .bool single]] w fun e w' => e = .returned (.tuple #[.agg #[.slice none 0 0, .int .i64 0], .agg #[.slice none 0 0], .int .i64 22]) ∧ Below w.heap.size w w' := by
 have HVAL := Lib.hid hval
 clear hval
 have HR := Lib.hid hR
 have HG := Lib.hid hG
 clear hR hG
 refine enter_fr (N := 46) [.agg #[.slice ra R.length c, .slice ga G.length d, .bool single]] (Tryz.func12) rfl Tryz.ntmps12 (by rfl) (fun a hF => ?_);replace hF := hF.kp [0] rfl;refine wp_seq_k (fun K hK => ?_);refine region_seq (l := [0, 1, 2, 3]) (by kernel_rfl) ?_;refine seq_one ?_;revert hF;refine qe1 fun a hF => ?_
 have hb1 := Joins.below_alloc1 w (.cells #[.slice ra R.length c, .slice ga G.length d, .bool single] 25)
 have hp1 : (w.alloc (.cells #[.slice ra R.length c, .slice ga G.length d, .bool single] 25)).heap[w.heap.size]? = some (.cells #[.slice ra R.length c, .slice ga G.length d, .bool single] 25 (0, 0)) := heap_new _ _
 generalize w.alloc (.cells #[.slice ra R.length c, .slice ga G.length d, .bool single] 25) = w1 at *
 refine seq_one ?_;revert hF;refine qe0 fun a hF => ?_
 have hb2 := Joins.below_alloc1 w1 (.cells #[.slice none 0 0, .int .i64 0] 31)
 have hp2 := (hb2.block _ (lt_of_block hp1)).trans hp1
 have hx2 : (w1.alloc (.cells #[.slice none 0 0, .int .i64 0] 31)).heap[w1.heap.size]? = some (.cells #[.slice none 0 0, .int .i64 0] 31 (0, 0)) := heap_new _ _
 have hB2 := hb1.trans (hb2.mono hb1.size)
 have hn1 := hb1.size
 clear hb1 hb2 hp1
 generalize w1.alloc (.cells #[.slice none 0 0, .int .i64 0] 31) = w2 at *
 generalize w1.heap.size = bx at *
 refine seq_one ?_;revert hF;refine qe0 fun a hF => ?_
 have hb3 := Joins.below_alloc1 w2 (.cells #[.slice none 0 0] 34)
 have HS : Hid (RvM w (w2.alloc (.cells #[.slice none 0 0] 34)) w.heap.size bx w2.heap.size #[.slice ra R.length c, .slice ga G.length d, .bool single] (.slice none 0 0) (.int .i64 0) (.slice none 0 0)) :=
  ⟨hB2.trans (hb3.mono hB2.size), (hb3.block _ (lt_of_block hp2)).trans hp2, (hb3.block _ (lt_of_block hx2)).trans hx2, heap_new _ _, hn1, hB2.size⟩
 clear hb3 hp2 hx2 hB2 hn1
 generalize w2.alloc (.cells #[.slice none 0 0] 34) = w3 at *
 generalize w2.heap.size = bp at *
 obtain ⟨pB, hpb⟩ : ∃ x, x = w.heap.size := ⟨_, rfl⟩
 rw [← hpb] at hF HS
 clear hpb
 revert hF;refine zre 3 [2] [1, 2, 3] fun a hF => ?_;refine hK _ _ ?_;clear hK;refine wp_seq_k (fun K hK => ?_);refine wp_seq_k (fun K hK => ?_)
 have p0 := boxed_cell (j := 0) HS.out.prob rfl
 have p1 := boxed_cell (j := 1) HS.out.prob rfl
 have p2 := boxed_cell (j := 2) HS.out.prob rfl
 revert hF;refine zrp [4] [1, 2] fun a hF => ?_;revert hF;refine zos fun K hK => ?_
 refine (refvalid_any ra ga R.length c G.length d single _ R G w3 (by omega) (by omega) (HR.out.below HS.out.below) (HG.out.below HS.out.below) rfl).mono ?_
 rintro e w4 ⟨rfl, hb⟩
 have HS := Lib.hid (HS.out.down hb)
 clear hb p0 p1 p2
 rw [HVAL.out]
 refine hK _ _ (fun a hF => ?_);clear hK K;revert hF;refine zre 2 [4] [1, 2, 3, 10] fun a hF => ?_;refine hK _ _ ?_;clear hK
 refine cond_no hF rfl ?_
 refine wp_skip ?_
 refine hK _ _ ?_;clear hK;refine wp_seq_k (fun K hK => ?_)
 have p0 := boxed_cell (j := 0) HS.out.prob rfl
 have p1 := boxed_cell (j := 1) HS.out.prob rfl
 have p2 := boxed_cell (j := 2) HS.out.prob rfl
 by_cases h40 : 40 < R.length
 ·
  have hq : (40 : Int) < (R.length : Nat) := by omega
  have hq' : decide ((40 : Int) < (R.length : Int)) = true := decide_eq_true hq
  clear hbig
  revert hF;refine zrs [4, 4, 4, 4, 1, 0, 0, 0, 0, 5] [1, 2, 3, 22] fun a hF => ?_
  clear hq hq' p0 p1 p2
  refine cond_yes hF rfl ?_
  refine wp_seq_k (fun K hK => ?_)
  have hSV := run_storeVar_row (P := Tryz.prog) w4 bx 31 31 #[.slice none 0 0, .int .i64 0] #[.slice none 0 0, .int .i64 0] HS.out.x (by kernel_rfl) rfl (by simp [Value.oneCell'])
  have HSx := Lib.hid (HS.out.setX (.slice none 0 0) (.int .i64 0))
  revert hF;refine zrp [3, 3] [2, 3, 4] fun a hF => ?_;refine seq_one ?_;refine op_storev rfl rfl hF rfl rfl rfl rfl hSV ?_;clear hF;refine fun a hF => ?_
  clear hSV HS
  generalize w4.setRow bx #[.slice none 0 0, .int .i64 0] = w20 at *
  have hSV := run_storeVar_row (P := Tryz.prog) w20 bp 34 34 #[.slice none 0 0] #[.slice none 0 0] HSx.out.y (by kernel_rfl) rfl (by simp [Value.oneCell'])
  have HSy := Lib.hid (HSx.out.setY (.slice none 0 0))
  refine seq_one ?_;refine op_storev rfl rfl hF rfl rfl rfl rfl hSV ?_;clear hF;refine fun a hF => ?_
  clear hSV HSx
  generalize w20.setRow bp #[.slice none 0 0] = w21 at *
  revert hF;refine zre 4 [2] [2, 3, 4] fun a hF => ?_;refine hK _ _ ?_;clear hK
  refine wp_ret ?_
  try simp only [then_ret, block_ret, goto_ret]
  refine ret_cct (fn := Tryz.f12) rfl hF rfl rfl rfl HSy.out.loadX HSy.out.loadY ?_
  exact ⟨rfl, HSy.out.below⟩
 ·
  have hq : ¬ (40 : Int) < (R.length : Nat) := by omega
  have hq' : decide ((40 : Int) < (R.length : Int)) = false := decide_eq_false hq
  have hq2 : (8 : Int) < (G.length : Nat) := by omega
  have hq2' : decide ((8 : Int) < (G.length : Int)) = true := decide_eq_true hq2
  clear hbig
  revert hF;refine zrs [4, 4, 4, 4, 1, 4, 4, 4, 4, 5] [1, 2, 3, 22] fun a hF => ?_
  clear hq hq' hq2 hq2' p0 p1 p2
  refine cond_yes hF rfl ?_
  refine wp_seq_k (fun K hK => ?_)
  have hSV := run_storeVar_row (P := Tryz.prog) w4 bx 31 31 #[.slice none 0 0, .int .i64 0] #[.slice none 0 0, .int .i64 0] HS.out.x (by kernel_rfl) rfl (by simp [Value.oneCell'])
  have HSx := Lib.hid (HS.out.setX (.slice none 0 0) (.int .i64 0))
  revert hF;refine zrp [3, 3] [2, 3, 4] fun a hF => ?_;refine seq_one ?_;refine op_storev rfl rfl hF rfl rfl rfl rfl hSV ?_;clear hF;refine fun a hF => ?_
  clear hSV HS
  generalize w4.setRow bx #[.slice none 0 0, .int .i64 0] = w20 at *
  have hSV := run_storeVar_row (P := Tryz.prog) w20 bp 34 34 #[.slice none 0 0] #[.slice none 0 0] HSx.out.y (by kernel_rfl) rfl (by simp [Value.oneCell'])
  have HSy := Lib.hid (HSx.out.setY (.slice none 0 0))
  refine seq_one ?_;refine op_storev rfl rfl hF rfl rfl rfl rfl hSV ?_;clear hF;refine fun a hF => ?_
  clear hSV HSx
  generalize w20.setRow bp #[.slice none 0 0] = w21 at *
  revert hF;refine zre 4 [2] [2, 3, 4] fun a hF => ?_;refine hK _ _ ?_;clear hK
  refine wp_ret ?_
  try simp only [then_ret, block_ret, goto_ret]
  refine ret_cct (fn := Tryz.f12) rfl hF rfl rfl rfl HSy.out.loadX HSy.out.loadY ?_
  exact ⟨rfl, HSy.out.below⟩
set_option maxRecDepth 100000 in
set_option maxHeartbeats 32000000 in
theorem rsolve_good (w : World) (ra ga : Option Addr) (c d : Nat) (single : Bool) (R : List Int) (G : List (Int × Int)) (hn : R.length ≤ 4000) (hm : G.length ≤ 4000) (hR : Ints w ra R.length R) (hG : Pairs w ga G.length G) (hval : validS R G = true) (hn4 : R.length ≤ 40) (hm8 : G.length ≤ 8) (hmd : G.length ≤ d) (hc : ra = none → c = 0) (hT : (stpF G (packF single G G.length 0 (R.map run0)) G.length 0 (R.map run0) 0 0).length ≤ 99999) :
  Calls Tryz.prog 12 #[.agg #[.slice ra R.length c, .slice ga G.length d, .bool single]] w fun e w' => ∃ sa sc pa pc, e = .returned (.tuple #[.agg #[.slice sa G.length sc, .int .i64 (packF single G G.length 0 (R.map run0))], .agg #[.slice pa (stpF G (packF single G G.length 0 (R.map run0)) G.length 0 (R.map run0) 0 0).length pc], .int .i64 0]) ∧ Below w.heap.size w w' ∧ Pairs w' sa G.length (solF single R G G.length 0 (R.map run0) (packF single G G.length 0 (R.map run0))) ∧ Steps w' pa (stpF G (packF single G G.length 0 (R.map run0)) G.length 0 (R.map run0) 0 0).length (stpF G (packF single G G.length 0 (R.map run0)) G.length 0 (R.map run0) 0 0) := by
 have HV := Lib.hid hval
 clear hval
 have HVO := Lib.hid (validS_parts HV.out).2.2
 obtain ⟨P, hs1, hs2, hs3, hs4, hs5⟩ := search_sol (single := single) HV.out
 have hB0 : 0 ≤ (packF single G G.length 0 (R.map run0)) ∧ (packF single G G.length 0 (R.map run0)) ≤ 12000000 * G.length := ⟨packF_start _ _, (packF_range (single := single) (k := G.length) (g := 0) (L := R.map run0) (validS_parts HV.out).2.2 (by omega)).2⟩
 have HSRC : Hid (∀ wx, Below w.heap.size w wx → Calls Tryz.prog 28 #[.agg #[.slice ra R.length c, .slice ga G.length d, .bool single], .slice none 0 0, .slice ra R.length c, .int .i64 (packF single G G.length 0 (R.map run0))] wx fun e w' => ∃ oa oc, e = .returned (.slice oa G.length oc) ∧ Below wx.heap.size wx w' ∧ Ints w' oa G.length P) := fun wx hb => by
  obtain ⟨e1, e2⟩ := run0_maps R
  refine (search_any single R G HV.out hn4 hm8 (packF single G G.length 0 (R.map run0)) (by omega) ra ga c d G.length 0 [] (R.map run0) wx none ra 0 c (by omega) rfl (At.start R G _) (run_rooms HV.out) (hR.below hb) (hG.below hb) ⟨rfl, fun k hk => absurd hk (Nat.not_lt_zero _)⟩ (by rw [e1]; exact hR.below hb) (fun _ => rfl) hc).mono ?_
  rintro e w' ⟨oa, oc, rfl, hb', hi⟩
  have e0 : valS G (dec (ix []) 0) = 0 := rfl
  rw [e0, Int.sub_zero, hs1] at hi ⊢
  have e3 : outL [] (some P) = P := rfl
  rw [e3, hs2] at hi ⊢
  exact ⟨oa, oc, rfl, hb', hi⟩
 have HCMP : Hid (∀ wx oa oc, Below w.heap.size w wx → Ints wx oa G.length P → Calls Tryz.prog 19 #[.agg #[.slice ra R.length c, .slice ga G.length d, .bool single], .slice oa G.length oc] wx fun e w' => ∃ sa sc, e = .returned (.agg #[.slice sa G.length sc, .int .i64 (packF single G G.length 0 (R.map run0))]) ∧ Below wx.heap.size wx w' ∧ Pairs w' sa G.length (solF single R G G.length 0 (R.map run0) (packF single G G.length 0 (R.map run0)))) := fun wx oa oc hb hi => by
  have := compact_any wx ra ga oa c G.length d oc single R P G (by omega) (by omega) (hG.below hb) hi (validS_parts HV.out).2.2 hs3
  rw [hs4, hs5] at this
  exact this
 have HBST : Hid (∀ wx, Below w.heap.size w wx → Calls Tryz.prog 27 #[.agg #[.slice ra R.length c, .slice ga G.length d, .bool single]] wx fun e w' => e = .returned (.int .i64 (packF single G G.length 0 (R.map run0))) ∧ Below wx.heap.size wx w') := fun wx hb => by
  have hro := rooms_of HV.out
  have := Best_any ra ga R.length c G.length d single R G wx (by omega) (by omega) (hR.below hb) (hG.below hb) (validS_parts HV.out).2.2 (fun r hr => by
   rw [ix_get hr]
   have := hro R[r] (List.getElem_mem hr)
   omega)
  rw [← pack_best] at this
  exact this
 have HPRV : Hid (∀ (wI w : World) (gw : Nat), WrkM wI w ⟨gw, ra, ga, R.length, c, G.length, d, single, (packF single G G.length 0 (R.map run0)), G⟩ [] (fun _ => False) → Ints wI ra R.length R → Pairs wI ga G.length G → Calls Tryz.prog 29 #[.pointer (some ⟨gw, 0, none⟩), .slice none 0 0] w fun e w' => e = .returned (.int .i64 0) ∧ WrkM wI w' ⟨gw, ra, ga, R.length, c, G.length, d, single, (packF single G G.length 0 (R.map run0)), G⟩ (stpF G (packF single G G.length 0 (R.map run0)) G.length 0 (R.map run0) 0 0) (fun _ => False)) := fun wI w gw hW hR hG => by
  refine (wprove_any wI ⟨gw, ra, ga, R.length, c, G.length, d, single, (packF single G G.length 0 (R.map run0)), G⟩ R HV.out hR hG hm8 hn4 hmd hc (by show 0 ≤ (packF single G G.length 0 (R.map run0)) ∧ (packF single G G.length 0 (R.map run0)) ≤ 1000000000; omega) G.length 0 [] w none 0 [] (fun _ => False) (Nat.zero_add _) (fun i hi => absurd hi (Nat.not_lt_zero _)) ⟨rfl, fun h => absurd h (Nat.not_lt_zero _)⟩ (fun _ => rfl) hW (fun b h => h.elim) (fun _ _ => by
   show 0 + (packF single G G.length 0 (R.map run0)) ≤ (packF single G G.length 0 (R.map run0))
   omega) (by
   show 0 + (stpF G (packF single G G.length 0 (R.map run0)) G.length 0 (R.map run0) 0 0).length ≤ 99999
   omega)).mono ?_
  rintro e w' ⟨rfl, hp, -⟩
  exact ⟨rfl, hp⟩
 have HTl := Lib.hid hT
 generalize hTT : (stpF G (packF single G G.length 0 (R.map run0)) G.length 0 (R.map run0) 0 0) = T at *
 generalize hSS : (solF single R G G.length 0 (R.map run0) (packF single G G.length 0 (R.map run0))) = S at *
 generalize hBB : (packF single G G.length 0 (R.map run0)) = B at *
 clear hTT hSS hBB hs1 hs2 hs3 hs4 hs5
 have HR := Lib.hid hR
 have HG := Lib.hid hG
 clear hR hG
 refine enter_fr (N := 46) [.agg #[.slice ra R.length c, .slice ga G.length d, .bool single]] (Tryz.func12) rfl Tryz.ntmps12 (by rfl) (fun a hF => ?_);replace hF := hF.kp [0] rfl;refine wp_seq_k (fun K hK => ?_);refine region_seq (l := [0, 1, 2, 3]) (by kernel_rfl) ?_;refine seq_one ?_;revert hF;refine qe1 fun a hF => ?_
 have hb1 := Joins.below_alloc1 w (.cells #[.slice ra R.length c, .slice ga G.length d, .bool single] 25)
 have hp1 : (w.alloc (.cells #[.slice ra R.length c, .slice ga G.length d, .bool single] 25)).heap[w.heap.size]? = some (.cells #[.slice ra R.length c, .slice ga G.length d, .bool single] 25 (0, 0)) := heap_new _ _
 generalize w.alloc (.cells #[.slice ra R.length c, .slice ga G.length d, .bool single] 25) = w1 at *
 refine seq_one ?_;revert hF;refine qe0 fun a hF => ?_
 have hb2 := Joins.below_alloc1 w1 (.cells #[.slice none 0 0, .int .i64 0] 31)
 have hp2 := (hb2.block _ (lt_of_block hp1)).trans hp1
 have hx2 : (w1.alloc (.cells #[.slice none 0 0, .int .i64 0] 31)).heap[w1.heap.size]? = some (.cells #[.slice none 0 0, .int .i64 0] 31 (0, 0)) := heap_new _ _
 have hB2 := hb1.trans (hb2.mono hb1.size)
 have hn1 := hb1.size
 clear hb1 hb2 hp1
 generalize w1.alloc (.cells #[.slice none 0 0, .int .i64 0] 31) = w2 at *
 generalize w1.heap.size = bx at *
 refine seq_one ?_;revert hF;refine qe0 fun a hF => ?_
 have hb3 := Joins.below_alloc1 w2 (.cells #[.slice none 0 0] 34)
 have HS : Hid (RvM w (w2.alloc (.cells #[.slice none 0 0] 34)) w.heap.size bx w2.heap.size #[.slice ra R.length c, .slice ga G.length d, .bool single] (.slice none 0 0) (.int .i64 0) (.slice none 0 0)) :=
  ⟨hB2.trans (hb3.mono hB2.size), (hb3.block _ (lt_of_block hp2)).trans hp2, (hb3.block _ (lt_of_block hx2)).trans hx2, heap_new _ _, hn1, hB2.size⟩
 clear hb3 hp2 hx2 hB2 hn1
 generalize w2.alloc (.cells #[.slice none 0 0] 34) = w3 at *
 generalize w2.heap.size = bp at *
 obtain ⟨pB, hpb⟩ : ∃ x, x = w.heap.size := ⟨_, rfl⟩
 rw [← hpb] at hF HS
 clear hpb
 revert hF;refine zre 3 [2] [1, 2, 3] fun a hF => ?_;refine hK _ _ ?_;clear hK;refine wp_seq_k (fun K hK => ?_);refine wp_seq_k (fun K hK => ?_)
 have p0 := boxed_cell (j := 0) HS.out.prob rfl
 have p1 := boxed_cell (j := 1) HS.out.prob rfl
 have p2 := boxed_cell (j := 2) HS.out.prob rfl
 revert hF;refine zrp [4] [1, 2] fun a hF => ?_;revert hF;refine zos fun K hK => ?_
 refine (refvalid_any ra ga R.length c G.length d single _ R G w3 (by omega) (by omega) (HR.out.below HS.out.below) (HG.out.below HS.out.below) rfl).mono ?_
 rintro e w4 ⟨rfl, hb⟩
 have HS := Lib.hid (HS.out.down hb)
 clear hb p0 p1 p2
 rw [HV.out]
 refine hK _ _ (fun a hF => ?_);clear hK K;revert hF;refine zre 2 [4] [1, 2, 3, 10] fun a hF => ?_;refine hK _ _ ?_;clear hK
 refine cond_no hF rfl ?_
 refine wp_skip ?_
 refine hK _ _ ?_;clear hK;refine wp_seq_k (fun K hK => ?_)
 have p0 := boxed_cell (j := 0) HS.out.prob rfl
 have p1 := boxed_cell (j := 1) HS.out.prob rfl
 have p2 := boxed_cell (j := 2) HS.out.prob rfl
 have hq : ¬ (40 : Int) < (R.length : Nat) := by omega
 have hq' : decide ((40 : Int) < (R.length : Int)) = false := decide_eq_false hq
 have hq2 : ¬ (8 : Int) < (G.length : Nat) := by omega
 have hq2' : decide ((8 : Int) < (G.length : Int)) = false := decide_eq_false hq2
 revert hF;refine zrs [4, 4, 4, 4, 1, 4, 4, 4, 4, 5] [1, 2, 3, 22] fun a hF => ?_
 clear hq hq' hq2 hq2'
 refine cond_no hF rfl ?_
 refine wp_skip ?_
 refine hK _ _ ?_;clear hK;refine wp_seq_k (fun K hK => ?_);revert hF;refine zrp [4] [1, 2] fun a hF => ?_;revert hF;refine zos fun K hK => ?_
 refine (HBST.out w4 HS.out.below).mono ?_
 rintro e w5 ⟨rfl, hb⟩
 have HS := Lib.hid (HS.out.down hb)
 clear hb p0 p1 p2
 refine hK _ _ (fun a hF => ?_);clear hK K;revert hF;refine zre 2 [2] [1, 2, 3, 5] fun a hF => ?_;refine hK _ _ ?_;clear hK
 refine seq_cut (fun a' w' => ∃ gx sa sc, FrF 46 [] [(1, .pointer (some ⟨pB, 0, none⟩)), (2, .pointer (some ⟨bx, 0, none⟩)), (3, .pointer (some ⟨bp, 0, none⟩)), (5, .int .i64 B), (6, .pointer (some ⟨gx, 0, none⟩))] a' ∧ Hid (RvM w w' pB bx bp #[.slice ra R.length c, .slice ga G.length d, .bool single] (.slice none 0 0) (.int .i64 0) (.slice none 0 0)) ∧ Hid (w'.heap[gx]? = some (.cells #[.slice sa G.length sc, .int .i64 B] 31 (0, 0))) ∧ Hid (Pairs w' sa G.length S) ∧ Hid (bx ≠ gx)) (fun KJ hKJ => ?_) ?_
 ·
  have HSd := Lib.hid (HS.out.down (below_d (Below.refl w5.heap.size w5)))
  have HST : Hid (∀ w', Below w5.drew.heap.size w5.drew w' → True ∧ w'.cell? ⟨pB, 0, none⟩ = some (.slice ra R.length c) ∧ w'.cell? ⟨pB, 1, none⟩ = some (.slice ga G.length d) ∧ w'.cell? ⟨pB, 2, none⟩ = some (.bool single)) := fun w' hb => ⟨trivial, Below.cell_of hb (boxed_cell (j := 0) HSd.out.prob rfl), Below.cell_of hb (boxed_cell (j := 1) HSd.out.prob rfl), Below.cell_of hb (boxed_cell (j := 2) HSd.out.prob rfl)⟩
  refine region_any (by kernel_rfl) ?_;generalize w5.drew = wd at *;revert hF;refine zhc (fuel := 4) (fun w' => True ∧ w'.cell? ⟨pB, 0, none⟩ = some (.slice ra R.length c) ∧ w'.cell? ⟨pB, 1, none⟩ = some (.slice ga G.length d) ∧ w'.cell? ⟨pB, 2, none⟩ = some (.bool single)) (HST.out _ (Below.refl _ _)) [3, 19, 40, 51, 65] fun a hF => ?_;refine held_two (n := 5) (m := 7) (fuel := 3) (by kernel_rfl) ?_ ?_
  ·
   revert hF;refine zoc fun K hK => ?_
   refine (HSRC.out wd (HSd.out.below.trans ((Below.refl wd.heap.size wd).mono HSd.out.below.size))).mono ?_
   rintro e y1 ⟨oa, oc, rfl, hb9, hi9⟩
   have HBy1 := Lib.hid ((Below.refl wd.heap.size wd).trans (hb9.mono (Below.refl wd.heap.size wd).size))
   have HI := Lib.hid hi9
   clear hb9 hi9
   refine hK _ _ (fun a hF => ⟨?_, ?_⟩)
   ·
    intro _
    exact HST.out _ HBy1.out
   clear hK K
   revert hF;refine zhg (fuel := 3) (HST.out _ HBy1.out) [] fun a hF => ?_;refine held_two (n := 6) (m := 7) (fuel := 2) (by kernel_rfl) ?_ ?_
   ·
    revert hF;refine zoc fun K hK => ?_
    refine (HCMP.out y1 oa oc (HSd.out.below.trans (HBy1.out.mono HSd.out.below.size)) HI.out).mono ?_
    rintro e y2 ⟨sa, sc, rfl, hb9, hi9⟩
    have HBy2 := Lib.hid (HBy1.out.trans (hb9.mono HBy1.out.size))
    have HPS := Lib.hid hi9
    clear hb9 hi9
    refine hK _ _ (fun a hF => ⟨?_, ?_⟩)
    ·
     intro _
     exact HST.out _ HBy2.out
    clear hK K
    revert hF;refine zhg (fuel := 2) (HST.out _ HBy2.out) [] fun a hF => ?_;refine held_one (n := 7) (fuel := 1) (by kernel_rfl) ?_;revert hF;refine qe0 fun a hF => ⟨?_, ?_⟩
    ·
     intro _
     exact HST.out _ (HBy2.out.trans ((Joins.below_alloc1 y2 (.cells #[.slice none 0 0, .int .i64 0] 31)).mono HBy2.out.size))
    have hbx := HBy2.out.trans ((Joins.below_alloc1 y2 (.cells #[.slice none 0 0, .int .i64 0] 31)).mono HBy2.out.size)
    have hx0 : (y2.alloc (.cells #[.slice none 0 0, .int .i64 0] 31)).heap[y2.heap.size]? = some (.cells #[.slice none 0 0, .int .i64 0] 31 (0, 0)) := heap_new _ _
    have hz1 : wd.heap.size ≤ y2.heap.size := HBy2.out.size
    have HPS := Lib.hid (HPS.out.below (Joins.below_alloc1 y2 (.cells #[.slice none 0 0, .int .i64 0] 31)))
    generalize y2.alloc (.cells #[.slice none 0 0, .int .i64 0] 31) = y3 at *
    obtain ⟨gx, hgx⟩ : ∃ g, g = y2.heap.size := ⟨_, rfl⟩
    have hz0 : wd.heap.size ≤ gx := by rw [hgx]; exact hz1
    rw [← hgx] at hF hx0
    have HX0 := Lib.hid hx0
    have HZ0 := Lib.hid hz0
    have HBy3 := Lib.hid hbx
    clear hgx hx0 hz0 hz1 hbx
    have hSV := run_storeVar_row (P := Tryz.prog) y3 gx 31 31 #[.slice none 0 0, .int .i64 0] #[.slice sa G.length sc, .int .i64 B] HX0.out (by kernel_rfl) rfl (by simp [Value.oneCell'])
    have HROW := Lib.hid (setRow_heap y3 gx #[.slice none 0 0, .int .i64 0] #[.slice sa G.length sc, .int .i64 B] _ (0, 0) HX0.out)
    have HBF : Hid (Below wd.heap.size wd (y3.setRow gx #[.slice sa G.length sc, .int .i64 B])) := below_setRow HBy3.out HZ0.out _
    have HPF : Hid (Pairs (y3.setRow gx #[.slice sa G.length sc, .int .i64 B]) sa G.length S) := pairs_row HX0.out (fun j x y h1 h2 => by
     match j, h1, h2 with
     | 0, h1, _ => simp at h1
     | j + 1, _, h2 => simp at h2) HPS.out
    refine held_one (n := 8) (fuel := 0) (by kernel_rfl) ?_;refine op_storev rfl rfl hF rfl rfl rfl rfl hSV ?_;clear hF;refine fun a hF => ⟨?_, ?_⟩
    ·
     intro _
     exact HST.out _ HBF.out
    clear hSV
    refine held_end (by kernel_rfl) ?_;replace hF := hF.kp [1, 2, 3, 5, 6] rfl
    exact hKJ _ _ ⟨gx, sa, sc, hF, HSd.out.down HBF.out, HROW.out, HPF.out, fun e => by
     have h1 := lt_of_block HSd.out.x
     have h2 := HZ0.out
     omega⟩
   ·
    revert hF;refine qe0 fun a hF => ⟨?_, ?_⟩
    ·
     intro _
     exact HST.out _ (HBy1.out.trans ((Joins.below_alloc1 y1 (.cells #[.slice none 0 0, .int .i64 0] 31)).mono HBy1.out.size))
    have hbx := HBy1.out.trans ((Joins.below_alloc1 y1 (.cells #[.slice none 0 0, .int .i64 0] 31)).mono HBy1.out.size)
    have hx0 : (y1.alloc (.cells #[.slice none 0 0, .int .i64 0] 31)).heap[y1.heap.size]? = some (.cells #[.slice none 0 0, .int .i64 0] 31 (0, 0)) := heap_new _ _
    have hz1 : wd.heap.size ≤ y1.heap.size := HBy1.out.size
    have HI := Lib.hid (HI.out.below (Joins.below_alloc1 y1 (.cells #[.slice none 0 0, .int .i64 0] 31)))
    generalize y1.alloc (.cells #[.slice none 0 0, .int .i64 0] 31) = y2 at *
    obtain ⟨gx, hgx⟩ : ∃ g, g = y1.heap.size := ⟨_, rfl⟩
    have hz0 : wd.heap.size ≤ gx := by rw [hgx]; exact hz1
    rw [← hgx] at hF hx0
    have HX0 := Lib.hid hx0
    have HZ0 := Lib.hid hz0
    have HBy2 := Lib.hid hbx
    clear hgx hx0 hz0 hz1 hbx
    refine held_one (n := 6) (fuel := 1) (by kernel_rfl) ?_;revert hF;refine zoc fun K hK => ?_
    refine (HCMP.out y2 oa oc (HSd.out.below.trans (HBy2.out.mono HSd.out.below.size)) HI.out).mono ?_
    rintro e y3 ⟨sa, sc, rfl, hb9, hi9⟩
    have HBy3 := Lib.hid (HBy2.out.trans (hb9.mono HBy2.out.size))
    have HPS := Lib.hid hi9
    have HX0 := Lib.hid ((hb9.block gx (lt_of_block HX0.out)).trans HX0.out)
    clear hb9 hi9
    refine hK _ _ (fun a hF => ⟨?_, ?_⟩)
    ·
     intro _
     exact HST.out _ HBy3.out
    clear hK K
    have hSV := run_storeVar_row (P := Tryz.prog) y3 gx 31 31 #[.slice none 0 0, .int .i64 0] #[.slice sa G.length sc, .int .i64 B] HX0.out (by kernel_rfl) rfl (by simp [Value.oneCell'])
    have HROW := Lib.hid (setRow_heap y3 gx #[.slice none 0 0, .int .i64 0] #[.slice sa G.length sc, .int .i64 B] _ (0, 0) HX0.out)
    have HBF : Hid (Below wd.heap.size wd (y3.setRow gx #[.slice sa G.length sc, .int .i64 B])) := below_setRow HBy3.out HZ0.out _
    have HPF : Hid (Pairs (y3.setRow gx #[.slice sa G.length sc, .int .i64 B]) sa G.length S) := pairs_row HX0.out (fun j x y h1 h2 => by
     match j, h1, h2 with
     | 0, h1, _ => simp at h1
     | j + 1, _, h2 => simp at h2) HPS.out
    revert hF;refine zhg (fuel := 1) (HST.out _ HBy3.out) [] fun a hF => ?_;refine held_one (n := 8) (fuel := 0) (by kernel_rfl) ?_;refine op_storev rfl rfl hF rfl rfl rfl rfl hSV ?_;clear hF;refine fun a hF => ⟨?_, ?_⟩
    ·
     intro _
     exact HST.out _ HBF.out
    clear hSV
    refine held_end (by kernel_rfl) ?_;replace hF := hF.kp [1, 2, 3, 5, 6] rfl
    exact hKJ _ _ ⟨gx, sa, sc, hF, HSd.out.down HBF.out, HROW.out, HPF.out, fun e => by
     have h1 := lt_of_block HSd.out.x
     have h2 := HZ0.out
     omega⟩
  ·
   revert hF;refine qe0 fun a hF => ⟨?_, ?_⟩
   ·
    intro _
    exact HST.out _ ((Below.refl wd.heap.size wd).trans ((Joins.below_alloc1 wd (.cells #[.slice none 0 0, .int .i64 0] 31)).mono (Below.refl wd.heap.size wd).size))
   have hbx := (Below.refl wd.heap.size wd).trans ((Joins.below_alloc1 wd (.cells #[.slice none 0 0, .int .i64 0] 31)).mono (Below.refl wd.heap.size wd).size)
   have hx0 : (wd.alloc (.cells #[.slice none 0 0, .int .i64 0] 31)).heap[wd.heap.size]? = some (.cells #[.slice none 0 0, .int .i64 0] 31 (0, 0)) := heap_new _ _
   have hz1 : wd.heap.size ≤ wd.heap.size := (Below.refl wd.heap.size wd).size
   generalize wd.alloc (.cells #[.slice none 0 0, .int .i64 0] 31) = y1 at *
   obtain ⟨gx, hgx⟩ : ∃ g, g = wd.heap.size := ⟨_, rfl⟩
   have hz0 : wd.heap.size ≤ gx := by rw [hgx]; exact hz1
   rw [← hgx] at hF hx0
   have HX0 := Lib.hid hx0
   have HZ0 := Lib.hid hz0
   have HBy1 := Lib.hid hbx
   clear hgx hx0 hz0 hz1 hbx
   refine held_one (n := 5) (fuel := 2) (by kernel_rfl) ?_;revert hF;refine zoc fun K hK => ?_
   refine (HSRC.out y1 (HSd.out.below.trans (HBy1.out.mono HSd.out.below.size))).mono ?_
   rintro e y2 ⟨oa, oc, rfl, hb9, hi9⟩
   have HBy2 := Lib.hid (HBy1.out.trans (hb9.mono HBy1.out.size))
   have HI := Lib.hid hi9
   have HX0 := Lib.hid ((hb9.block gx (lt_of_block HX0.out)).trans HX0.out)
   clear hb9 hi9
   refine hK _ _ (fun a hF => ⟨?_, ?_⟩)
   ·
    intro _
    exact HST.out _ HBy2.out
   clear hK K
   revert hF;refine zhg (fuel := 2) (HST.out _ HBy2.out) [] fun a hF => ?_;refine held_one (n := 6) (fuel := 1) (by kernel_rfl) ?_;revert hF;refine zoc fun K hK => ?_
   refine (HCMP.out y2 oa oc (HSd.out.below.trans (HBy2.out.mono HSd.out.below.size)) HI.out).mono ?_
   rintro e y3 ⟨sa, sc, rfl, hb9, hi9⟩
   have HBy3 := Lib.hid (HBy2.out.trans (hb9.mono HBy2.out.size))
   have HPS := Lib.hid hi9
   have HX0 := Lib.hid ((hb9.block gx (lt_of_block HX0.out)).trans HX0.out)
   clear hb9 hi9
   refine hK _ _ (fun a hF => ⟨?_, ?_⟩)
   ·
    intro _
    exact HST.out _ HBy3.out
   clear hK K
   have hSV := run_storeVar_row (P := Tryz.prog) y3 gx 31 31 #[.slice none 0 0, .int .i64 0] #[.slice sa G.length sc, .int .i64 B] HX0.out (by kernel_rfl) rfl (by simp [Value.oneCell'])
   have HROW := Lib.hid (setRow_heap y3 gx #[.slice none 0 0, .int .i64 0] #[.slice sa G.length sc, .int .i64 B] _ (0, 0) HX0.out)
   have HBF : Hid (Below wd.heap.size wd (y3.setRow gx #[.slice sa G.length sc, .int .i64 B])) := below_setRow HBy3.out HZ0.out _
   have HPF : Hid (Pairs (y3.setRow gx #[.slice sa G.length sc, .int .i64 B]) sa G.length S) := pairs_row HX0.out (fun j x y h1 h2 => by
    match j, h1, h2 with
    | 0, h1, _ => simp at h1
    | j + 1, _, h2 => simp at h2) HPS.out
   revert hF;refine zhg (fuel := 1) (HST.out _ HBy3.out) [] fun a hF => ?_;refine held_one (n := 8) (fuel := 0) (by kernel_rfl) ?_;refine op_storev rfl rfl hF rfl rfl rfl rfl hSV ?_;clear hF;refine fun a hF => ⟨?_, ?_⟩
   ·
    intro _
    exact HST.out _ HBF.out
   clear hSV
   refine held_end (by kernel_rfl) ?_;replace hF := hF.kp [1, 2, 3, 5, 6] rfl
   exact hKJ _ _ ⟨gx, sa, sc, hF, HSd.out.down HBF.out, HROW.out, HPF.out, fun e => by
    have h1 := lt_of_block HSd.out.x
    have h2 := HZ0.out
    omega⟩
 clear hF HS
 rintro a w6 ⟨gx, sa, sc, hF, HS, HX, HPR, HNE⟩
 have p0 := boxed_cell (j := 0) HS.out.prob rfl
 have p1 := boxed_cell (j := 1) HS.out.prob rfl
 have p2 := boxed_cell (j := 2) HS.out.prob rfl
 refine wp_seq_k (fun K hK => ?_);revert hF;refine zrp [4, 1, 5] [3, 4] fun a hF => ?_;refine seq_one ?_;revert hF;refine qe0 fun a hF => ?_
 obtain ⟨wa, gw, hwa, hgv, hSV, HTW⟩ := var_new w6 68 #[.slice none 0 0, .slice none 0 0, .bool false, .int .i64 0, .slice none 0 0, .bool false] #[.slice ra R.length c, .slice ga G.length d, .bool single, .int .i64 B, .slice none 0 0, .bool false] (by kernel_rfl) rfl (by simp [Value.oneCell'])
 rw [hwa]
 rw [← hgv] at hF
 clear hwa hgv
 refine seq_one ?_;refine op_storev rfl rfl hF rfl rfl rfl rfl hSV ?_;clear hF;refine fun a hF => ?_
 clear hSV
 refine hK _ _ ?_;clear hK
 generalize wa.setRow gw #[.slice ra R.length c, .slice ga G.length d, .bool single, .int .i64 B, .slice none 0 0, .bool false] = w7 at *
 clear p0 p1 p2
 have HW : Hid (WrkM w6 w7 ⟨gw, ra, ga, R.length, c, G.length, d, single, B, G⟩ [] (fun _ => False)) := ⟨HTW.out.1, HTW.out.2.2, .slice none 0 0, [], HTW.out.2.1, nil_row, rfl, fun i h1 h2 => absurd h1 (Nat.not_lt_zero _)⟩
 clear HTW
 refine wp_seq_k (fun K hK => ?_);refine region_seq (l := [0]) (by kernel_rfl) ?_;revert hF;refine zos fun K hK => ?_
 refine (HPRV.out w6 w7 gw HW.out (HR.out.below HS.out.below) (HG.out.below HS.out.below)).mono ?_
 rintro e w8 ⟨rfl, hp⟩
 have HW8 := Lib.hid hp
 clear hp HW
 have HS8 := Lib.hid (HS.out.down HW8.out.below)
 have HX8 := Lib.hid ((HW8.out.below.block gx (lt_of_block HX.out)).trans HX.out)
 have HP8 := Lib.hid (HPR.out.below HW8.out.below)
 clear HS HX HPR
 refine hK _ _ (fun a hF => ?_);clear hK K;refine seq_end ?_;replace hF := hF.kp [2, 3, 6, 7] rfl;refine hK _ _ ?_;clear hK
 obtain ⟨pa, l, pc, hbx, hl, hst⟩ := wsteps_mem HW8.out
 have HBX := Lib.hid hbx
 have HL := Lib.hid hl
 have HSTP := Lib.hid hst
 clear hbx hl hst
 refine wp_seq_k (fun K hK => ?_)
 have b5 := boxed_cell (j := 5) HBX.out rfl
 revert hF;refine zrs [4, 4] [2, 3, 6, 7, 39] fun a hF => ?_
 clear b5
 refine cond_no hF rfl ?_
 refine wp_skip ?_
 refine hK _ _ ?_;clear hK
 have hbd := below_d (Below.refl w8.heap.size w8)
 have HSd := Lib.hid (HS8.out.down hbd)
 have HPd := Lib.hid (HP8.out.below hbd)
 have HSTd : Hid (∀ w', (∀ (b : Nat) (arr : Array Value) (Ty : TypeId), w8.drew.heap[b]? = some (.cells arr Ty (0, 0)) → Ty = 3 ∨ Ty = 71 → w'.heap[b]? = some (.cells arr Ty (0, 0))) → Steps w' pa l T) := fun w' h => HSTP.out w' h
 have HXd : Hid (w8.drew.heap[gx]? = some (.cells #[.slice sa G.length sc, .int .i64 B] 31 (0, 0))) := HX8.out
 have HBd : Hid (w8.drew.heap[gw]? = some (.cells #[.slice ra R.length c, .slice ga G.length d, .bool single, .int .i64 B, .slice pa l pc, .bool false] 68 (0, 0))) := HBX.out
 clear HW8 HS8 HX8 HP8 HBX HSTP hbd
 have HSS : Hid (∀ w' : World, w'.heap[gx]? = some (.cells #[.slice sa G.length sc, .int .i64 B] 31 (0, 0)) → w'.heap[gw]? = some (.cells #[.slice ra R.length c, .slice ga G.length d, .bool single, .int .i64 B, .slice pa l pc, .bool false] 68 (0, 0)) → True ∧ w'.cell? ⟨gx, 0, none⟩ = some (.slice sa G.length sc) ∧ w'.cell? ⟨gx, 1, none⟩ = some (.int .i64 B) ∧ w'.cell? ⟨gw, 4, none⟩ = some (.slice pa l pc)) := fun w' h1 h2 => ⟨trivial, boxed_cell (j := 0) h1 rfl, boxed_cell (j := 1) h1 rfl, boxed_cell (j := 4) h2 rfl⟩
 have hSV := run_storeVar_row (P := Tryz.prog) w8.drew bx 31 31 #[.slice none 0 0, .int .i64 0] #[.slice sa G.length sc, .int .i64 B] HSd.out.x (by kernel_rfl) rfl (by simp [Value.oneCell'])
 have ht1 := tupd_row HSd.out.x #[.slice sa G.length sc, .int .i64 B]
 have HS20 := Lib.hid (HSd.out.setX (.slice sa G.length sc) (.int .i64 B))
 have HP20 := Lib.hid (HSd.out.pairsX (B := #[.slice sa G.length sc, .int .i64 B]) HPd.out)
 have HB20 := Lib.hid (ht1.keep HBd.out (by decide))
 have HX20 : Hid ((w8.drew.setRow bx #[.slice sa G.length sc, .int .i64 B]).heap[gx]? = some (.cells #[.slice sa G.length sc, .int .i64 B] 31 (0, 0))) := by
  have : (w8.drew.setRow bx #[.slice sa G.length sc, .int .i64 B]).heap[gx]? = w8.drew.heap[gx]? := by simp [World.setRow, Array.getElem?_modify, HNE.out]
  exact this.trans HXd.out
 have HST20 : Hid (∀ w', (∀ (b : Nat) (arr : Array Value) (Ty : TypeId), (w8.drew.setRow bx #[.slice sa G.length sc, .int .i64 B]).heap[b]? = some (.cells arr Ty (0, 0)) → Ty = 3 ∨ Ty = 71 → w'.heap[b]? = some (.cells arr Ty (0, 0))) → Steps w' pa l T) := fun w' h => HSTd.out w' fun b arr Ty hb hTy => h b arr Ty (by rcases hTy with rfl | rfl <;> exact ht1.keep hb (by decide)) hTy
 clear ht1
 refine wp_seq_k (fun K hK => ?_);refine region_any (by kernel_rfl) ?_;generalize w8.drew = wd at *;revert hF;refine zhc (fuel := 3) (fun w' => True ∧ w'.cell? ⟨gx, 0, none⟩ = some (.slice sa G.length sc) ∧ w'.cell? ⟨gx, 1, none⟩ = some (.int .i64 B) ∧ w'.cell? ⟨gw, 4, none⟩ = some (.slice pa l pc)) (HSS.out _ HXd.out HBd.out) [3, 24, 35, 56] fun a hF => ?_;refine held_one (n := 4) (fuel := 2) (by kernel_rfl) ?_;refine op_storev rfl rfl hF rfl rfl rfl rfl hSV ?_;clear hF;refine fun a hF => ⟨?_, ?_⟩
 ·
  intro _
  exact HSS.out _ HX20.out HB20.out
 clear hSV HSd HPd HBd HXd HSTd
 generalize wd.setRow bx #[.slice sa G.length sc, .int .i64 B] = w20 at *
 have hSV := run_storeVar_row (P := Tryz.prog) w20 bp 34 34 #[.slice none 0 0] #[.slice pa l pc] HS20.out.y (by kernel_rfl) rfl (by simp [Value.oneCell'])
 have ht2 := tupd_row HS20.out.y #[.slice pa l pc]
 have HS21 := Lib.hid (HS20.out.setY (.slice pa l pc))
 have HP21 := Lib.hid (HS20.out.pairsY (B := #[.slice pa l pc]) HP20.out)
 have HSP21 : Hid (Steps (w20.setRow bp #[.slice pa l pc]) pa l T) := HST20.out _ fun b arr Ty hb hTy => by rcases hTy with rfl | rfl <;> exact ht2.keep hb (by decide)
 have HK21 := Lib.hid (HSS.out _ (ht2.keep HX20.out (by decide)) (ht2.keep HB20.out (by decide)))
 clear ht2
 refine held_one (n := 5) (fuel := 1) (by kernel_rfl) ?_;refine op_storev rfl rfl hF rfl rfl rfl rfl hSV ?_;clear hF;refine fun a hF => ⟨?_, ?_⟩
 ·
  intro _
  exact HK21.out
 clear hSV
 generalize w20.setRow bp #[.slice pa l pc] = w21 at *
 revert hF;refine zhg (fuel := 0) HK21.out [98] fun a hF => ?_;refine held_end (by kernel_rfl) ?_;replace hF := hF.kp [2, 3, 4] rfl;refine hK _ _ ?_;clear hK
 refine wp_ret ?_
 try simp only [then_ret, block_ret, goto_ret]
 refine ret_cct (fn := Tryz.f12) rfl hF rfl rfl rfl HS21.out.loadX HS21.out.loadY ?_
 rw [← HL.out]
 exact ⟨sa, sc, pa, pc, rfl, HS21.out.below, HP21.out, HSP21.out⟩
end Go.Proofs.YthabgljdndbphaaGreatDoor
