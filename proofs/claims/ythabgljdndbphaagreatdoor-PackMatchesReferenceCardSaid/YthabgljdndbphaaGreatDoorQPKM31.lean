/- pack.Solve: the walk. -/
import Derived.Test.YthabgljdndbphaaGreatDoorQPKM30

set_option linter.unusedVariables false
set_option linter.unusedSimpArgs false
namespace Go.Proofs.YthabgljdndbphaaGreatDoor
open Go.RowKit Go.IntWalk Go.Maps Go.WideMaps
set_option linter.unusedSimpArgs false
set_option linter.unusedVariables false

section
variable {P : Program} {Q : Exit → Act → World → Prop} {N : Nat} {e : List (Nat × Value)} {w : World} {a : Act} {fn : Func} {R : Ending → World → Prop}
/-- Only on. -/
def NQ (R : Act → World → Prop) : Exit → Act → World → Prop
 | .normal, a, w => R a w
 | _, _, _ => False
theorem seq_np {x y : Code} (h1 : ∀ K : Act → World → Prop, (∀ a' w', y.wp P Q a' w' → K a' w') → x.wp P (NQ K) a w) : (Code.seq x y).wp P Q a w :=
 wp_seq (wp_mono (h1 _ fun _ _ h => h) fun e a' w' q => by
  cases e with
  | normal => exact q
  | _ => exact q.elim)
theorem ret_leaves {ds : List Deferred} (hF : FrF N ds e a) (h : Leaves P fn a.tmps R ds .returning w) : bodyPostD P fn R .ret a w := by
 show Leaves P fn a.tmps R a.defers .returning w
 rw [hF.defers]
 exact h
theorem panic_leaves {ds : List Deferred} {c : List PanicEntry} (hF : FrF N ds e a) (h : Leaves P fn a.tmps R ds (.panicking c) w) : bodyPostD P fn R (.panic c) a w := by
 show Leaves P fn a.tmps R a.defers (.panicking c) w
 rw [hF.defers]
 exact h
end
theorem steps_mem {wI w : World} {A : PA} {T : List StepT} {X : Nat → Prop} (h : PrvM wI w A T X) : ∃ pa l pc, w.heap[A.wb]? = some (.cells #[.slice A.ra A.rn A.rc, .slice A.ga A.m A.gc, .bool A.single, .int .i64 A.val, .slice pa l pc] 60 (0, 0)) ∧ l = T.length ∧
  ∀ w', (∀ (b : Nat) (arr : Array Value) (Ty : TypeId), w.heap[b]? = some (.cells arr Ty (0, 0)) → Ty = 3 ∨ Ty = 71 → w'.heap[b]? = some (.cells arr Ty (0, 0))) → Steps w' pa l T := by
 obtain ⟨v, Tr, hbx, ho, hs⟩ := h.box
 obtain ⟨la, c, rfl, _⟩ := Rcs.of_own ho
 have hl := hs.1
 rw [hl] at hbx ho
 refine ⟨la, T.length, c, hbx, rfl, fun w' hk => ⟨rfl, fun n hn => ?_⟩⟩
 have hn2 : n < Tr.length := by rw [hl]; exact hn
 obtain ⟨gS, c2, e, _, _, _, hrow⟩ := RecRow.of_row (by omega) ho
 cases e
 have hst := hs.2 n hn2 hn
 have hsa : stepAt T n = T[n] := by unfold stepAt; simp [hn]
 rw [hsa]
 have hcell : ∀ (b o : Nat) (v : Value), w.cell? ⟨b, o, none⟩ = some v → (∀ cur, w.heap[b]? = some (.cells cur 3 (0, 0)) ∨ w.heap[b]? = some (.cells cur 71 (0, 0)) → True) → (∃ cur Ty, w.heap[b]? = some (.cells cur Ty (0, 0)) ∧ (Ty = 3 ∨ Ty = 71)) → w'.cell? ⟨b, o, none⟩ = some v := fun b o v hc _ ⟨cur, Ty, h1, h2⟩ => by
  rw [World.cell?_of_block (w := w) (w' := w') (a := ⟨b, o, none⟩) (by rw [hk b cur Ty h1 h2, h1])]
  exact hc
 obtain ⟨curS, hcS⟩ := own_type ho (r := gS) rfl
 have k0 := hrow.cell n 0 hn2 (by omega)
 have k1 := hrow.cell n 1 hn2 (by omega)
 have k2 := hrow.cell n 2 hn2 (by omega)
 rw [rc_eq _ _ hn2] at k0 k1 k2
 have e0 : (StepE.cells Tr[n]).getD 0 (.bool false) = .int .i64 T[n].kind := by rw [← hst.kind]; rfl
 have e1 : (StepE.cells Tr[n]).getD 1 (.bool false) = .int .i64 T[n].group := by rw [← hst.group]; rfl
 have e2 : (StepE.cells Tr[n]).getD 2 (.bool false) = .slice Tr[n].ka T[n].kids.length Tr[n].kc := by rw [← hst.num]; rfl
 rw [e0] at k0
 rw [e1] at k1
 rw [e2] at k2
 refine ⟨gS, 0, Tr[n].ka, Tr[n].kc, rfl, ?_, ?_, ?_, ?_⟩
 ·
  rw [Nat.zero_add]
  exact hcell _ _ _ k0 (fun _ _ => trivial) ⟨curS, _, hcS, Or.inr rfl⟩
 ·
  rw [Nat.zero_add]
  exact hcell _ _ _ k1 (fun _ _ => trivial) ⟨curS, _, hcS, Or.inr rfl⟩
 ·
  rw [Nat.zero_add]
  exact hcell _ _ _ k2 (fun _ _ => trivial) ⟨curS, _, hcS, Or.inr rfl⟩
 ·
  have hkd := hst.kids
  rw [hst.num] at hkd
  have hkd2 : w.ownsRow wI.heap.size 3 1 (.slice Tr[n].ka T[n].kids.length Tr[n].kc) T[n].kids.length (flat IntE T[n].kids) := by rw [flat_int]; exact hkd
  obtain ⟨la2, c3, e3, hrc, _⟩ := Rcs.of_own hkd2
  cases e3
  refine ⟨rfl, fun j hj => ?_⟩
  obtain ⟨b, o, e4, cc⟩ := hrc.2 j hj
  have c0 := cc 0 (by omega)
  rw [rc_eq _ _ hj] at c0
  refine ⟨b, o, e4, ?_⟩
  have ej : ix T[n].kids j = T[n].kids[j] := ix_get hj
  rw [ej]
  rw [Nat.mul_one, Nat.add_zero] at c0
  refine hcell b (o + j) _ c0 (fun _ _ => trivial) ?_
  obtain ⟨cur, hc⟩ := own_type hkd (r := b) (by rw [e4]; rfl)
  exact ⟨cur, _, hc, Or.inl rfl⟩
set_option maxRecDepth 100000 in
set_option maxHeartbeats 8000000 in
theorem solve_bad (w : World) (ra ga : Option Addr) (c m d : Nat) (single : Bool) (R : List Int) (G : List (Int × Int)) (hn : R.length ≤ 4000) (hm : m ≤ 4000) (hR : Ints w ra R.length R) (hG : Pairs w ga m G) (hbad : validS R G = false) :
  Calls Tryz.prog 11 #[.agg #[.slice ra R.length c, .slice ga m d, .bool single]] w fun e w' => e = .returned (.tuple #[.agg #[.slice none 0 0, .int .i64 0], .agg #[.slice none 0 0], .int .i64 1]) ∧ Below w.heap.size w w' := by
 have HR := Lib.hid hR
 have HG := Lib.hid hG
 have HBAD := Lib.hid hbad
 clear hR hG hbad
 refine enter_frD (N := 60) [.agg #[.slice ra R.length c, .slice ga m d, .bool single]] (Tryz.func11) rfl Tryz.ntmps11 (by rfl) (fun a hF => ?_)
 replace hF := hF.kp [0] rfl;refine wp_seq_k (fun K hK => ?_);refine region_seq (l := [0, 1, 2, 3]) (by kernel_rfl) ?_;refine seq_one ?_;revert hF;refine qe1 fun a hF => ?_
 have hb1 := Joins.below_alloc1 w (.cells #[.slice ra R.length c, .slice ga m d, .bool single] 25)
 have hp1 : (w.alloc (.cells #[.slice ra R.length c, .slice ga m d, .bool single] 25)).heap[w.heap.size]? = some (.cells #[.slice ra R.length c, .slice ga m d, .bool single] 25 (0, 0)) := heap_new _ _
 generalize w.alloc (.cells #[.slice ra R.length c, .slice ga m d, .bool single] 25) = w1 at *
 refine seq_one ?_;revert hF;refine qe0 fun a hF => ?_
 have hb2 := Joins.below_alloc1 w1 (.cells #[.slice none 0 0, .int .i64 0] 31)
 have hp2 := (hb2.block _ (lt_of_block hp1)).trans hp1
 have hx2 : (w1.alloc (.cells #[.slice none 0 0, .int .i64 0] 31)).heap[w1.heap.size]? = some (.cells #[.slice none 0 0, .int .i64 0] 31 (0, 0)) := heap_new _ _
 have hB2 := hb1.trans (hb2.mono hb1.size)
 have hn1 := hb1.size
 clear hb1 hb2 hp1
 generalize w1.alloc (.cells #[.slice none 0 0, .int .i64 0] 31) = w2 at *
 generalize w1.heap.size = bx at *
 refine seq_one ?_;revert hF;refine qe0 fun a hF => ?_
 have hb3 := Joins.below_alloc1 w2 (.cells #[.slice none 0 0] 34)
 have hp3 := (hb3.block _ (lt_of_block hp2)).trans hp2
 have hx3 := (hb3.block _ (lt_of_block hx2)).trans hx2
 have hy3 : (w2.alloc (.cells #[.slice none 0 0] 34)).heap[w2.heap.size]? = some (.cells #[.slice none 0 0] 34 (0, 0)) := heap_new _ _
 have hB3 := hB2.trans (hb3.mono hB2.size)
 have hn2 := hB2.size
 clear hb3 hp2 hx2 hB2
 generalize w2.alloc (.cells #[.slice none 0 0] 34) = w3 at *
 generalize w2.heap.size = bp at *
 refine seq_one ?_;revert hF;refine qe0 fun a hF => ?_
 have hb4 := Joins.below_alloc1 w3 (.cells #[.int .i64 0] 35)
 have HS : Hid (SvM w (w3.alloc (.cells #[.int .i64 0] 35)) w.heap.size bx bp w3.heap.size #[.slice ra R.length c, .slice ga m d, .bool single] (.slice none 0 0) (.int .i64 0) (.slice none 0 0) (.int .i64 0)) :=
  ⟨hB3.trans (hb4.mono hB3.size), (hb4.block _ (lt_of_block hp3)).trans hp3, (hb4.block _ (lt_of_block hx3)).trans hx3, (hb4.block _ (lt_of_block hy3)).trans hy3, heap_new _ _, hn1, hn2, hB3.size⟩
 clear hb4 hp3 hx3 hy3 hB3 hn1 hn2
 generalize w3.alloc (.cells #[.int .i64 0] 35) = w4 at *
 generalize w3.heap.size = be at *
 obtain ⟨pB, hpb⟩ : ∃ x, x = w.heap.size := ⟨_, rfl⟩
 rw [← hpb] at hF HS
 clear hpb
 refine seq_end ?_;replace hF := hF.kp [1, 2, 3, 4] rfl;refine hK _ _ ?_;clear hK;refine wp_seq_k (fun K hK => ?_)
 refine wp_block ?_
 refine wp_seq_k (fun K hK => ?_)
 have p0 := boxed_cell (j := 0) HS.out.prob rfl
 have p1 := boxed_cell (j := 1) HS.out.prob rfl
 have p2 := boxed_cell (j := 2) HS.out.prob rfl
 revert hF;refine zrp [4] [1, 2, 3] fun a hF => ?_;revert hF;refine zos fun K hK => ?_
 refine (valid_any ra ga R.length c m d single false R G w4 hn hm (HR.out.below HS.out.below) (HG.out.below HS.out.below) HBAD.out).mono ?_
 rintro e w5 ⟨rfl, hb5⟩
 have HS5 := Lib.hid (HS.out.down hb5)
 clear p0 p1 p2 HS hb5
 refine hK _ _ (fun a hF => ?_);clear hK K;revert hF;refine zre 2 [4, 2] [1, 2, 3, 4, 9] fun a hF => ?_;refine hK _ _ ?_;clear hK
 refine cond_yes hF rfl ?_
 have hbd := below_d (Below.refl w5.heap.size w5)
 have HSd := Lib.hid (HS5.out.down hbd)
 clear HS5 hbd
 refine seq_np (fun K hK => ?_)
 have hSV := run_storeVar_row (P := Tryz.prog) w5.drew bx 31 31 #[.slice none 0 0, .int .i64 0] #[.slice none 0 0, .int .i64 0] HSd.out.x (by kernel_rfl) rfl (by simp [Value.oneCell'])
 have HSx := Lib.hid (HSd.out.setX (.slice none 0 0) (.int .i64 0))
 have HSS : Hid (∀ w' u1 u2 v1 z1, SvM w w' pB bx bp be #[.slice ra R.length c, .slice ga m d, .bool single] u1 u2 v1 z1 → u1 = .slice none 0 0 → u2 = .int .i64 0 → v1 = .slice none 0 0 → True ∧ w'.cell? ⟨bx, 0, none⟩ = some (.slice none 0 0) ∧ w'.cell? ⟨bx, 1, none⟩ = some (.int .i64 0) ∧ w'.cell? ⟨bp, 0, none⟩ = some (.slice none 0 0)) := by
  rintro w' u1 u2 v1 z1 hs rfl rfl rfl
  exact ⟨trivial, boxed_cell (j := 0) hs.x rfl, boxed_cell (j := 1) hs.x rfl, boxed_cell (j := 0) hs.y rfl⟩
 refine region_any (by kernel_rfl) ?_;generalize w5.drew = wd at *;revert hF;refine zhc (fuel := 3) (fun w' => True ∧ w'.cell? ⟨bx, 0, none⟩ = some (.slice none 0 0) ∧ w'.cell? ⟨bx, 1, none⟩ = some (.int .i64 0) ∧ w'.cell? ⟨bp, 0, none⟩ = some (.slice none 0 0)) (HSS.out _ _ _ _ _ HSd.out rfl rfl rfl) [3, 19] fun a hF => ?_;refine held_one (n := 2) (fuel := 2) (by kernel_rfl) ?_;refine op_storev rfl rfl hF rfl rfl rfl rfl hSV ?_;clear hF;refine fun a hF => ⟨?_, ?_⟩
 ·
  intro _
  exact HSS.out _ _ _ _ _ HSx.out rfl rfl rfl
 clear hSV HSd
 generalize wd.setRow bx #[.slice none 0 0, .int .i64 0] = w6 at *
 have hSV := run_storeVar_row (P := Tryz.prog) w6 bp 34 34 #[.slice none 0 0] #[.slice none 0 0] HSx.out.y (by kernel_rfl) rfl (by simp [Value.oneCell'])
 have HSy := Lib.hid (HSx.out.setY (.slice none 0 0))
 clear HSx
 refine held_one (n := 3) (fuel := 1) (by kernel_rfl) ?_;refine op_storev rfl rfl hF rfl rfl rfl rfl hSV ?_;clear hF;refine fun a hF => ⟨?_, ?_⟩
 ·
  intro _
  exact HSS.out _ _ _ _ _ HSy.out rfl rfl rfl
 clear hSV
 generalize w6.setRow bp #[.slice none 0 0] = w7 at *
 have z0 := boxed_cell (j := 0) HSy.out.z rfl
 have f0 := Joins.unfrozen_of_block HSy.out.z 0
 have HSz := Lib.hid (HSy.out.setZ (.int .i64 1))
 clear HSy
 refine held_one (n := 4) (fuel := 0) (by kernel_rfl) ?_;revert hF;refine qu1 fun a hF => ⟨?_, ?_⟩
 ·
  intro _
  exact HSS.out _ _ _ _ _ HSz.out rfl rfl rfl
 clear z0 f0 HSS
 generalize w7.setCell ⟨be, 0, none⟩ (.int .i64 1) = w8 at *
 refine held_end (by kernel_rfl) ?_;replace hF := hF.kp [2, 3, 4] rfl;refine hK _ _ ?_;clear hK
 refine wp_ret ?_
 try simp only [then_ret, block_ret, goto_ret]
 refine ret_leaves hF ⟨_, results3 (fn := Tryz.f11) rfl hF rfl rfl rfl HSz.out.loadX HSz.out.loadY HSz.out.loadZ, rfl, HSz.out.below⟩
set_option maxRecDepth 100000 in
set_option maxHeartbeats 8000000 in
theorem solve_many (w : World) (ra ga : Option Addr) (c m d : Nat) (single : Bool) (R : List Int) (G : List (Int × Int)) (hn : R.length ≤ 4000) (hm : m ≤ 4000) (hR : Ints w ra R.length R) (hG : Pairs w ga m G) (hval : validS R G = true) (hbig : 40 < R.length ∨ 8 < m) :
  Calls Tryz.prog 11 #[.agg #[.slice ra R.length c, .slice ga m d, .bool single]] w fun e w' => e = .returned (.tuple #[.agg #[.slice none 0 0, .int .i64 0], .agg #[.slice none 0 0], .int .i64 22]) ∧ Below w.heap.size w w' := by
 have HR := Lib.hid hR
 have HG := Lib.hid hG
 have HVAL := Lib.hid hval
 clear hR hG hval
 refine enter_frD (N := 60) [.agg #[.slice ra R.length c, .slice ga m d, .bool single]] (Tryz.func11) rfl Tryz.ntmps11 (by rfl) (fun a hF => ?_)
 replace hF := hF.kp [0] rfl;refine wp_seq_k (fun K hK => ?_);refine region_seq (l := [0, 1, 2, 3]) (by kernel_rfl) ?_;refine seq_one ?_;revert hF;refine qe1 fun a hF => ?_
 have hb1 := Joins.below_alloc1 w (.cells #[.slice ra R.length c, .slice ga m d, .bool single] 25)
 have hp1 : (w.alloc (.cells #[.slice ra R.length c, .slice ga m d, .bool single] 25)).heap[w.heap.size]? = some (.cells #[.slice ra R.length c, .slice ga m d, .bool single] 25 (0, 0)) := heap_new _ _
 generalize w.alloc (.cells #[.slice ra R.length c, .slice ga m d, .bool single] 25) = w1 at *
 refine seq_one ?_;revert hF;refine qe0 fun a hF => ?_
 have hb2 := Joins.below_alloc1 w1 (.cells #[.slice none 0 0, .int .i64 0] 31)
 have hp2 := (hb2.block _ (lt_of_block hp1)).trans hp1
 have hx2 : (w1.alloc (.cells #[.slice none 0 0, .int .i64 0] 31)).heap[w1.heap.size]? = some (.cells #[.slice none 0 0, .int .i64 0] 31 (0, 0)) := heap_new _ _
 have hB2 := hb1.trans (hb2.mono hb1.size)
 have hn1 := hb1.size
 clear hb1 hb2 hp1
 generalize w1.alloc (.cells #[.slice none 0 0, .int .i64 0] 31) = w2 at *
 generalize w1.heap.size = bx at *
 refine seq_one ?_;revert hF;refine qe0 fun a hF => ?_
 have hb3 := Joins.below_alloc1 w2 (.cells #[.slice none 0 0] 34)
 have hp3 := (hb3.block _ (lt_of_block hp2)).trans hp2
 have hx3 := (hb3.block _ (lt_of_block hx2)).trans hx2
 have hy3 : (w2.alloc (.cells #[.slice none 0 0] 34)).heap[w2.heap.size]? = some (.cells #[.slice none 0 0] 34 (0, 0)) := heap_new _ _
 have hB3 := hB2.trans (hb3.mono hB2.size)
 have hn2 := hB2.size
 clear hb3 hp2 hx2 hB2
 generalize w2.alloc (.cells #[.slice none 0 0] 34) = w3 at *
 generalize w2.heap.size = bp at *
 refine seq_one ?_;revert hF;refine qe0 fun a hF => ?_
 have hb4 := Joins.below_alloc1 w3 (.cells #[.int .i64 0] 35)
 have HS : Hid (SvM w (w3.alloc (.cells #[.int .i64 0] 35)) w.heap.size bx bp w3.heap.size #[.slice ra R.length c, .slice ga m d, .bool single] (.slice none 0 0) (.int .i64 0) (.slice none 0 0) (.int .i64 0)) :=
  ⟨hB3.trans (hb4.mono hB3.size), (hb4.block _ (lt_of_block hp3)).trans hp3, (hb4.block _ (lt_of_block hx3)).trans hx3, (hb4.block _ (lt_of_block hy3)).trans hy3, heap_new _ _, hn1, hn2, hB3.size⟩
 clear hb4 hp3 hx3 hy3 hB3 hn1 hn2
 generalize w3.alloc (.cells #[.int .i64 0] 35) = w4 at *
 generalize w3.heap.size = be at *
 obtain ⟨pB, hpb⟩ : ∃ x, x = w.heap.size := ⟨_, rfl⟩
 rw [← hpb] at hF HS
 clear hpb
 refine seq_end ?_;replace hF := hF.kp [1, 2, 3, 4] rfl;refine hK _ _ ?_;clear hK;refine wp_seq_k (fun K hK => ?_)
 refine wp_block ?_
 refine wp_seq_k (fun K hK => ?_)
 have p0 := boxed_cell (j := 0) HS.out.prob rfl
 have p1 := boxed_cell (j := 1) HS.out.prob rfl
 have p2 := boxed_cell (j := 2) HS.out.prob rfl
 revert hF;refine zrp [4] [1, 2, 3] fun a hF => ?_;revert hF;refine zos fun K hK => ?_
 refine (valid_any ra ga R.length c m d single true R G w4 hn hm (HR.out.below HS.out.below) (HG.out.below HS.out.below) HVAL.out).mono ?_
 rintro e w5 ⟨rfl, hb5⟩
 have HS5 := Lib.hid (HS.out.down hb5)
 clear p0 p1 p2 HS hb5
 refine hK _ _ (fun a hF => ?_);clear hK K;revert hF;refine zre 2 [4, 2] [1, 2, 3, 4, 9] fun a hF => ?_;refine hK _ _ ?_;clear hK
 refine cond_no hF rfl ?_
 have p0 := boxed_cell (j := 0) HS5.out.prob rfl
 have p1 := boxed_cell (j := 1) HS5.out.prob rfl
 have p2 := boxed_cell (j := 2) HS5.out.prob rfl
 by_cases h1 : 40 < R.length
 ·
  have hq : decide ((40 : Int) < (R.length : Int)) = true := by simp; omega
  have hq' : (40 : Int) < (R.length : Nat) := by omega
  revert hF;refine zrs [4, 4, 4, 4, 1, 0, 0, 0, 0, 5, 2] [1, 2, 3, 4, 15] fun a hF => ?_
  clear hq hq' p0 p1 p2
  refine cond_yes hF rfl ?_
  have hbd := below_d (Below.refl w5.heap.size w5)
  have HSd := Lib.hid (HS5.out.down hbd)
  clear HS5 hbd
  refine seq_np (fun K hK => ?_)
  have hSV := run_storeVar_row (P := Tryz.prog) w5.drew bx 31 31 #[.slice none 0 0, .int .i64 0] #[.slice none 0 0, .int .i64 0] HSd.out.x (by kernel_rfl) rfl (by simp [Value.oneCell'])
  have HSx := Lib.hid (HSd.out.setX (.slice none 0 0) (.int .i64 0))
  have HSS : Hid (∀ w' u1 u2 v1 z1, SvM w w' pB bx bp be #[.slice ra R.length c, .slice ga m d, .bool single] u1 u2 v1 z1 → u1 = .slice none 0 0 → u2 = .int .i64 0 → v1 = .slice none 0 0 → True ∧ w'.cell? ⟨bx, 0, none⟩ = some (.slice none 0 0) ∧ w'.cell? ⟨bx, 1, none⟩ = some (.int .i64 0) ∧ w'.cell? ⟨bp, 0, none⟩ = some (.slice none 0 0)) := by
   rintro w' u1 u2 v1 z1 hs rfl rfl rfl
   exact ⟨trivial, boxed_cell (j := 0) hs.x rfl, boxed_cell (j := 1) hs.x rfl, boxed_cell (j := 0) hs.y rfl⟩
  refine region_any (by kernel_rfl) ?_;generalize w5.drew = wd at *;revert hF;refine zhc (fuel := 3) (fun w' => True ∧ w'.cell? ⟨bx, 0, none⟩ = some (.slice none 0 0) ∧ w'.cell? ⟨bx, 1, none⟩ = some (.int .i64 0) ∧ w'.cell? ⟨bp, 0, none⟩ = some (.slice none 0 0)) (HSS.out _ _ _ _ _ HSd.out rfl rfl rfl) [3, 19] fun a hF => ?_;refine held_one (n := 2) (fuel := 2) (by kernel_rfl) ?_;refine op_storev rfl rfl hF rfl rfl rfl rfl hSV ?_;clear hF;refine fun a hF => ⟨?_, ?_⟩
  ·
   intro _
   exact HSS.out _ _ _ _ _ HSx.out rfl rfl rfl
  clear hSV HSd
  generalize wd.setRow bx #[.slice none 0 0, .int .i64 0] = w6 at *
  have hSV := run_storeVar_row (P := Tryz.prog) w6 bp 34 34 #[.slice none 0 0] #[.slice none 0 0] HSx.out.y (by kernel_rfl) rfl (by simp [Value.oneCell'])
  have HSy := Lib.hid (HSx.out.setY (.slice none 0 0))
  clear HSx
  refine held_one (n := 3) (fuel := 1) (by kernel_rfl) ?_;refine op_storev rfl rfl hF rfl rfl rfl rfl hSV ?_;clear hF;refine fun a hF => ⟨?_, ?_⟩
  ·
   intro _
   exact HSS.out _ _ _ _ _ HSy.out rfl rfl rfl
  clear hSV
  generalize w6.setRow bp #[.slice none 0 0] = w7 at *
  have z0 := boxed_cell (j := 0) HSy.out.z rfl
  have f0 := Joins.unfrozen_of_block HSy.out.z 0
  have HSz := Lib.hid (HSy.out.setZ (.int .i64 22))
  clear HSy
  refine held_one (n := 4) (fuel := 0) (by kernel_rfl) ?_;revert hF;refine qu1 fun a hF => ⟨?_, ?_⟩
  ·
   intro _
   exact HSS.out _ _ _ _ _ HSz.out rfl rfl rfl
  clear z0 f0 HSS
  generalize w7.setCell ⟨be, 0, none⟩ (.int .i64 22) = w8 at *
  refine held_end (by kernel_rfl) ?_;replace hF := hF.kp [2, 3, 4] rfl;refine hK _ _ ?_;clear hK
  refine wp_ret ?_
  try simp only [then_ret, block_ret, goto_ret]
  refine ret_leaves hF ⟨_, results3 (fn := Tryz.f11) rfl hF rfl rfl rfl HSz.out.loadX HSz.out.loadY HSz.out.loadZ, rfl, HSz.out.below⟩
 ·
  have hq : decide ((40 : Int) < (R.length : Int)) = false := by simp; omega
  have hq' : ¬ (40 : Int) < (R.length : Nat) := by omega
  have hq2 : decide ((8 : Int) < (m : Int)) = true := by simp; omega
  have hq2' : (8 : Int) < (m : Nat) := by omega
  revert hF;refine zrs [4, 4, 4, 4, 1, 4, 4, 4, 4, 5, 2] [1, 2, 3, 4, 15] fun a hF => ?_
  clear hq hq' hq2 hq2' p0 p1 p2
  refine cond_yes hF rfl ?_
  have hbd := below_d (Below.refl w5.heap.size w5)
  have HSd := Lib.hid (HS5.out.down hbd)
  clear HS5 hbd
  refine seq_np (fun K hK => ?_)
  have hSV := run_storeVar_row (P := Tryz.prog) w5.drew bx 31 31 #[.slice none 0 0, .int .i64 0] #[.slice none 0 0, .int .i64 0] HSd.out.x (by kernel_rfl) rfl (by simp [Value.oneCell'])
  have HSx := Lib.hid (HSd.out.setX (.slice none 0 0) (.int .i64 0))
  have HSS : Hid (∀ w' u1 u2 v1 z1, SvM w w' pB bx bp be #[.slice ra R.length c, .slice ga m d, .bool single] u1 u2 v1 z1 → u1 = .slice none 0 0 → u2 = .int .i64 0 → v1 = .slice none 0 0 → True ∧ w'.cell? ⟨bx, 0, none⟩ = some (.slice none 0 0) ∧ w'.cell? ⟨bx, 1, none⟩ = some (.int .i64 0) ∧ w'.cell? ⟨bp, 0, none⟩ = some (.slice none 0 0)) := by
   rintro w' u1 u2 v1 z1 hs rfl rfl rfl
   exact ⟨trivial, boxed_cell (j := 0) hs.x rfl, boxed_cell (j := 1) hs.x rfl, boxed_cell (j := 0) hs.y rfl⟩
  refine region_any (by kernel_rfl) ?_;generalize w5.drew = wd at *;revert hF;refine zhc (fuel := 3) (fun w' => True ∧ w'.cell? ⟨bx, 0, none⟩ = some (.slice none 0 0) ∧ w'.cell? ⟨bx, 1, none⟩ = some (.int .i64 0) ∧ w'.cell? ⟨bp, 0, none⟩ = some (.slice none 0 0)) (HSS.out _ _ _ _ _ HSd.out rfl rfl rfl) [3, 19] fun a hF => ?_;refine held_one (n := 2) (fuel := 2) (by kernel_rfl) ?_;refine op_storev rfl rfl hF rfl rfl rfl rfl hSV ?_;clear hF;refine fun a hF => ⟨?_, ?_⟩
  ·
   intro _
   exact HSS.out _ _ _ _ _ HSx.out rfl rfl rfl
  clear hSV HSd
  generalize wd.setRow bx #[.slice none 0 0, .int .i64 0] = w6 at *
  have hSV := run_storeVar_row (P := Tryz.prog) w6 bp 34 34 #[.slice none 0 0] #[.slice none 0 0] HSx.out.y (by kernel_rfl) rfl (by simp [Value.oneCell'])
  have HSy := Lib.hid (HSx.out.setY (.slice none 0 0))
  clear HSx
  refine held_one (n := 3) (fuel := 1) (by kernel_rfl) ?_;refine op_storev rfl rfl hF rfl rfl rfl rfl hSV ?_;clear hF;refine fun a hF => ⟨?_, ?_⟩
  ·
   intro _
   exact HSS.out _ _ _ _ _ HSy.out rfl rfl rfl
  clear hSV
  generalize w6.setRow bp #[.slice none 0 0] = w7 at *
  have z0 := boxed_cell (j := 0) HSy.out.z rfl
  have f0 := Joins.unfrozen_of_block HSy.out.z 0
  have HSz := Lib.hid (HSy.out.setZ (.int .i64 22))
  clear HSy
  refine held_one (n := 4) (fuel := 0) (by kernel_rfl) ?_;revert hF;refine qu1 fun a hF => ⟨?_, ?_⟩
  ·
   intro _
   exact HSS.out _ _ _ _ _ HSz.out rfl rfl rfl
  clear z0 f0 HSS
  generalize w7.setCell ⟨be, 0, none⟩ (.int .i64 22) = w8 at *
  refine held_end (by kernel_rfl) ?_;replace hF := hF.kp [2, 3, 4] rfl;refine hK _ _ ?_;clear hK
  refine wp_ret ?_
  try simp only [then_ret, block_ret, goto_ret]
  refine ret_leaves hF ⟨_, results3 (fn := Tryz.f11) rfl hF rfl rfl rfl HSz.out.loadX HSz.out.loadY HSz.out.loadZ, rfl, HSz.out.below⟩
/-- What Solve returns for a problem within the limits. -/
def GoodP (single : Bool) (R : List Int) (G : List (Int × Int)) (m : Nat) (w : World) (e : Ending) (w' : World) : Prop :=
 Below w.heap.size w w' ∧ (((stpF G (packF single G m 0 (R.map run0)) m 0 (R.map run0) 0 0).length ≤ 100000 ∧ ∃ sa sc pa l pc, e = .returned (.tuple #[.agg #[.slice sa m sc, .int .i64 (packF single G m 0 (R.map run0))], .agg #[.slice pa l pc], .int .i64 0]) ∧
   Pairs w' sa m (solF single R G m 0 (R.map run0) (packF single G m 0 (R.map run0))) ∧ Steps w' pa l (stpF G (packF single G m 0 (R.map run0)) m 0 (R.map run0) 0 0) ∧ l = (stpF G (packF single G m 0 (R.map run0)) m 0 (R.map run0) 0 0).length) ∨
  (100000 < (stpF G (packF single G m 0 (R.map run0)) m 0 (R.map run0) 0 0).length ∧ e = .returned (.tuple #[.agg #[.slice none 0 0, .int .i64 0], .agg #[.slice none 0 0], .int .i64 3])))
theorem vcap_small (n m : Nat) (hn : n ≤ 40) (hm : m ≤ 8) : (1 + m * n) * vcap n m ≤ 9000000000000000000 := by
 have hmono : ∀ k, vcap n k ≤ vcap 40 k := by
  intro k
  induction k with
  | zero => exact Nat.le_refl _
  | succ k ih =>
   show 1 + (n + 1) * vcap n k ≤ 1 + 41 * vcap 40 k
   have := Nat.mul_le_mul (show n + 1 ≤ 41 by omega) ih
   omega
 have h8 : vcap 40 m ≤ vcap 40 8 := vcap_le 40 hm
 have hv : vcap 40 8 ≤ 1000000000000 := by decide
 have h1 : 1 + m * n ≤ 321 := by
  have := Nat.mul_le_mul hm hn
  omega
 have := Nat.mul_le_mul h1 (Nat.le_trans (hmono m) (Nat.le_trans h8 hv))
 omega
theorem rooms_of {R : List Int} {G : List (Int × Int)} (h : validS R G = true) : ∀ x ∈ R, 1 ≤ x ∧ x ≤ 4000 := fun x hx => by
 obtain ⟨i, hi, rfl⟩ := List.mem_iff_getElem.1 hx
 have := (runsOk_sum R 4000 (by omega) (validS_parts h).1).2.2 i hi
 rw [ix_get hi] at this
 exact this
set_option maxRecDepth 100000 in
set_option maxHeartbeats 16000000 in
theorem solve_good (w : World) (ra ga : Option Addr) (c m d : Nat) (single : Bool) (R : List Int) (G : List (Int × Int)) (hn : R.length ≤ 40) (hm : m ≤ 8) (hmd : m ≤ d) (hR : Ints w ra R.length R) (hG : Pairs w ga m G) (hval : validS R G = true) (hk : PKit w) :
  Calls Tryz.prog 11 #[.agg #[.slice ra R.length c, .slice ga m d, .bool single]] w (GoodP single R G m w) := by
 have HR := Lib.hid hR
 have HG := Lib.hid hG
 have HVAL := Lib.hid hval
 have HK := Lib.hid hk
 have hm4 : m ≤ 4000 := by omega
 have hn4 : R.length ≤ 4000 := by omega
 have HRM := Lib.hid (rooms_of hval)
 have HVO := Lib.hid (validS_parts hval).2.2
 clear hR hG hval hk
 refine enter_frD (N := 60) [.agg #[.slice ra R.length c, .slice ga m d, .bool single]] (Tryz.func11) rfl Tryz.ntmps11 (by rfl) (fun a hF => ?_)
 replace hF := hF.kp [0] rfl;refine wp_seq_k (fun K hK => ?_);refine region_seq (l := [0, 1, 2, 3]) (by kernel_rfl) ?_;refine seq_one ?_;revert hF;refine qe1 fun a hF => ?_
 have hb1 := Joins.below_alloc1 w (.cells #[.slice ra R.length c, .slice ga m d, .bool single] 25)
 have hp1 : (w.alloc (.cells #[.slice ra R.length c, .slice ga m d, .bool single] 25)).heap[w.heap.size]? = some (.cells #[.slice ra R.length c, .slice ga m d, .bool single] 25 (0, 0)) := heap_new _ _
 generalize w.alloc (.cells #[.slice ra R.length c, .slice ga m d, .bool single] 25) = w1 at *
 refine seq_one ?_;revert hF;refine qe0 fun a hF => ?_
 have hb2 := Joins.below_alloc1 w1 (.cells #[.slice none 0 0, .int .i64 0] 31)
 have hp2 := (hb2.block _ (lt_of_block hp1)).trans hp1
 have hx2 : (w1.alloc (.cells #[.slice none 0 0, .int .i64 0] 31)).heap[w1.heap.size]? = some (.cells #[.slice none 0 0, .int .i64 0] 31 (0, 0)) := heap_new _ _
 have hB2 := hb1.trans (hb2.mono hb1.size)
 have hn1 := hb1.size
 clear hb1 hb2 hp1
 generalize w1.alloc (.cells #[.slice none 0 0, .int .i64 0] 31) = w2 at *
 generalize w1.heap.size = bx at *
 refine seq_one ?_;revert hF;refine qe0 fun a hF => ?_
 have hb3 := Joins.below_alloc1 w2 (.cells #[.slice none 0 0] 34)
 have hp3 := (hb3.block _ (lt_of_block hp2)).trans hp2
 have hx3 := (hb3.block _ (lt_of_block hx2)).trans hx2
 have hy3 : (w2.alloc (.cells #[.slice none 0 0] 34)).heap[w2.heap.size]? = some (.cells #[.slice none 0 0] 34 (0, 0)) := heap_new _ _
 have hB3 := hB2.trans (hb3.mono hB2.size)
 have hn2 := hB2.size
 clear hb3 hp2 hx2 hB2
 generalize w2.alloc (.cells #[.slice none 0 0] 34) = w3 at *
 generalize w2.heap.size = bp at *
 refine seq_one ?_;revert hF;refine qe0 fun a hF => ?_
 have hb4 := Joins.below_alloc1 w3 (.cells #[.int .i64 0] 35)
 have HS : Hid (SvM w (w3.alloc (.cells #[.int .i64 0] 35)) w.heap.size bx bp w3.heap.size #[.slice ra R.length c, .slice ga m d, .bool single] (.slice none 0 0) (.int .i64 0) (.slice none 0 0) (.int .i64 0)) :=
  ⟨hB3.trans (hb4.mono hB3.size), (hb4.block _ (lt_of_block hp3)).trans hp3, (hb4.block _ (lt_of_block hx3)).trans hx3, (hb4.block _ (lt_of_block hy3)).trans hy3, heap_new _ _, hn1, hn2, hB3.size⟩
 clear hb4 hp3 hx3 hy3 hB3 hn1 hn2
 generalize w3.alloc (.cells #[.int .i64 0] 35) = w4 at *
 generalize w3.heap.size = be at *
 obtain ⟨pB, hpb⟩ : ∃ x, x = w.heap.size := ⟨_, rfl⟩
 rw [← hpb] at hF HS
 clear hpb
 refine seq_end ?_;replace hF := hF.kp [1, 2, 3, 4] rfl;refine hK _ _ ?_;clear hK
 refine seq_cut (fun a' w' => FrF 60 [] [(1, .pointer (some ⟨pB, 0, none⟩)), (2, .pointer (some ⟨bx, 0, none⟩)), (3, .pointer (some ⟨bp, 0, none⟩)), (4, .pointer (some ⟨be, 0, none⟩))] a' ∧ Hid (SvM w w' pB bx bp be #[.slice ra R.length c, .slice ga m d, .bool single] (.slice none 0 0) (.int .i64 0) (.slice none 0 0) (.int .i64 0))) (fun KU hKU => ?_) ?_
 ·
  refine wp_block ?_
  refine wp_seq_k (fun K hK => ?_)
  have p0 := boxed_cell (j := 0) HS.out.prob rfl
  have p1 := boxed_cell (j := 1) HS.out.prob rfl
  have p2 := boxed_cell (j := 2) HS.out.prob rfl
  revert hF;refine zrp [4] [1, 2, 3] fun a hF => ?_;revert hF;refine zos fun K hK => ?_
  refine (valid_any ra ga R.length c m d single true R G w4 hn4 hm4 (HR.out.below HS.out.below) (HG.out.below HS.out.below) HVAL.out).mono ?_
  rintro e w5 ⟨rfl, hb5⟩
  have HS5 := Lib.hid (HS.out.down hb5)
  clear p0 p1 p2 HS hb5
  refine hK _ _ (fun a hF => ?_);clear hK K;revert hF;refine zre 2 [4, 2] [1, 2, 3, 4, 9] fun a hF => ?_;refine hK _ _ ?_;clear hK
  refine cond_no hF rfl ?_
  have p0 := boxed_cell (j := 0) HS5.out.prob rfl
  have p1 := boxed_cell (j := 1) HS5.out.prob rfl
  have p2 := boxed_cell (j := 2) HS5.out.prob rfl
  have hq : decide ((40 : Int) < (R.length : Int)) = false := by simp; omega
  have hq' : ¬ (40 : Int) < (R.length : Nat) := by omega
  have hq2 : decide ((8 : Int) < (m : Int)) = false := by simp; omega
  have hq2' : ¬ (8 : Int) < (m : Nat) := by omega
  revert hF;refine zrs [4, 4, 4, 4, 1, 4, 4, 4, 4, 5, 2] [1, 2, 3, 4, 15] fun a hF => ?_
  clear hq hq' hq2 hq2' p0 p1 p2
  refine cond_no hF rfl ?_
  refine wp_skip ?_
  exact hKU _ _ ⟨hF.sub ⟨rfl, rfl, rfl, rfl, trivial⟩, HS5⟩
 clear hF HS
 rintro a w5 ⟨hF, HS⟩
 refine wp_seq_k (fun K hK => ?_);revert hF;refine zrp [6] [1] fun a hF => ?_;refine seq_one ?_;refine op_defer (dc := ?_) rfl rfl hF rfl ?_ ?_
 rotate_left 1
 ·
  intro a hF
  have s28 := hF.slot 28 _ rfl
  clear hF
  go_simp <;> with_reducible rfl
 clear hF;refine fun a hF => ?_;refine seq_end ?_;replace hF := hF.kp [1, 2, 3, 4] rfl;refine hK _ _ ?_;clear hK
 obtain ⟨dfs, hdfs⟩ : ∃ x : List Deferred, x = [{ target := .fn (.func 23) #[.pointer (some ⟨bx, 0, none⟩), .pointer (some ⟨bp, 0, none⟩), .pointer (some ⟨be, 0, none⟩)], args := #[] }] := ⟨_, rfl⟩
 rw [← hdfs] at hF
 have HDF := Lib.hid hdfs
 clear hdfs
 refine wp_seq_k (fun K hK => ?_)
 have p0 := boxed_cell (j := 0) HS.out.prob rfl
 have p1 := boxed_cell (j := 1) HS.out.prob rfl
 have p2 := boxed_cell (j := 2) HS.out.prob rfl
 revert hF;refine zrp [4] [1, 2] fun a hF => ?_;revert hF;refine zos fun K hK => ?_
 refine (solution_any w5 ra ga c m d single R G hn4 hm4 (HR.out.below HS.out.below) (HG.out.below HS.out.below) HVO.out (fun x hx => by have := HRM.out x hx; omega) (HK.out.below HS.out.below) (vcap_small R.length m hn hm)).mono ?_
 rintro e w6 ⟨sa, sc, rfl, hb6, hp6, hq6⟩
 clear p0 p1 p2
 have hbnd := packF_range (single := single) (k := m) (g := 0) (L := R.map run0) HVO.out (by rw [HG.out.1]; omega)
 have hb0 : 0 ≤ packF single G m 0 (R.map run0) := packF_start m 0
 obtain ⟨B, hB⟩ : ∃ x, x = packF single G m 0 (R.map run0) := ⟨_, rfl⟩
 rw [← hB] at hbnd hb0 hp6 ⊢
 have HBE := Lib.hid hB
 clear hB
 have HS6 := Lib.hid (HS.out.down hb6)
 have HSP := Lib.hid hp6
 have hbe5 : bx < w5.heap.size ∧ bp < w5.heap.size ∧ be < w5.heap.size := ⟨lt_of_block HS.out.x, lt_of_block HS.out.y, lt_of_block HS.out.z⟩
 have HSA : Hid (∀ q, sa = some q → q.block ≠ bx ∧ q.block ≠ bp ∧ q.block ≠ be) := fun q e => by
  have := hq6 q e
  omega
 clear hp6 hq6 hb6 hbe5 HS
 have hSV := run_storeVar_row (P := Tryz.prog) w6 bx 31 31 #[.slice none 0 0, .int .i64 0] #[.slice sa m sc, .int .i64 B] HS6.out.x (by kernel_rfl) rfl (by simp [Value.oneCell'])
 have HS7 := Lib.hid (HS6.out.setX (.slice sa m sc) (.int .i64 B))
 refine hK _ _ (fun a hF => ?_);clear hK K;refine seq_one ?_;refine op_storev rfl rfl hF rfl rfl rfl rfl hSV ?_;clear hF;refine fun a hF => ?_
 clear hSV
 refine seq_end ?_;replace hF := hF.kp [1, 2, 3, 4] rfl;refine hK _ _ ?_;clear hK
 have HSP7 : Hid (Pairs (w6.setRow bx #[.slice sa m sc, .int .i64 B]) sa m (solF single R G m 0 (R.map run0) B)) := by
  have hp := HSP.out
  refine ⟨hp.1, fun k hk => ?_⟩
  obtain ⟨b, o, e, c0, c1⟩ := hp.2 k hk
  have hne := (HSA.out _ e).1
  dsimp only at hne
  have hh : (w6.setRow bx #[.slice sa m sc, .int .i64 B]).heap[b]? = w6.heap[b]? := by simp [World.setRow, Array.getElem?_modify, Ne.symm hne]
  exact ⟨b, o, e, by rw [World.cell?_of_block (a := ⟨b, o + k * 2, none⟩) hh]; exact c0, by rw [World.cell?_of_block (a := ⟨b, o + k * 2 + 1, none⟩) hh]; exact c1⟩
 clear HS6 HSP
 generalize w6.setRow bx #[.slice sa m sc, .int .i64 B] = w7 at *
 have HR7 := Lib.hid (HR.out.below HS7.out.below)
 refine wp_seq_k (fun K hK => ?_)
 have p0 := boxed_cell (j := 0) HS7.out.prob rfl
 have p1 := boxed_cell (j := 1) HS7.out.prob rfl
 have p2 := boxed_cell (j := 2) HS7.out.prob rfl
 have x1 := boxed_cell (j := 1) HS7.out.x rfl
 revert hF;refine zrp [4, 4, 4, 5] [4, 5] fun a hF => ?_;refine seq_one ?_;revert hF;refine qe1 fun a hF => ?_
 have hba := Joins.below_alloc1 w7 (.cells #[.slice ra R.length c, .slice ga m d, .bool single, .int .i64 B, .slice none 0 0] 60)
 have hwb : (w7.alloc (.cells #[.slice ra R.length c, .slice ga m d, .bool single, .int .i64 B, .slice none 0 0] 60)).heap[w7.heap.size]? = some (.cells #[.slice ra R.length c, .slice ga m d, .bool single, .int .i64 B, .slice none 0 0] 60 (0, 0)) := heap_new _ _
 have HB0 := Lib.hid (And.intro hba hwb)
 have HWB : Hid (w7.heap.size ≤ w7.heap.size) := Nat.le_refl _
 clear p0 p1 p2 x1 hba hwb
 generalize w7.alloc (.cells #[.slice ra R.length c, .slice ga m d, .bool single, .int .i64 B, .slice none 0 0] 60) = w8 at *
 obtain ⟨wb, hwb⟩ : ∃ x, x = w7.heap.size := ⟨_, rfl⟩
 rw [← hwb] at hF
 have HWE := Lib.hid hwb
 have HB0 : Hid (Below w7.heap.size w7 w8 ∧ w8.heap[wb]? = some (.cells #[.slice ra R.length c, .slice ga m d, .bool single, .int .i64 B, .slice none 0 0] 60 (0, 0))) := by
  rw [hwb]
  exact HB0.out
 clear hwb HWB
 revert hF;refine zre 5 [2] [1, 2, 3, 4, 5] fun a hF => ?_;refine hK _ _ ?_;clear hK
 have HSB0 := Lib.hid (HS7.out.down HB0.out.1)
 revert hF;refine zrs [2] [1, 2, 3, 4, 5, 6] fun a hF => ?_
 have HO0 : Hid (w8.ownsRow w7.heap.size 63 2 (.slice none 0 0) 0 (flat RunE ((R.take 0).map run0))) := nil_row
 refine seq_cut (fun a' w' => ∃ v : Value, FrF 60 dfs [(2, .pointer (some ⟨bx, 0, none⟩)), (3, .pointer (some ⟨bp, 0, none⟩)), (4, .pointer (some ⟨be, 0, none⟩)), (5, .pointer (some ⟨wb, 0, none⟩)), (6, v)] a' ∧ Hid (Below w7.heap.size w7 w' ∧ w'.heap[wb]? = some (.cells #[.slice ra R.length c, .slice ga m d, .bool single, .int .i64 B, .slice none 0 0] 60 (0, 0))) ∧ Hid (w'.ownsRow w7.heap.size 63 2 v R.length (flat RunE ((R.take R.length).map run0)))) (fun KAi hKAi => ?_) ?_
 ·
  skip
  have p0 := boxed_cell (j := 0) HSB0.out.prob rfl
  revert hF;refine zrs [4, 4, 4, 1] [2, 3, 4, 5, 6, 37, 38, 39] fun a hF => ?_
  clear p0
  refine wp_block ?_
  refine loop_fr (fun qi a' w' => ∃ i : Nat, i + qi = R.length ∧ ∃ v : Value, FrF 60 dfs [(2, .pointer (some ⟨bx, 0, none⟩)), (3, .pointer (some ⟨bp, 0, none⟩)), (4, .pointer (some ⟨be, 0, none⟩)), (5, .pointer (some ⟨wb, 0, none⟩)), (6, v), (37, .slice ra R.length c), (38, .int .i64 R.length), (39, .int .i64 i)] a' ∧ Hid (Below w7.heap.size w7 w' ∧ w'.heap[wb]? = some (.cells #[.slice ra R.length c, .slice ga m d, .bool single, .int .i64 B, .slice none 0 0] 60 (0, 0))) ∧ Hid (w'.ownsRow w7.heap.size 63 2 v i (flat RunE ((R.take i).map run0)))) (R.length) ⟨0, by omega, _, hF, HB0, HO0⟩ ?_
  clear hF HB0  HO0
  rintro rki a wr ⟨i, hiki, v, hF, HB, HO⟩ KBi hKBi
  by_cases hlt : i < R.length
  rotate_left
  ·
   have hlti : ¬ (i : Int) < (R.length : Nat) := by omega
   revert hF;refine zrs [5] [2, 3, 4, 5, 6, 37, 38, 39, 40] fun a hF => ?_;refine wp_seq_k (fun K hK => ?_)
   refine cond_no hF rfl ?_
   refine wp_exit ?_
   have hie : i = R.length := by omega
   rw [hie] at HO
   exact hKAi _ _ ⟨_, hF.sub ⟨rfl, rfl, rfl, rfl, rfl, trivial⟩, HB, HO⟩
  have hlti : (i : Int) < (R.length : Nat) := by omega
  revert hF;refine zrs [5] [2, 3, 4, 5, 6, 37, 38, 39, 40] fun a hF => ?_;refine wp_seq_k (fun K hK => ?_)
  refine cond_yes hF rfl ?_
  refine wp_skip ?_
  refine hK _ _ ?_;clear hK;replace hF := hF.kp [2, 3, 4, 5, 6, 37, 38, 39] rfl
  clear hKAi
  refine seq_cut (fun a' w' => ∃ v : Value, FrF 60 dfs [(2, .pointer (some ⟨bx, 0, none⟩)), (3, .pointer (some ⟨bp, 0, none⟩)), (4, .pointer (some ⟨be, 0, none⟩)), (5, .pointer (some ⟨wb, 0, none⟩)), (6, v), (37, .slice ra R.length c), (38, .int .i64 R.length), (39, .int .i64 i)] a' ∧ Hid (Below w7.heap.size w7 w' ∧ w'.heap[wb]? = some (.cells #[.slice ra R.length c, .slice ga m d, .bool single, .int .i64 B, .slice none 0 0] 60 (0, 0))) ∧ Hid (w'.ownsRow w7.heap.size 63 2 v (i + 1) (flat RunE ((R.take (i + 1)).map run0)))) (fun KCi hKCi => ?_) ?_
  rotate_left
  ·
   clear hF HB HO
   rintro a w' ⟨v, hF, HB, HO⟩
   have hws : IntKind.i64.wrap ((i : Int) + 1) = ((i + 1 : Nat) : Int) := wrap_succ (by omega)
   revert hF;refine zrg [4, 1] [2, 3, 4, 5, 6, 37, 38, 39] fun a hF => ?_
   exact hKBi (R.length - (i + 1)) _ _ (by omega) ⟨i + 1, by omega, _, hF, HB, HO⟩
  clear hKBi hiki
  refine wp_block ?_
  have hil : i < R.length := hlt
  obtain ⟨bb, oo, hra, c0⟩ := (HR7.out.below HB.out.1).2 i hlt
  have hir : ix R i = R[i] := ix_get hil
  rw [hir] at c0
  have HRA := Lib.hid hra
  rw [hra] at hF
  clear hra hir
  have hii : (i : Int) < (R.length : Nat) := by omega
  have hxt : (R.take (i + 1)).map run0 = (R.take i).map run0 ++ [run0 R[i]] := by rw [List.take_succ_eq_append_getElem hil, List.map_append]; rfl
  rw [hxt] at hKCi
  clear hxt
  have hll : ((R.take i).map run0).length = i := by simp; omega
  obtain ⟨r, hr⟩ : ∃ r, r = R[i] := ⟨_, rfl⟩
  rw [← hr] at c0 hKCi
  clear hr
  revert hF;refine zrs [5, 4, 2] [2, 3, 4, 5, 6, 8, 37, 38, 39] fun a hF => ?_
  clear c0
  revert hF;refine zrp [1, 1, 4] [3, 4, 5] fun a hF => ?_;refine seq_one ?_;revert hF;refine qe1 fun a hF => ?_
  have HN := Lib.hid (recs_alloc RunE wr 63 [run0 r] #[.int .i64 r, .bool false] rfl)
  have HBa := Lib.hid (Joins.below_alloc1 wr (.cells #[.int .i64 r, .bool false] 63))
  have HO5 := Lib.hid (row_of_heap HO.out fun b hb => HBa.out.block b (HO.out.lt b hb).2)
  have HB5 := Lib.hid (And.intro (HB.out.1.trans (HBa.out.mono HB.out.1.size)) ((HBa.out.block wb (lt_of_block HB.out.2)).trans HB.out.2))
  clear HBa HO HB
  generalize wr.alloc (.cells #[.int .i64 r, .bool false] 63) = wc5 at *
  obtain ⟨v', w6, hAPP, ho, hg, _⟩ := append_recs (E := RunE) 61 63 61 Tryz.underlying61 info_run rfl (by decide) HO5.out (u := .slice (some ⟨wr.heap.size, 0, none⟩) 1 1) ⟨_, _, rfl, HN.out, fun h => by cases h⟩ (by simp; omega) HB5.out.1.size
  have ht := tupd_own HO5.out hg
  have HB6 := Lib.hid (And.intro (HB5.out.1.grown hg HB5.out.1.size (fun k hk => (HO5.out.lt k hk).1)) (ht.keep HB5.out.2 (by decide)))
  have HO6 := Lib.hid ho
  clear ho hg ht HN HO5 HB5
  refine seq_one ?_;refine op_append rfl rfl rfl rfl rfl hF rfl rfl rfl hAPP (fun a hF => ?_);clear hAPP;revert hF;refine zre 5 [2] [2, 3, 4, 5, 6, 37, 38, 39] fun a hF => ?_
  rw [← HRA.out] at hF
  exact hKCi _ _ ⟨_, hF, HB6, HO6⟩
 clear hF HB0  HO0
 rintro a w20 ⟨v, hF, HB, HO⟩
 clear HSB0
 rw [List.take_length] at HO
 obtain ⟨la, c2, rfl, ho20⟩ := OwnRecs.of_row HO.out
 have HL : Hid (OwnRecs RunE w20 w7.heap.size 63 la R.length (R.map run0)) := ho20
 clear ho20 HO
 obtain ⟨A, hA⟩ : ∃ A : PA, A = ⟨wb, ra, ga, R.length, c, m, d, single, B, G⟩ := ⟨_, rfl⟩
 have HPM : Hid (PrvM w7 w20 A [] (fun _ => False)) := by
  rw [hA]
  exact ⟨HB.out.1, by show _ ≤ wb; rw [HWE.out]; exact Nat.le_refl _, _, [], HB.out.2, nil_row, rfl, fun i h => absurd h (Nat.not_lt_zero _)⟩
 have HPV := Lib.hid (prove_any w7 A (by rw [hA]; exact HVO.out) (by rw [hA]; exact HG.out.below HS7.out.below) (by rw [hA]; exact hm) (by rw [hA]; exact hmd) R.length hn (by rw [hA]; dsimp only; omega) m 0 (R.map run0) 0 w20 la c2 [] (fun _ => False) (by rw [hA]; dsimp only; omega) (List.length_map ..) HL.out (fun r hr => by
  obtain ⟨x, hx, rfl⟩ := List.mem_map.1 hr
  have := HRM.out x hx
  dsimp only [run0]
  omega) (by omega) HPM.out (fun b h => h.elim) (by simp))
 have HAW : Hid (A.wb = wb ∧ A.val = B ∧ A.G = G ∧ A.ra = ra ∧ A.rn = R.length ∧ A.rc = c ∧ A.ga = ga ∧ A.m = m ∧ A.gc = d ∧ A.single = single) := by rw [hA]; exact ⟨rfl, rfl, rfl, rfl, rfl, rfl, rfl, rfl, rfl, rfl⟩
 rw [HAW.out.1, HAW.out.2.1, HAW.out.2.2.1] at HPV
 clear hA HB HL HPM
 refine wp_seq_k (fun K hK => ?_);revert hF;refine zrp [1, 1, 1, 4] [4] fun a hF => ?_;revert hF;refine zosP fun K hK => ?_
 refine HPV.out.mono ?_
 rintro e w21 (⟨hle, rfl, hp21, ht21⟩ | ⟨hgt, rfl, hb21, ht21⟩)
 rotate_left
 ·
  refine hK.2 _ _ (fun hF => ?_)
  simp only [then_panic, block_panic, goto_panic]
  rw [HDF.out] at hF
  refine panic_leaves hF (leaves_cons (f := 23) (args := #[.pointer (some ⟨bx, 0, none⟩), .pointer (some ⟨bp, 0, none⟩), .pointer (some ⟨be, 0, none⟩)]) (by simp) (by kernel_rfl) ?_)
  refine (solve1_full w w21 _ bx bp be _ _ _ _ _ (HS7.out.down hb21)).mono ?_
  rintro e u' w22 ⟨rfl, rfl, hs22⟩
  refine ⟨_, results3 (fn := Tryz.f11) rfl hF rfl rfl rfl hs22.loadX hs22.loadY hs22.loadZ, hs22.below, Or.inr ⟨?_, rfl⟩⟩
  rw [← HBE.out]
  simpa using hgt
 refine hK.1 _ _ (fun a hF => ?_);clear hK K;refine seq_end ?_;replace hF := hF.kp [2, 3, 4, 5] rfl;refine hK _ _ ?_;clear hK
 obtain ⟨pa, pl, pc, hbx, hpl, hsk⟩ := steps_mem hp21
 rw [List.nil_append] at hpl hsk
 rw [HAW.out.2.2.2.1, HAW.out.2.2.2.2.1, HAW.out.2.2.2.2.2.1, HAW.out.2.2.2.2.2.2.1, HAW.out.2.2.2.2.2.2.2.1, HAW.out.2.2.2.2.2.2.2.2.1, HAW.out.2.2.2.2.2.2.2.2.2, HAW.out.1, HAW.out.2.1] at hbx
 have HSK := Lib.hid hsk
 have HPL := Lib.hid hpl
 have HLE : Hid ((stpF G B m 0 (R.map run0) 0 0).length ≤ 100000) := by
  have hle2 : ([] : List StepT).length + (stpF G B m 0 (R.map run0) 0 ([] : List StepT).length).length ≤ 100000 := hle
  rw [List.length_nil, Nat.zero_add] at hle2
  exact hle2
 have HS21 := Lib.hid (HS7.out.down hp21.below)
 have HSP21 : Hid (Pairs w21 sa m (solF single R G m 0 (R.map run0) B)) := HSP7.out.below hp21.below
 have HBX := Lib.hid hbx
 clear hbx hsk hpl hle hp21 ht21 HS7 HSP7 HPV
 have hbd := below_d (Below.refl w21.heap.size w21)
 have HSd := Lib.hid (HS21.out.down hbd)
 have HBXd : Hid (w21.drew.heap[wb]? = some (.cells #[.slice ra R.length c, .slice ga m d, .bool single, .int .i64 B, .slice pa pl pc] 60 (0, 0))) := HBX.out
 have HKP : Hid (∀ w', TUpd (fun X => X = 31 ∨ X = 34 ∨ X = 35) w21.drew w' → (∀ q, sa = some q → w'.heap[q.block]? = w21.heap[q.block]?) → Pairs w' sa m (solF single R G m 0 (R.map run0) B) ∧ Steps w' pa pl (stpF G B m 0 (R.map run0) 0 0)) := by
  refine fun w' ht hq => ⟨⟨HSP21.out.1, fun k hk => ?_⟩, ?_⟩
  ·
   obtain ⟨b, o, e, c0, c1⟩ := HSP21.out.2 k hk
   have hh := hq _ e
   dsimp only at hh
   exact ⟨b, o, e, by rw [World.cell?_of_block (a := ⟨b, o + k * 2, none⟩) hh]; exact c0, by rw [World.cell?_of_block (a := ⟨b, o + k * 2 + 1, none⟩) hh]; exact c1⟩
  ·
   refine HSK.out w' fun b arr Ty hb hT => ht.keep hb ?_
   rcases hT with rfl | rfl <;> decide
 clear HSK HSP21 HBX HS21 hbd
 refine seq_np (fun K hK => ?_)
 have hSV := run_storeVar_row (P := Tryz.prog) w21.drew bx 31 31 #[.slice sa m sc, .int .i64 B] #[.slice sa m sc, .int .i64 B] HSd.out.x (by kernel_rfl) rfl (by simp [Value.oneCell'])
 have HSx := Lib.hid (HSd.out.setX (.slice sa m sc) (.int .i64 B))
 have HT1 := Lib.hid (tupd_row HSd.out.x #[.slice sa m sc, .int .i64 B])
 have HBx := Lib.hid (HT1.out.keep HBXd.out (by decide))
 have HQ1 : Hid (∀ b, b ≠ bx → (w21.drew.setRow bx #[.slice sa m sc, .int .i64 B]).heap[b]? = w21.heap[b]?) := fun b hb => by
  simp [World.setRow, Array.getElem?_modify, Ne.symm hb]
  rfl
 have HSS : Hid (∀ w' v1 z1, SvM w w' pB bx bp be #[.slice ra R.length c, .slice ga m d, .bool single] (.slice sa m sc) (.int .i64 B) v1 z1 → w'.heap[wb]? = some (.cells #[.slice ra R.length c, .slice ga m d, .bool single, .int .i64 B, .slice pa pl pc] 60 (0, 0)) → w'.cell? ⟨bx, 0, none⟩ = some (.slice sa m sc) ∧ w'.cell? ⟨bx, 1, none⟩ = some (.int .i64 B) ∧ w'.cell? ⟨wb, 4, none⟩ = some (.slice pa pl pc)) :=
  fun w' v1 z1 hs hb => ⟨boxed_cell (j := 0) hs.x rfl, boxed_cell (j := 1) hs.x rfl, boxed_cell (j := 4) hb rfl⟩
 refine region_any (by kernel_rfl) ?_;generalize w21.drew = wd at *;revert hF;refine zhc (fuel := 3) (fun w' => w'.cell? ⟨bx, 0, none⟩ = some (.slice sa m sc) ∧ w'.cell? ⟨bx, 1, none⟩ = some (.int .i64 B) ∧ w'.cell? ⟨wb, 4, none⟩ = some (.slice pa pl pc)) (HSS.out _ _ _ HSd.out HBXd.out) [3, 17, 40, 56, 67, 88] fun a hF => ?_;refine held_one (n := 6) (fuel := 2) (by kernel_rfl) ?_;refine op_storev rfl rfl hF rfl rfl rfl rfl hSV ?_;clear hF;refine fun a hF => ⟨?_, ?_⟩
 ·
  intro _
  exact HSS.out _ _ _ HSx.out HBx.out
 clear hSV HSd HBXd
 generalize wd.setRow bx #[.slice sa m sc, .int .i64 B] = w22 at *
 have hSV := run_storeVar_row (P := Tryz.prog) w22 bp 34 34 #[.slice none 0 0] #[.slice pa pl pc] HSx.out.y (by kernel_rfl) rfl (by simp [Value.oneCell'])
 have HSy := Lib.hid (HSx.out.setY (.slice pa pl pc))
 have HT2 := Lib.hid (tupd_row HSx.out.y #[.slice pa pl pc])
 have HBy := Lib.hid (HT2.out.keep HBx.out (by decide))
 have HQ2 : Hid (∀ b, b ≠ bp → (w22.setRow bp #[.slice pa pl pc]).heap[b]? = w22.heap[b]?) := fun b hb => by
  simp [World.setRow, Array.getElem?_modify, Ne.symm hb]
 clear HSx HBx
 refine held_one (n := 7) (fuel := 1) (by kernel_rfl) ?_;refine op_storev rfl rfl hF rfl rfl rfl rfl hSV ?_;clear hF;refine fun a hF => ⟨?_, ?_⟩
 ·
  intro _
  exact HSS.out _ _ _ HSy.out HBy.out
 clear hSV
 generalize w22.setRow bp #[.slice pa pl pc] = w23 at *
 have z0 := boxed_cell (j := 0) HSy.out.z rfl
 have f0 := Joins.unfrozen_of_block HSy.out.z 0
 have HSz := Lib.hid (HSy.out.setZ (.int .i64 0))
 have HT3 := Lib.hid (tupd_set (j := 0) HSy.out.z (.int .i64 0))
 have HBz := Lib.hid (HT3.out.keep HBy.out (by decide))
 have HQ3 : Hid (∀ b, b ≠ be → (w23.setCell ⟨be, 0, none⟩ (.int .i64 0)).heap[b]? = w23.heap[b]?) := fun b hb => by
  simp [World.setCell, Array.getElem?_modify, Ne.symm hb]
 clear HSy HBy
 refine held_one (n := 8) (fuel := 0) (by kernel_rfl) ?_;revert hF;refine qu1 fun a hF => ⟨?_, ?_⟩
 ·
  intro _
  exact HSS.out _ _ _ HSz.out HBz.out
 clear z0 f0 HSS
 generalize w23.setCell ⟨be, 0, none⟩ (.int .i64 0) = w24 at *
 refine held_end (by kernel_rfl) ?_;replace hF := hF.kp [2, 3, 4] rfl;refine hK _ _ ?_;clear hK
 refine wp_ret ?_
 try simp only [then_ret, block_ret, goto_ret]
 rw [HDF.out] at hF
 have hPS := HKP.out w24 (((HT1.out.wide fun X h => Or.inl h).trans (HT2.out.wide fun X h => Or.inr (Or.inl h))).trans (HT3.out.wide fun X h => Or.inr (Or.inr h))) fun q e => by
  obtain ⟨n1, n2, n3⟩ := HSA.out q e
  rw [HQ3.out _ n3, HQ2.out _ n2, HQ1.out _ n1]
 refine ret_leaves hF (leaves_cons (f := 23) (args := #[.pointer (some ⟨bx, 0, none⟩), .pointer (some ⟨bp, 0, none⟩), .pointer (some ⟨be, 0, none⟩)]) (by simp) (by kernel_rfl) ((solve1_idle bx bp be w24).mono ?_))
 rintro e u' w25 ⟨rfl, rfl, rfl⟩
 refine ⟨_, results3 (fn := Tryz.f11) rfl hF rfl rfl rfl HSz.out.loadX HSz.out.loadY HSz.out.loadZ, ?_⟩
 unfold GoodP
 rw [← HBE.out]
 exact ⟨HSz.out.below, Or.inl ⟨HLE.out, sa, sc, pa, pl, pc, rfl, hPS.1, hPS.2, HPL.out⟩⟩
end Go.Proofs.YthabgljdndbphaaGreatDoor
