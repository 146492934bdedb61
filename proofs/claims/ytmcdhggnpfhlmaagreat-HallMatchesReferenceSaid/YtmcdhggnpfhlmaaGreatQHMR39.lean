/- sight: the reference: Crosses. -/
import Derived.Test.YtmcdhggnpfhlmaaGreatQHMR14
import Derived.Test.YtmcdhggnpfhlmaaGreatQHMR38

set_option linter.unusedVariables false
set_option linter.unusedSimpArgs false
namespace Go.Proofs.YtmcdhggnpfhlmaaGreat
open Go.RowKit Go.IntWalk
set_option linter.unusedSimpArgs false
set_option linter.unusedVariables false
theorem sgn_pos (s : Int) : 0 < sgn s ↔ 0 < s := by
 unfold sgn
 split
 ·
  omega
 ·
  split <;> omega
theorem sgn_neg (s : Int) : sgn s < 0 ↔ s < 0 := by
 unfold sgn
 split
 ·
  omega
 ·
  split <;> omega

set_option maxRecDepth 100000 in
set_option maxHeartbeats 16000000 in
theorem rcrosses_any (w : World) (pa pb : PntR) (b : BoxR) :
  Calls Tryz.prog 71 #[.agg #[.int .i64 pa.x, .int .i64 pa.y], .agg #[.int .i64 pb.x, .int .i64 pb.y], .agg #[.int .i64 b.x, .int .i64 b.y, .int .i64 b.x2, .int .i64 b.y2]] w fun e w' => e = .returned (.bool (crossB pa pb b)) ∧ Below w.heap.size w w' := by
 obtain ⟨m1, qm1⟩ : ∃ m, (if pa.x < pb.x then pb.x else pa.x) = m := ⟨_, rfl⟩
 have um1 : max pa.x pb.x = m1 := by
  rw [← qm1]
  split <;> omega
 obtain ⟨n1, qn1⟩ : ∃ m, (if pb.x < pa.x then pb.x else pa.x) = m := ⟨_, rfl⟩
 have un1 : min pa.x pb.x = n1 := by
  rw [← qn1]
  split <;> omega
 obtain ⟨m2, qm2⟩ : ∃ m, (if pa.y < pb.y then pb.y else pa.y) = m := ⟨_, rfl⟩
 have um2 : max pa.y pb.y = m2 := by
  rw [← qm2]
  split <;> omega
 obtain ⟨n2, qn2⟩ : ∃ m, (if pb.y < pa.y then pb.y else pa.y) = m := ⟨_, rfl⟩
 have un2 : min pa.y pb.y = n2 := by
  rw [← qn2]
  split <;> omega
 have HCE := Lib.hid (cross_eq pa pb b)
 rw [um1, un1, um2, un2] at HCE
 clear um1 un1 um2 un2
 refine enter_fr (N := 150) [.agg #[.int .i64 pa.x, .int .i64 pa.y], .agg #[.int .i64 pb.x, .int .i64 pb.y], .agg #[.int .i64 b.x, .int .i64 b.y, .int .i64 b.x2, .int .i64 b.y2]] (Tryz.func71) rfl Tryz.ntmps71 (by rfl) (fun a hF => ?_);replace hF := hF.kp [0, 1, 2] rfl;refine wp_seq_k (fun K hK => ?_);refine region_seq (l := [0, 1, 2, 3]) (by kernel_rfl) ?_;refine seq_one ?_;revert hF;refine qe1 fun a hF => ?_;refine seq_one ?_;revert hF;refine qe1 fun a hF => ?_
 have HB1 := Lib.hid (Joins.below_alloc1 w (.cells #[.int .i64 pa.x, .int .i64 pa.y] 23))
 have HX1 : Hid (PntIn (w.alloc (.cells #[.int .i64 pa.x, .int .i64 pa.y] 23)) w.heap.size pa) := World.alloc_heap_new w _
 have hs1 : (w.alloc (.cells #[.int .i64 pa.x, .int .i64 pa.y] 23)).heap.size = w.heap.size + 1 := by simp only [World.alloc, Array.size_push]
 generalize w.alloc (.cells #[.int .i64 pa.x, .int .i64 pa.y] 23) = w1 at *
 refine seq_one ?_;revert hF;refine qe1 fun a hF => ?_
 have HB2 := Lib.hid (Joins.below_alloc1 w1 (.cells #[.int .i64 pb.x, .int .i64 pb.y] 23))
 have HX2 : Hid (PntIn (w1.alloc (.cells #[.int .i64 pb.x, .int .i64 pb.y] 23)) w1.heap.size pb) := World.alloc_heap_new w1 _
 have hs2 : (w1.alloc (.cells #[.int .i64 pb.x, .int .i64 pb.y] 23)).heap.size = w1.heap.size + 1 := by simp only [World.alloc, Array.size_push]
 rw [hs1] at HX2 hs2
 generalize w1.alloc (.cells #[.int .i64 pb.x, .int .i64 pb.y] 23) = w2 at *
 revert hF;refine zre 3 [2] [3, 4, 5] fun a hF => ?_
 have HB3 := Lib.hid (Joins.below_alloc1 w2 (.cells #[.int .i64 b.x, .int .i64 b.y, .int .i64 b.x2, .int .i64 b.y2] 59))
 have HX3 : Hid (BoxIn (w2.alloc (.cells #[.int .i64 b.x, .int .i64 b.y, .int .i64 b.x2, .int .i64 b.y2] 59)) w2.heap.size b) := World.alloc_heap_new w2 _
 rw [hs2] at HX3
 generalize w2.alloc (.cells #[.int .i64 b.x, .int .i64 b.y, .int .i64 b.x2, .int .i64 b.y2] 59) = w3 at *
 refine hK _ _ ?_;clear hK
 have HBB : Hid (Below w.heap.size w w3) := HB1.out.trans ((HB2.out.trans (HB3.out.mono HB2.out.size)).mono HB1.out.size)
 have HPA := Lib.hid ((HX1.out.down HB2.out).down HB3.out)
 have HPB := Lib.hid (HX2.out.down HB3.out)
 have HPX := HX3
 clear HX1 HX2 HX3 HB1 HB2 HB3 hs1 hs2
 obtain ⟨ga, hga⟩ : ∃ g, g = w.heap.size := ⟨_, rfl⟩
 obtain ⟨gb, hgb⟩ : ∃ g, g = w.heap.size + 1 := ⟨_, rfl⟩
 obtain ⟨gx, hgx⟩ : ∃ g, g = w.heap.size + 1 + 1 := ⟨_, rfl⟩
 rw [← hgx, ← hgb, ← hga] at hF
 rw [← hga] at HPA
 rw [← hgb] at HPB
 rw [← hgx] at HPX
 clear hga hgb hgx
 refine wp_seq_k (fun K hK => ?_)
 refine seq_cut (fun a' w' => ∃ z : Bool, FrF 150 [] [(3, .pointer (some ⟨ga, 0, none⟩)), (4, .pointer (some ⟨gb, 0, none⟩)), (5, .pointer (some ⟨gx, 0, none⟩)), (45, .bool z)] a' ∧ Hid (Below w.heap.size w w') ∧ Hid (PntIn w' ga pa) ∧ Hid (PntIn w' gb pb) ∧ Hid (BoxIn w' gx b) ∧ Hid (z = true → crossB pa pb b = false) ∧ Hid (z = false → ¬ b.x2 < b.x ∧ ¬ b.y2 < b.y ∧ [pa.x, pa.y, pb.x, pb.y, b.x, b.y, b.x2, b.y2].all coordB = true)) (fun KC hKC => ?_) ?_
 ·
  obtain ⟨c0, c1⟩ := HPA.out.cells
  obtain ⟨d0, d1⟩ := HPB.out.cells
  obtain ⟨e0, e1, e2, e3⟩ := HPX.out.cells
  revert hF;refine zrp [4, 4, 4, 4, 4, 4, 4, 4, 4, 4, 4, 4, 4, 4, 4, 4] [16, 17, 18, 19, 20, 21, 22, 23, 24, 25, 26, 27, 28, 29, 30, 31, 32] fun a hF => ?_;refine seq_one ?_;refine op_eff (v := ?_) (w' := ?_) rfl rfl rfl hF rfl ?_ ?_
  rotate_left 2
  ·
   intro a hF
   have s14 := hF.slot 14 _ rfl
   have s16 := hF.slot 16 _ rfl
   have s18 := hF.slot 18 _ rfl
   have s20 := hF.slot 20 _ rfl
   have s22 := hF.slot 22 _ rfl
   have s24 := hF.slot 24 _ rfl
   have s26 := hF.slot 26 _ rfl
   have s28 := hF.slot 28 _ rfl
   clear hF
   go_simp <;> first | with_reducible rfl | (constructor <;> with_reducible rfl)
  clear hF;refine fun a hF => ?_
  have HBa := Lib.hid (Joins.below_alloc1 w3 (.cells #[.int .i64 pa.x, .int .i64 pa.y, .int .i64 pb.x, .int .i64 pb.y, .int .i64 b.x, .int .i64 b.y, .int .i64 b.x2, .int .i64 b.y2] 3))
  have HR := Lib.hid (recs_alloc IntE w3 3 [pa.x, pa.y, pb.x, pb.y, b.x, b.y, b.x2, b.y2] #[.int .i64 pa.x, .int .i64 pa.y, .int .i64 pb.x, .int .i64 pb.y, .int .i64 b.x, .int .i64 b.y, .int .i64 b.x2, .int .i64 b.y2] rfl)
  have HBB4 : Hid (Below w.heap.size w (w3.alloc (.cells #[.int .i64 pa.x, .int .i64 pa.y, .int .i64 pb.x, .int .i64 pb.y, .int .i64 b.x, .int .i64 b.y, .int .i64 b.x2, .int .i64 b.y2] 3))) := HBB.out.trans (HBa.out.mono HBB.out.size)
  have HPA4 := Lib.hid (HPA.out.down HBa.out)
  have HPB4 := Lib.hid (HPB.out.down HBa.out)
  have HPX4 := Lib.hid (HPX.out.down HBa.out)
  clear HBB HPA HPB HPX HBa c0 c1 d0 d1 e0 e1 e2 e3
  have HC := Lib.hid (rok_any _ _ _ 8 _ HR.out (by simp))
  generalize w3.alloc (.cells #[.int .i64 pa.x, .int .i64 pa.y, .int .i64 pb.x, .int .i64 pb.y, .int .i64 b.x, .int .i64 b.y, .int .i64 b.x2, .int .i64 b.y2] 3) = w4 at *
  revert hF;refine zos fun K hK => ?_
  refine HC.out.mono ?_
  rintro e w5 ⟨rfl, hb5⟩
  have HBB5 : Hid (Below w.heap.size w w5) := HBB4.out.trans (hb5.mono HBB4.out.size)
  have HPA5 := Lib.hid (HPA4.out.down hb5)
  have HPB5 := Lib.hid (HPB4.out.down hb5)
  have HPX5 := Lib.hid (HPX4.out.down hb5)
  have HOFF := Lib.hid (cross_off pa pb b)
  obtain ⟨y, hy⟩ : ∃ y, [pa.x, pa.y, pb.x, pb.y, b.x, b.y, b.x2, b.y2].all coordB = y := ⟨_, rfl⟩
  rw [hy] at HOFF ⊢
  have HY := Lib.hid hy
  clear hy HC HR HBB4 HPA4 HPB4 HPX4 hb5
  obtain ⟨e0, e1, e2, e3⟩ := HPX5.out.cells
  cases y
  ·
   refine hK _ _ (fun a hF => ?_);clear hK K;revert hF;refine zre 18 [4, 1, 0, 0, 0, 0, 0, 5, 1, 0, 0, 0, 0, 0, 5] [3, 4, 5, 45] fun a hF => ?_
   exact hKC _ _ ⟨true, hF, HBB5, HPA5, HPB5, HPX5, fun _ => HOFF.out (Or.inl rfl), fun h => by cases h⟩
  by_cases h1 : b.x2 < b.x
  ·
   have hb1 : decide (b.x2 < b.x) = true := decide_eq_true h1
   refine hK _ _ (fun a hF => ?_);clear hK K;revert hF;refine zre 18 [4, 1, 4, 4, 4, 4, 5, 5, 1, 0, 0, 0, 0, 0, 5] [3, 4, 5, 45] fun a hF => ?_
   exact hKC _ _ ⟨true, hF, HBB5, HPA5, HPB5, HPX5, fun _ => HOFF.out (Or.inr (Or.inl h1)), fun h => by cases h⟩
  have hb1 : decide (b.x2 < b.x) = false := decide_eq_false h1
  by_cases h2 : b.y2 < b.y
  ·
   have hb2 : decide (b.y2 < b.y) = true := decide_eq_true h2
   refine hK _ _ (fun a hF => ?_);clear hK K;revert hF;refine zre 18 [4, 1, 4, 4, 4, 4, 5, 5, 1, 4, 4, 4, 4, 5, 5] [3, 4, 5, 45] fun a hF => ?_
   exact hKC _ _ ⟨true, hF, HBB5, HPA5, HPB5, HPX5, fun _ => HOFF.out (Or.inr (Or.inr h2)), fun h => by cases h⟩
  have hb2 : decide (b.y2 < b.y) = false := decide_eq_false h2
  refine hK _ _ (fun a hF => ?_);clear hK K;revert hF;refine zre 18 [4, 1, 4, 4, 4, 4, 5, 5, 1, 4, 4, 4, 4, 5, 5] [3, 4, 5, 45] fun a hF => ?_
  exact hKC _ _ ⟨false, hF, HBB5, HPA5, HPB5, HPX5, (fun h => by cases h), fun _ => ⟨h1, h2, HY.out⟩⟩
 clear hF HBB HPA HPB HPX
 rintro a w4 ⟨z, hF, HBB, HPA, HPB, HPX, HZ1, HZ2⟩
 cases z
 rotate_left
 ·
  refine cond_yes hF rfl ?_
  revert hF;refine zrs [2] [6] fun a hF => ?_;refine wp_ret ?_;(try simp only [then_ret, block_ret, goto_ret]);revert hF;refine zq ?_
  exact ⟨by rw [HZ1.out rfl]; rfl, HBB.out⟩
 refine cond_no hF rfl ?_
 refine wp_skip ?_
 refine hK _ _ ?_;clear hK
 have HZ := Lib.hid (HZ2.out rfl)
 clear HZ1 HZ2
 replace hF := hF.kp [3, 4, 5] rfl;refine wp_seq_k (fun K hK => ?_)
 refine seq_cut (fun a' w' => ∃ z : Bool, FrF 150 [] [(3, .pointer (some ⟨ga, 0, none⟩)), (4, .pointer (some ⟨gb, 0, none⟩)), (5, .pointer (some ⟨gx, 0, none⟩)), (83, .bool z)] a' ∧ w' = w4 ∧ Hid ((decide (m1 < b.x) || decide (b.x2 < n1) || decide (m2 < b.y) || decide (b.y2 < n2)) = z)) (fun KC hKC => ?_) ?_
 ·
  obtain ⟨c0, c1⟩ := HPA.out.cells
  obtain ⟨d0, d1⟩ := HPB.out.cells
  obtain ⟨e0, e1, e2, e3⟩ := HPX.out.cells
  by_cases h1 : m1 < b.x
  ·
   have hb1 : decide (m1 < b.x) = true := decide_eq_true h1
   revert hF;refine zrg [4, 4, 4, 4, 5, 4, 4, 5, 1, 0, 0, 0, 0, 0, 0, 0, 0, 5, 1, 0, 0, 0, 0, 0, 0, 0, 0, 5, 1, 0, 0, 0, 0, 0, 0, 0, 0, 5] [3, 4, 5, 83] fun a hF => ?_
   exact hKC _ _ ⟨true, hF, rfl, by show _ = _; simp [h1]⟩
  have hb1 : decide (m1 < b.x) = false := decide_eq_false h1
  by_cases h2 : b.x2 < n1
  ·
   have hb2 : decide (b.x2 < n1) = true := decide_eq_true h2
   revert hF;refine zrg [4, 4, 4, 4, 5, 4, 4, 5, 1, 4, 4, 4, 4, 5, 4, 4, 5, 5, 1, 0, 0, 0, 0, 0, 0, 0, 0, 5, 1, 0, 0, 0, 0, 0, 0, 0, 0, 5] [3, 4, 5, 83] fun a hF => ?_
   exact hKC _ _ ⟨true, hF, rfl, by show _ = _; simp [h1, h2]⟩
  have hb2 : decide (b.x2 < n1) = false := decide_eq_false h2
  by_cases h3 : m2 < b.y
  ·
   have hb3 : decide (m2 < b.y) = true := decide_eq_true h3
   revert hF;refine zrg [4, 4, 4, 4, 5, 4, 4, 5, 1, 4, 4, 4, 4, 5, 4, 4, 5, 5, 1, 4, 4, 4, 4, 5, 4, 4, 5, 5, 1, 0, 0, 0, 0, 0, 0, 0, 0, 5] [3, 4, 5, 83] fun a hF => ?_
   exact hKC _ _ ⟨true, hF, rfl, by show _ = _; simp [h1, h2, h3]⟩
  have hb3 : decide (m2 < b.y) = false := decide_eq_false h3
  by_cases h4 : b.y2 < n2
  ·
   have hb4 : decide (b.y2 < n2) = true := decide_eq_true h4
   revert hF;refine zrg [4, 4, 4, 4, 5, 4, 4, 5, 1, 4, 4, 4, 4, 5, 4, 4, 5, 5, 1, 4, 4, 4, 4, 5, 4, 4, 5, 5, 1, 4, 4, 4, 4, 5, 4, 4, 5, 5] [3, 4, 5, 83] fun a hF => ?_
   exact hKC _ _ ⟨true, hF, rfl, by show _ = _; simp [h1, h2, h3, h4]⟩
  have hb4 : decide (b.y2 < n2) = false := decide_eq_false h4
  revert hF;refine zrg [4, 4, 4, 4, 5, 4, 4, 5, 1, 4, 4, 4, 4, 5, 4, 4, 5, 5, 1, 4, 4, 4, 4, 5, 4, 4, 5, 5, 1, 4, 4, 4, 4, 5, 4, 4, 5, 5] [3, 4, 5, 83] fun a hF => ?_
  exact hKC _ _ ⟨false, hF, rfl, by show _ = _; simp [h1, h2, h3, h4]⟩
 clear hF
 rintro a wq ⟨z, hF, hwq, HZZ⟩
 rw [hwq]
 clear hwq wq
 have HCR := Lib.hid (HCE.out HZ.out.2.2 HZ.out.1 HZ.out.2.1 z HZZ.out)
 clear HCE HZZ qm1 qn1 qm2 qn2
 cases z
 rotate_left
 ·
  refine cond_yes hF rfl ?_
  revert hF;refine zrs [2] [6] fun a hF => ?_;refine wp_ret ?_;(try simp only [then_ret, block_ret, goto_ret]);revert hF;refine zq ?_
  exact ⟨by rw [HCR.out]; rfl, HBB.out⟩
 refine cond_no hF rfl ?_
 refine wp_skip ?_
 refine hK _ _ ?_;clear hK;replace hF := hF.kp [3, 4, 5] rfl
 have hco : ∀ n ∈ [pa.x, pa.y, pb.x, pb.y, b.x, b.y, b.x2, b.y2], 0 ≤ n ∧ n ≤ 10000 := fun n hn => by
  have := List.all_eq_true.1 HZ.out.2.2 n hn
  simpa [coordB] using this
 have HOKA : Hid (PntOk pa) := ⟨(hco pa.x (by simp)).1, (hco pa.x (by simp)).2, (hco pa.y (by simp)).1, (hco pa.y (by simp)).2⟩
 have HOKB : Hid (PntOk pb) := ⟨(hco pb.x (by simp)).1, (hco pb.x (by simp)).2, (hco pb.y (by simp)).1, (hco pb.y (by simp)).2⟩
 have HOKC : Hid (∀ c ∈ cornL b, PntOk c) := fun c hc => by
  have h1 := hco b.x (by simp)
  have h2 := hco b.y (by simp)
  have h3 := hco b.x2 (by simp)
  have h4 := hco b.y2 (by simp)
  simp only [cornL, List.mem_cons, List.not_mem_nil, or_false] at hc
  rcases hc with rfl | rfl | rfl | rfl
  ·
   exact ⟨h1.1, h1.2, h2.1, h2.2⟩
  ·
   exact ⟨h3.1, h3.2, h2.1, h2.2⟩
  ·
   exact ⟨h1.1, h1.2, h4.1, h4.2⟩
  ·
   exact ⟨h3.1, h3.2, h4.1, h4.2⟩
 clear hco HZ
 rw [if_neg (by decide)] at HCR
 obtain ⟨c0, c1⟩ := HPA.out.cells
 obtain ⟨d0, d1⟩ := HPB.out.cells
 obtain ⟨e0, e1, e2, e3⟩ := HPX.out.cells
 refine wp_seq_k (fun K hK => ?_);revert hF;refine zrp [4, 4, 4, 4, 4, 4, 5] [7, 8] fun a hF => ?_;revert hF;refine zos fun K hK => ?_
 have HT := Lib.hid (turn_any w4 pa pb ⟨b.x, b.y⟩ HOKA.out HOKB.out (HOKC.out _ (by simp [cornL])))
 refine HT.out.mono ?_
 rintro e w5 ⟨rfl, hb⟩
 have HBBn : Hid (Below w.heap.size w w5) := HBB.out.trans (hb.mono HBB.out.size)
 have HPAn := Lib.hid (HPA.out.down hb)
 have HPBn := Lib.hid (HPB.out.down hb)
 have HPXn := Lib.hid (HPX.out.down hb)
 clear hb HT c0 c1 d0 d1 e0 e1 e2 e3 HBB HPA HPB HPX
 rename Hid (Below w.heap.size w w5) => HBB
 rename Hid (PntIn w5 ga pa) => HPA
 rename Hid (PntIn w5 gb pb) => HPB
 rename Hid (BoxIn w5 gx b) => HPX
 obtain ⟨s1, hs1⟩ : ∃ s, s = sideS pa pb ⟨b.x, b.y⟩ := ⟨_, rfl⟩
 rw [← hs1]
 have HS1 := Lib.hid hs1
 clear hs1
 refine hK _ _ (fun a hF => ?_);clear hK K;revert hF;refine zre 8 [2] [3, 4, 5, 7] fun a hF => ?_;refine hK _ _ ?_;clear hK
 obtain ⟨c0, c1⟩ := HPA.out.cells
 obtain ⟨d0, d1⟩ := HPB.out.cells
 obtain ⟨e0, e1, e2, e3⟩ := HPX.out.cells
 refine wp_seq_k (fun K hK => ?_);revert hF;refine zrp [4, 4, 4, 4, 4, 4, 5] [7, 8] fun a hF => ?_;revert hF;refine zos fun K hK => ?_
 have HT := Lib.hid (turn_any w5 pa pb ⟨b.x2, b.y⟩ HOKA.out HOKB.out (HOKC.out _ (by simp [cornL])))
 refine HT.out.mono ?_
 rintro e w6 ⟨rfl, hb⟩
 have HBBn : Hid (Below w.heap.size w w6) := HBB.out.trans (hb.mono HBB.out.size)
 have HPAn := Lib.hid (HPA.out.down hb)
 have HPBn := Lib.hid (HPB.out.down hb)
 have HPXn := Lib.hid (HPX.out.down hb)
 clear hb HT c0 c1 d0 d1 e0 e1 e2 e3 HBB HPA HPB HPX
 rename Hid (Below w.heap.size w w6) => HBB
 rename Hid (PntIn w6 ga pa) => HPA
 rename Hid (PntIn w6 gb pb) => HPB
 rename Hid (BoxIn w6 gx b) => HPX
 obtain ⟨s2, hs2⟩ : ∃ s, s = sideS pa pb ⟨b.x2, b.y⟩ := ⟨_, rfl⟩
 rw [← hs2]
 have HS2 := Lib.hid hs2
 clear hs2
 refine hK _ _ (fun a hF => ?_);clear hK K;revert hF;refine zre 8 [2] [3, 4, 5, 7, 8] fun a hF => ?_;refine hK _ _ ?_;clear hK
 obtain ⟨c0, c1⟩ := HPA.out.cells
 obtain ⟨d0, d1⟩ := HPB.out.cells
 obtain ⟨e0, e1, e2, e3⟩ := HPX.out.cells
 refine wp_seq_k (fun K hK => ?_);revert hF;refine zrp [4, 4, 4, 4, 4, 4, 5] [7, 8] fun a hF => ?_;revert hF;refine zos fun K hK => ?_
 have HT := Lib.hid (turn_any w6 pa pb ⟨b.x, b.y2⟩ HOKA.out HOKB.out (HOKC.out _ (by simp [cornL])))
 refine HT.out.mono ?_
 rintro e w7 ⟨rfl, hb⟩
 have HBBn : Hid (Below w.heap.size w w7) := HBB.out.trans (hb.mono HBB.out.size)
 have HPAn := Lib.hid (HPA.out.down hb)
 have HPBn := Lib.hid (HPB.out.down hb)
 have HPXn := Lib.hid (HPX.out.down hb)
 clear hb HT c0 c1 d0 d1 e0 e1 e2 e3 HBB HPA HPB HPX
 rename Hid (Below w.heap.size w w7) => HBB
 rename Hid (PntIn w7 ga pa) => HPA
 rename Hid (PntIn w7 gb pb) => HPB
 rename Hid (BoxIn w7 gx b) => HPX
 obtain ⟨s3, hs3⟩ : ∃ s, s = sideS pa pb ⟨b.x, b.y2⟩ := ⟨_, rfl⟩
 rw [← hs3]
 have HS3 := Lib.hid hs3
 clear hs3
 refine hK _ _ (fun a hF => ?_);clear hK K;revert hF;refine zre 8 [2] [3, 4, 5, 7, 8, 9] fun a hF => ?_;refine hK _ _ ?_;clear hK
 obtain ⟨c0, c1⟩ := HPA.out.cells
 obtain ⟨d0, d1⟩ := HPB.out.cells
 obtain ⟨e0, e1, e2, e3⟩ := HPX.out.cells
 refine wp_seq_k (fun K hK => ?_);revert hF;refine zrp [4, 4, 4, 4, 4, 4, 5] [7, 8] fun a hF => ?_;revert hF;refine zos fun K hK => ?_
 have HT := Lib.hid (turn_any w7 pa pb ⟨b.x2, b.y2⟩ HOKA.out HOKB.out (HOKC.out _ (by simp [cornL])))
 refine HT.out.mono ?_
 rintro e w8 ⟨rfl, hb⟩
 have HBBn : Hid (Below w.heap.size w w8) := HBB.out.trans (hb.mono HBB.out.size)
 have HPAn := Lib.hid (HPA.out.down hb)
 have HPBn := Lib.hid (HPB.out.down hb)
 have HPXn := Lib.hid (HPX.out.down hb)
 clear hb HT c0 c1 d0 d1 e0 e1 e2 e3 HBB HPA HPB HPX
 rename Hid (Below w.heap.size w w8) => HBB
 rename Hid (PntIn w8 ga pa) => HPA
 rename Hid (PntIn w8 gb pb) => HPB
 rename Hid (BoxIn w8 gx b) => HPX
 obtain ⟨s4, hs4⟩ : ∃ s, s = sideS pa pb ⟨b.x2, b.y2⟩ := ⟨_, rfl⟩
 rw [← hs4]
 have HS4 := Lib.hid hs4
 clear hs4
 refine hK _ _ (fun a hF => ?_);clear hK K;revert hF;refine zre 8 [2] [7, 8, 9, 10] fun a hF => ?_;refine hK _ _ ?_;clear hK
 clear HPA HPB HPX HOKA HOKB HOKC
 have HSL : Hid (sidesL pa pb b = [s1, s2, s3, s4]) := by
  show _ = _
  rw [HS1.out, HS2.out, HS3.out, HS4.out]
  rfl
 rw [HSL.out] at HCR
 clear HS1 HS2 HS3 HS4 HSL
 have q1 := sgn_pos s1
 have q2 := sgn_pos s2
 have q3 := sgn_pos s3
 have q4 := sgn_pos s4
 have n1' := sgn_neg s1
 have n2' := sgn_neg s2
 have n3' := sgn_neg s3
 have n4' := sgn_neg s4
 generalize sgn s1 = g1 at *
 generalize sgn s2 = g2 at *
 generalize sgn s3 = g3 at *
 generalize sgn s4 = g4 at *
 simp only [List.all_cons, List.all_nil, Bool.and_true] at HCR
 refine seq_cut (fun a' w' => FrF 150 [] [(7, .int .i64 g1), (8, .int .i64 g2), (9, .int .i64 g3), (10, .int .i64 g4), (11, .bool (decide (0 < s1) && (decide (0 < s2) && (decide (0 < s3) && decide (0 < s4)))))] a' ∧ w' = w8) (fun KC hKC => ?_) ?_
 ·
  by_cases h1 : 0 < s1
  rotate_left
  ·
   have hb1 : decide (0 < g1) = false := decide_eq_false (mt q1.1 h1)
   rw [decide_eq_false h1] at hKC
   simp only [Bool.and_false, Bool.false_and] at hKC
   revert hF;refine zrg [1, 4, 1, 0, 0, 5, 1, 0, 0, 5, 1, 0, 0, 5, 2] [7, 8, 9, 10, 11] fun a hF => ?_
   exact hKC _ _ ⟨hF, rfl⟩
  have hb1 : decide (0 < g1) = true := decide_eq_true (q1.2 h1)
  by_cases h2 : 0 < s2
  rotate_left
  ·
   have hb2 : decide (0 < g2) = false := decide_eq_false (mt q2.1 h2)
   rw [decide_eq_false h2] at hKC
   simp only [Bool.and_false, Bool.false_and] at hKC
   revert hF;refine zrg [1, 4, 1, 1, 4, 5, 1, 0, 0, 5, 1, 0, 0, 5, 2] [7, 8, 9, 10, 11] fun a hF => ?_
   exact hKC _ _ ⟨hF, rfl⟩
  have hb2 : decide (0 < g2) = true := decide_eq_true (q2.2 h2)
  by_cases h3 : 0 < s3
  rotate_left
  ·
   have hb3 : decide (0 < g3) = false := decide_eq_false (mt q3.1 h3)
   rw [decide_eq_false h3] at hKC
   simp only [Bool.and_false, Bool.false_and] at hKC
   revert hF;refine zrg [1, 4, 1, 1, 4, 5, 1, 1, 4, 5, 1, 0, 0, 5, 2] [7, 8, 9, 10, 11] fun a hF => ?_
   exact hKC _ _ ⟨hF, rfl⟩
  have hb3 : decide (0 < g3) = true := decide_eq_true (q3.2 h3)
  by_cases h4 : 0 < s4
  rotate_left
  ·
   have hb4 : decide (0 < g4) = false := decide_eq_false (mt q4.1 h4)
   rw [decide_eq_false h4] at hKC
   simp only [Bool.and_false, Bool.false_and] at hKC
   revert hF;refine zrg [1, 4, 1, 1, 4, 5, 1, 1, 4, 5, 1, 1, 4, 5, 2] [7, 8, 9, 10, 11] fun a hF => ?_
   exact hKC _ _ ⟨hF, rfl⟩
  have hb4 : decide (0 < g4) = true := decide_eq_true (q4.2 h4)
  rw [decide_eq_true h1, decide_eq_true h2, decide_eq_true h3, decide_eq_true h4] at hKC
  revert hF;refine zrg [1, 4, 1, 1, 4, 5, 1, 1, 4, 5, 1, 1, 4, 5, 2] [7, 8, 9, 10, 11] fun a hF => ?_
  exact hKC _ _ ⟨hF, rfl⟩
 clear hF
 rintro a w9a ⟨hF, hw9⟩
 rw [hw9]
 clear hw9
 obtain ⟨y1, hy1⟩ : ∃ y, y = (decide (0 < s1) && (decide (0 < s2) && (decide (0 < s3) && decide (0 < s4)))) := ⟨_, rfl⟩
 rw [← hy1] at hF HCR
 clear hy1
 refine seq_cut (fun a' w' => FrF 150 [] [(11, .bool y1), (12, .bool (decide (s1 < 0) && (decide (s2 < 0) && (decide (s3 < 0) && decide (s4 < 0)))))] a' ∧ w' = w8) (fun KC hKC => ?_) ?_
 ·
  by_cases h1 : s1 < 0
  rotate_left
  ·
   have hb1 : decide (g1 < 0) = false := decide_eq_false (mt n1'.1 h1)
   rw [decide_eq_false h1] at hKC
   simp only [Bool.and_false, Bool.false_and] at hKC
   revert hF;refine zrg [1, 4, 1, 0, 0, 5, 1, 0, 0, 5, 1, 0, 0, 5, 2] [11, 12] fun a hF => ?_
   exact hKC _ _ ⟨hF, rfl⟩
  have hb1 : decide (g1 < 0) = true := decide_eq_true (n1'.2 h1)
  by_cases h2 : s2 < 0
  rotate_left
  ·
   have hb2 : decide (g2 < 0) = false := decide_eq_false (mt n2'.1 h2)
   rw [decide_eq_false h2] at hKC
   simp only [Bool.and_false, Bool.false_and] at hKC
   revert hF;refine zrg [1, 4, 1, 1, 4, 5, 1, 0, 0, 5, 1, 0, 0, 5, 2] [11, 12] fun a hF => ?_
   exact hKC _ _ ⟨hF, rfl⟩
  have hb2 : decide (g2 < 0) = true := decide_eq_true (n2'.2 h2)
  by_cases h3 : s3 < 0
  rotate_left
  ·
   have hb3 : decide (g3 < 0) = false := decide_eq_false (mt n3'.1 h3)
   rw [decide_eq_false h3] at hKC
   simp only [Bool.and_false, Bool.false_and] at hKC
   revert hF;refine zrg [1, 4, 1, 1, 4, 5, 1, 1, 4, 5, 1, 0, 0, 5, 2] [11, 12] fun a hF => ?_
   exact hKC _ _ ⟨hF, rfl⟩
  have hb3 : decide (g3 < 0) = true := decide_eq_true (n3'.2 h3)
  by_cases h4 : s4 < 0
  rotate_left
  ·
   have hb4 : decide (g4 < 0) = false := decide_eq_false (mt n4'.1 h4)
   rw [decide_eq_false h4] at hKC
   simp only [Bool.and_false, Bool.false_and] at hKC
   revert hF;refine zrg [1, 4, 1, 1, 4, 5, 1, 1, 4, 5, 1, 1, 4, 5, 2] [11, 12] fun a hF => ?_
   exact hKC _ _ ⟨hF, rfl⟩
  have hb4 : decide (g4 < 0) = true := decide_eq_true (n4'.2 h4)
  rw [decide_eq_true h1, decide_eq_true h2, decide_eq_true h3, decide_eq_true h4] at hKC
  revert hF;refine zrg [1, 4, 1, 1, 4, 5, 1, 1, 4, 5, 1, 1, 4, 5, 2] [11, 12] fun a hF => ?_
  exact hKC _ _ ⟨hF, rfl⟩
 clear hF
 rintro a w9b ⟨hF, hw9⟩
 rw [hw9]
 clear hw9
 obtain ⟨y2, hy2⟩ : ∃ y, y = (decide (s1 < 0) && (decide (s2 < 0) && (decide (s3 < 0) && decide (s4 < 0)))) := ⟨_, rfl⟩
 rw [← hy2] at hF HCR
 clear hy2
 cases y1
 ·
  revert hF;refine zrs [1, 4, 1, 1, 4, 5, 2] [6] fun a hF => ?_;refine wp_ret ?_;(try simp only [then_ret, block_ret, goto_ret]);revert hF;refine zq ?_
  exact ⟨by rw [HCR.out]; rfl, HBB.out⟩
 ·
  revert hF;refine zrs [1, 4, 1, 0, 0, 5, 2] [6] fun a hF => ?_;refine wp_ret ?_;(try simp only [then_ret, block_ret, goto_ret]);revert hF;refine zq ?_
  exact ⟨by rw [HCR.out]; rfl, HBB.out⟩
end Go.Proofs.YtmcdhggnpfhlmaaGreat
