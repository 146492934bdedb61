/- pack.solution: the walk. -/
import Derived.Test.YthabgljdndbphaaGreatDoorQPKM23

set_option linter.unusedVariables false
set_option linter.unusedSimpArgs false
namespace Go.Proofs.YthabgljdndbphaaGreatDoor
open Go.RowKit Go.IntWalk Go.Maps Go.WideMaps
set_option linter.unusedSimpArgs false
set_option linter.unusedVariables false
def run0 (x : Int) : Int × Bool := (x, false)
theorem packF_start {single : Bool} {G : List (Int × Int)} {R : List Int} : ∀ k g, 0 ≤ packF single G k g (R.map run0)
 | 0, g => by
  rw [packF_zero, if_neg]
  ·
   exact Int.le_refl _
  ·
   rintro ⟨_, r, hr, h1, _⟩
   obtain ⟨x, _, rfl⟩ := List.mem_map.1 hr
   cases h1
 | k + 1, g => Int.le_trans (packF_start k (g + 1)) (packF_spec single G k g (R.map run0)).1
theorem sol_cnt {g n i m : Nat} (hg : g < m) (hi : i < n) : 1 + (g * n + i) + 1 ≤ 1 + m * n := by
 have : (g + 1) * n ≤ m * n := Nat.mul_le_mul_right n hg
 rw [Nat.add_mul] at this
 omega
theorem ix_get {R : List Int} {i : Nat} (h : i < R.length) : ix R i = R[i] := by unfold ix; simp [h]
set_option maxRecDepth 100000 in
set_option maxHeartbeats 16000000 in
theorem solution_any (w : World) (ra ga : Option Addr) (c m d : Nat) (single : Bool) (R : List Int) (G : List (Int × Int)) (hn : R.length ≤ 4000) (hm : m ≤ 4000) (hR : Ints w ra R.length R) (hG : Pairs w ga m G) (hv : ValuesOk G) (hRb : ∀ x ∈ R, 0 ≤ x ∧ x ≤ 4000) (hk : PKit w) (hN : (1 + m * R.length) * vcap R.length m ≤ 9000000000000000000) :
  Calls Tryz.prog 24 #[.agg #[.slice ra R.length c, .slice ga m d, .bool single]] w fun e w' => ∃ sa sc, e = .returned (.agg #[.slice sa m sc, .int .i64 (packF single G m 0 (R.map run0))]) ∧
   Below w.heap.size w w' ∧ Pairs w' sa m (solF single R G m 0 (R.map run0) (packF single G m 0 (R.map run0))) ∧ ∀ q, sa = some q → w.heap.size ≤ q.block := by
 have HR := Lib.hid hR
 have HG := Lib.hid hG
 have HV := Lib.hid hv
 have HK := Lib.hid hk
 have HRB := Lib.hid hRb
 have HN9 := Lib.hid hN
 clear hR hG hv hk hRb hN
 refine enter_fr (N := 108) [.agg #[.slice ra R.length c, .slice ga m d, .bool single]] (Tryz.func24) rfl Tryz.ntmps24 (by rfl) (fun a hF => ?_);replace hF := hF.kp [0] rfl;refine wp_seq_k (fun K hK => ?_);refine region_seq (l := [0, 1]) (by kernel_rfl) ?_;refine seq_one ?_;revert hF;refine qe1 fun a hF => ?_
 have HP1 : Hid ((w.alloc (.cells #[.slice ra R.length c, .slice ga m d, .bool single] 25)).heap[w.heap.size]? = some (.cells #[.slice ra R.length c, .slice ga m d, .bool single] 25 (0, 0))) := heap_new _ _
 have HB1 : Hid (Below w.heap.size w (w.alloc (.cells #[.slice ra R.length c, .slice ga m d, .bool single] 25))) := Joins.below_alloc1 w _
 generalize w.alloc (.cells #[.slice ra R.length c, .slice ga m d, .bool single] 25) = w1 at *
 obtain ⟨pB, hpb⟩ : ∃ x, x = w.heap.size := ⟨_, rfl⟩
 rw [← hpb] at hF HP1
 clear hpb
 refine seq_one ?_;revert hF;refine qe0 fun a hF => ?_
 have hbx := Joins.below_alloc1 w1 (.cells #[.slice none 0 0, .int .i64 0] 31)
 have HB0 : Hid (Below w.heap.size w (w1.alloc (.cells #[.slice none 0 0, .int .i64 0] 31)) ∧ (w1.alloc (.cells #[.slice none 0 0, .int .i64 0] 31)).heap[pB]? = some (.cells #[.slice ra R.length c, .slice ga m d, .bool single] 25 (0, 0)) ∧ (w1.alloc (.cells #[.slice none 0 0, .int .i64 0] 31)).heap[w1.heap.size]? = some (.cells #[.slice none 0 0, .int .i64 0] 31 (0, 0))) :=
  ⟨HB1.out.trans (hbx.mono HB1.out.size), (hbx.block pB (lt_of_block HP1.out)).trans HP1.out, heap_new _ _⟩
 have HXW : Hid (w.heap.size ≤ w1.heap.size) := HB1.out.size
 clear hbx HP1 HB1
 generalize w1.alloc (.cells #[.slice none 0 0, .int .i64 0] 31) = w2 at *
 generalize w1.heap.size = xr at *
 refine seq_end ?_;replace hF := hF.kp [1, 2] rfl;refine hK _ _ ?_;clear hK;revert hF;refine zrs [2] [1, 2, 3] fun a hF => ?_
 have HO0 : Hid (w2.ownsRow w.heap.size 63 2 (.slice none 0 0) 0 (flat RunE ((R.take 0).map run0))) := nil_row
 refine seq_cut (fun a' w' => ∃ v : Value, FrF 108 [] [(1, .pointer (some ⟨pB, 0, none⟩)), (2, .pointer (some ⟨xr, 0, none⟩)), (3, v)] a' ∧ Hid (Below w.heap.size w w' ∧ w'.heap[pB]? = some (.cells #[.slice ra R.length c, .slice ga m d, .bool single] 25 (0, 0)) ∧ w'.heap[xr]? = some (.cells #[.slice none 0 0, .int .i64 0] 31 (0, 0))) ∧ Hid (w'.ownsRow w.heap.size 63 2 v R.length (flat RunE ((R.take R.length).map run0)))) (fun KAi hKAi => ?_) ?_
 ·
  skip
  have p0 := boxed_cell (j := 0) HB0.out.2.1 rfl
  revert hF;refine zrs [4, 4, 4, 1] [1, 2, 3, 18, 19, 20] fun a hF => ?_
  clear p0
  refine wp_block ?_
  refine loop_fr (fun qi a' w' => ∃ i : Nat, i + qi = R.length ∧ ∃ v : Value, FrF 108 [] [(1, .pointer (some ⟨pB, 0, none⟩)), (2, .pointer (some ⟨xr, 0, none⟩)), (3, v), (18, .slice ra R.length c), (19, .int .i64 R.length), (20, .int .i64 i)] a' ∧ Hid (Below w.heap.size w w' ∧ w'.heap[pB]? = some (.cells #[.slice ra R.length c, .slice ga m d, .bool single] 25 (0, 0)) ∧ w'.heap[xr]? = some (.cells #[.slice none 0 0, .int .i64 0] 31 (0, 0))) ∧ Hid (w'.ownsRow w.heap.size 63 2 v i (flat RunE ((R.take i).map run0)))) (R.length) ⟨0, by omega, _, hF, HB0, HO0⟩ ?_
  clear hF HB0  HO0
  rintro rki a wr ⟨i, hiki, v, hF, HB, HO⟩ KBi hKBi
  by_cases hlt : i < R.length
  rotate_left
  ·
   have hlti : ¬ (i : Int) < (R.length : Nat) := by omega
   revert hF;refine zrs [5] [1, 2, 3, 18, 19, 20, 21] fun a hF => ?_;refine wp_seq_k (fun K hK => ?_)
   refine cond_no hF rfl ?_
   refine wp_exit ?_
   have hie : i = R.length := by omega
   rw [hie] at HO
   exact hKAi _ _ ⟨_, hF.sub ⟨rfl, rfl, rfl, trivial⟩, HB, HO⟩
  have hlti : (i : Int) < (R.length : Nat) := by omega
  revert hF;refine zrs [5] [1, 2, 3, 18, 19, 20, 21] fun a hF => ?_;refine wp_seq_k (fun K hK => ?_)
  refine cond_yes hF rfl ?_
  refine wp_skip ?_
  refine hK _ _ ?_;clear hK;replace hF := hF.kp [1, 2, 3, 18, 19, 20] rfl
  clear hKAi
  refine seq_cut (fun a' w' => ∃ v : Value, FrF 108 [] [(1, .pointer (some ⟨pB, 0, none⟩)), (2, .pointer (some ⟨xr, 0, none⟩)), (3, v), (18, .slice ra R.length c), (19, .int .i64 R.length), (20, .int .i64 i)] a' ∧ Hid (Below w.heap.size w w' ∧ w'.heap[pB]? = some (.cells #[.slice ra R.length c, .slice ga m d, .bool single] 25 (0, 0)) ∧ w'.heap[xr]? = some (.cells #[.slice none 0 0, .int .i64 0] 31 (0, 0))) ∧ Hid (w'.ownsRow w.heap.size 63 2 v (i + 1) (flat RunE ((R.take (i + 1)).map run0)))) (fun KCi hKCi => ?_) ?_
  rotate_left
  ·
   clear hF HB HO
   rintro a w' ⟨v, hF, HB, HO⟩
   have hws : IntKind.i64.wrap ((i : Int) + 1) = ((i + 1 : Nat) : Int) := wrap_succ (by omega)
   revert hF;refine zrg [4, 1] [1, 2, 3, 18, 19, 20] fun a hF => ?_
   exact hKBi (R.length - (i + 1)) _ _ (by omega) ⟨i + 1, by omega, _, hF, HB, HO⟩
  clear hKBi hiki
  refine wp_block ?_
  have hil : i < R.length := hlt
  obtain ⟨bb, oo, hra, c0⟩ := (HR.out.below HB.out.1).2 i hlt
  have hir : ix R i = R[i] := ix_get hil
  rw [hir] at c0
  have HRA := Lib.hid hra
  rw [hra] at hF
  clear hra hir
  have hii : (i : Int) < (R.length : Nat) := by omega
  have hxt : (R.take (i + 1)).map run0 = (R.take i).map run0 ++ [run0 R[i]] := by rw [List.take_succ_eq_append_getElem hil, List.map_append]; rfl
  rw [hxt] at hKCi
  clear hxt
  have hll : ((R.take i).map run0).length = i := by simp; omega
  obtain ⟨r, hr⟩ : ∃ r, r = R[i] := ⟨_, rfl⟩
  rw [← hr] at c0 hKCi
  clear hr
  revert hF;refine zrs [5, 4, 2] [1, 2, 3, 5, 18, 19, 20] fun a hF => ?_
  clear c0
  revert hF;refine zrp [1, 1, 4] [3, 4, 5] fun a hF => ?_;refine seq_one ?_;revert hF;refine qe1 fun a hF => ?_
  have HN := Lib.hid (recs_alloc RunE wr 63 [run0 r] #[.int .i64 r, .bool false] rfl)
  have HBa := Lib.hid (Joins.below_alloc1 wr (.cells #[.int .i64 r, .bool false] 63))
  have HO5 := Lib.hid (row_of_heap HO.out fun b hb => HBa.out.block b (HO.out.lt b hb).2)
  have HB5 : Hid (Below w.heap.size w (wr.alloc (.cells #[.int .i64 r, .bool false] 63)) ∧ (wr.alloc (.cells #[.int .i64 r, .bool false] 63)).heap[pB]? = some (.cells #[.slice ra R.length c, .slice ga m d, .bool single] 25 (0, 0)) ∧ (wr.alloc (.cells #[.int .i64 r, .bool false] 63)).heap[xr]? = some (.cells #[.slice none 0 0, .int .i64 0] 31 (0, 0))) := ⟨HB.out.1.trans (HBa.out.mono HB.out.1.size), (HBa.out.block pB (lt_of_block HB.out.2.1)).trans HB.out.2.1, (HBa.out.block xr (lt_of_block HB.out.2.2)).trans HB.out.2.2⟩
  clear HBa HO HB
  generalize wr.alloc (.cells #[.int .i64 r, .bool false] 63) = w5 at *
  obtain ⟨v', w6, hAPP, ho, hg, _⟩ := append_recs (E := RunE) 61 63 61 Tryz.underlying61 info_run rfl (by decide) HO5.out (u := .slice (some ⟨wr.heap.size, 0, none⟩) 1 1) ⟨_, _, rfl, HN.out, fun h => by cases h⟩ (by simp; omega) HB5.out.1.size
  have ht := tupd_own HO5.out hg
  have HB6 : Hid (Below w.heap.size w w6 ∧ w6.heap[pB]? = some (.cells #[.slice ra R.length c, .slice ga m d, .bool single] 25 (0, 0)) ∧ w6.heap[xr]? = some (.cells #[.slice none 0 0, .int .i64 0] 31 (0, 0))) := ⟨HB5.out.1.grown hg HB5.out.1.size (fun k hk => (HO5.out.lt k hk).1), ht.keep HB5.out.2.1 (by decide), ht.keep HB5.out.2.2 (by decide)⟩
  have HO6 := Lib.hid ho
  clear ho hg ht HN HO5 HB5
  refine seq_one ?_;refine op_append rfl rfl rfl rfl rfl hF rfl rfl rfl hAPP (fun a hF => ?_);clear hAPP;revert hF;refine zre 5 [2] [1, 2, 3, 18, 19, 20] fun a hF => ?_
  rw [← HRA.out] at hF
  exact hKCi _ _ ⟨_, hF, HB6, HO6⟩
 clear hF HB0  HO0
 rintro a w7 ⟨v, hF, HB, HO⟩
 rw [List.take_length] at HO
 obtain ⟨la, c2, rfl, ho7⟩ := OwnRecs.of_row HO.out
 have HO7 : Hid (OwnRecs RunE w7 w.heap.size 63 la R.length (R.map run0)) := ho7
 clear ho7 HO
 have p0 := boxed_cell (j := 0) HB.out.2.1 rfl
 have p1 := boxed_cell (j := 1) HB.out.2.1 rfl
 have p2 := boxed_cell (j := 2) HB.out.2.1 rfl
 refine wp_seq_k (fun K hK => ?_);revert hF;refine zrp [4] [1, 2] fun a hF => ?_;revert hF;refine zos fun K hK => ?_
 refine (values_any w7 ra ga R.length c m d single G (HG.out.below HB.out.1) (HK.out.below HB.out.1)).mono ?_
 rintro e w8 ⟨vpb, vkb, vvb, vmb, rfl, hve, hvm, hb8, hvn⟩
 clear p0 p1 p2
 obtain ⟨V, hV⟩ : ∃ V : VA, V = ⟨vpb, vkb, vvb, vmb, ra, ga, R.length, c, m, d, single, G⟩ := ⟨_, rfl⟩
 have HVE : Hid (VEnv V w8) := by rw [hV]; exact hve
 have HVM : Hid (MemoAt w8 V.mb 0 V.single V.G) := by rw [hV]; exact hvm
 have HVN : Hid (w7.heap.size ≤ V.mb) := by rw [hV]; exact hvn
 have HB8 : Hid (Below w.heap.size w w8 ∧ w8.heap[pB]? = some (.cells #[.slice ra R.length c, .slice ga m d, .bool single] 25 (0, 0)) ∧ w8.heap[xr]? = some (.cells #[.slice none 0 0, .int .i64 0] 31 (0, 0))) := ⟨HB.out.1.trans (hb8.mono HB.out.1.size), (hb8.block pB (lt_of_block HB.out.2.1)).trans HB.out.2.1, (hb8.block xr (lt_of_block HB.out.2.2)).trans HB.out.2.2⟩
 have HO8 := Lib.hid (HO7.out.below hb8)
 have HMBW : Hid (w.heap.size ≤ V.mb) := Nat.le_trans HB.out.1.size HVN.out
 clear hve hvm hvn hb8 HO7 HVN HB
 refine hK _ _ (fun a hF => ?_);clear hK K;revert hF;refine zre 2 [2] [1, 2, 3, 6] fun a hF => ?_;refine hK _ _ ?_;clear hK
 obtain ⟨rfl, rfl, rfl, rfl, rfl, rfl, rfl, rfl⟩ : vpb = V.pb ∧ vkb = V.kb ∧ vvb = V.vb ∧ ra = V.ra ∧ ga = V.ga ∧ c = V.rc ∧ m = V.m ∧ d = V.gc := by rw [hV]; exact ⟨rfl, rfl, rfl, rfl, rfl, rfl, rfl, rfl⟩
 obtain ⟨rfl, rfl⟩ : single = V.single ∧ G = V.G := by rw [hV]; exact ⟨rfl, rfl⟩
 have HRN : Hid (V.rn = R.length) := by
  show V.rn = _
  rw [hV]
 clear hV
 have HGL : Hid (V.G.length = V.m) := HG.out.1
 have HL0 : Hid (∀ r ∈ R.map run0, 0 ≤ r.1 ∧ r.1 ≤ 4000) := fun r hr => by
  obtain ⟨x, hx, rfl⟩ := List.mem_map.1 hr
  exact HRB.out x hx
 have hone : 1 * vcap R.length V.m ≤ (1 + V.m * R.length) * vcap R.length V.m := Nat.mul_le_mul_right _ (by omega)
 have hN0 : vcap R.length V.m ≤ 9000000000000000000 := by
  have := HN9.out
  omega
 clear hone
 have hC := value_any V HV.out HGL.out hm R.length hn V.m 0 (R.map run0) w8 la c2 0 (by omega) (List.length_map ..) HVE.out HVM.out HO8.out.recs HL0.out (by omega)
 refine wp_seq_k (fun K hK => ?_);revert hF;refine zrp [1, 1] [2, 3] fun a hF => ?_;refine seq_one ?_;refine op_callv [_, _] _ _ rfl rfl hF rfl rfl (by first | assumption | kernel_rfl) ⟨rfl, rfl, trivial⟩ (fun K hK => ?_);clear hF
 refine hC.mono ?_
 rintro e w9 ⟨rfl, hu9, hm9⟩
 clear hC
 have HVE9 := Lib.hid (HVE.out.upd hu9)
 have HO9 := Lib.hid (HO8.out.mupd hu9)
 have HM9 : Hid (MemoAt w9 V.mb (vcap R.length V.m) V.single V.G) := by rw [Nat.zero_add] at hm9; exact hm9
 have HB9 : Hid (Below w.heap.size w w9 ∧ w9.heap[pB]? = some (.cells #[.slice V.ra R.length V.rc, .slice V.ga V.m V.gc, .bool V.single] 25 (0, 0)) ∧ w9.heap[xr]? = some (.cells #[.slice none 0 0, .int .i64 0] 31 (0, 0))) := ⟨HB8.out.1.grown hu9.grown HB8.out.1.size (fun k e => by cases e; exact HMBW.out), hu9.block HB8.out.2.1, hu9.block HB8.out.2.2⟩
 clear hu9 hm9 HVE HVM HO8 HB8
 have hpb := packF_range (single := V.single) (G := V.G) (k := V.m) (g := 0) (L := R.map run0) HV.out (by rw [HGL.out]; omega)
 have hp0 : 0 ≤ packF V.single V.G V.m 0 (R.map run0) := packF_start (R := R) V.m 0
 obtain ⟨B, hB⟩ : ∃ x, x = packF V.single V.G V.m 0 (R.map run0) := ⟨_, rfl⟩
 rw [← hB] at hpb hp0 ⊢
 have HBE := Lib.hid hB
 clear hB
 refine hK _ _ (fun a hF => ?_);clear hK K;revert hF;refine zre 3 [2] [1, 2, 3, 6, 7] fun a hF => ?_;refine hK _ _ ?_;clear hK;refine wp_seq_k (fun K hK => ?_);refine region_seq (l := [0]) (by kernel_rfl) ?_;refine seq_one ?_;revert hF;refine qe0 fun a hF => ?_
 have hbx := Joins.below_alloc1 w9 (.cells #[.slice none 0 0, .int .i64 0] 31)
 have HS0 : Hid (SolM w (w9.alloc (.cells #[.slice none 0 0, .int .i64 0] 31)) V pB xr w9.heap.size la (R.map run0) (.slice none 0 0) [] 0 ((1 + 0 * R.length) * vcap R.length V.m)) := by
  have hHB : Below w.heap.size w (w9.alloc (.cells #[.slice none 0 0, .int .i64 0] 31)) := HB9.out.1.trans (hbx.mono HB9.out.1.size)
  have hxr := lt_of_block HB9.out.2.2
  refine ⟨hHB, ?_, HVE9.out.down hbx, (HM9.out.down hbx).more (by rw [Nat.zero_mul, Nat.add_zero, Nat.one_mul]; exact Nat.le_refl _), ?_, heap_new _ _, (hbx.block xr hxr).trans HB9.out.2.2, nil_row, HB9.out.1.size, by omega, HMBW.out, HXW.out⟩
  ·
   rw [HRN.out]
   exact (hbx.block pB (lt_of_block HB9.out.2.1)).trans HB9.out.2.1
  ·
   have := HO9.out.below hbx
   rw [List.length_map]
   exact this
 clear hbx HVE9 HO9 HM9 HB9
 generalize w9.alloc (.cells #[.slice none 0 0, .int .i64 0] 31) = w10 at *
 generalize w9.heap.size = gx at *
 refine seq_end ?_;replace hF := hF.kp [1, 2, 3, 6, 7, 8] rfl;refine hK _ _ ?_;clear hK
 have HQ0 : Hid ([] ++ solF V.single R V.G (V.m - 0) 0 (R.map run0) B = solF V.single R V.G V.m 0 (R.map run0) B ∧ ([] : List (Int × Int)).length = 0 ∧ B = packF V.single V.G (V.m - 0) 0 (R.map run0) ∧ 0 ≤ B ∧ 0 + B = B ∧ (R.map run0).length = R.length ∧ ∀ r ∈ R.map run0, 0 ≤ r.1 ∧ r.1 ≤ 4000) :=
  ⟨rfl, rfl, HBE.out, hp0, Int.zero_add _, List.length_map .., HL0.out⟩
 have hll : (R.map run0).length = R.length := List.length_map ..
 rw [← hll] at hF
 clear hll
 refine seq_cut (fun a' w' => ∃ la : Option Addr, ∃ c2 : Nat, ∃ L : List (Int × Bool), ∃ lf : Int, ∃ spv : Value, ∃ S : List (Int × Int), ∃ xv : Int, FrF 108 [] [(1, .pointer (some ⟨pB, 0, none⟩)), (2, .pointer (some ⟨xr, 0, none⟩)), (3, .slice la L.length c2), (6, .func (.func 57) #[] #[.pointer (some ⟨V.pb, 0, none⟩), .pointer (some ⟨V.kb, 0, none⟩), .pointer (some ⟨V.vb, 0, none⟩)]), (7, .int .i64 lf), (8, .pointer (some ⟨gx, 0, none⟩)), (36, .slice V.ga V.m V.gc), (37, .int .i64 V.m)] a' ∧ Hid (SolM w w' V pB xr gx la L spv S xv ((1 + V.m * R.length) * vcap R.length V.m)) ∧ Hid (S ++ solF V.single R V.G (V.m - V.m) V.m L lf = solF V.single R V.G V.m 0 (R.map run0) B ∧ S.length = V.m ∧ lf = packF V.single V.G (V.m - V.m) V.m L ∧ 0 ≤ lf ∧ xv + lf = B ∧ L.length = R.length ∧ ∀ r ∈ L, 0 ≤ r.1 ∧ r.1 ≤ 4000)) (fun KAg hKAg => ?_) ?_
 ·
  skip
  have p1 := boxed_cell (j := 1) HS0.out.prob rfl
  revert hF;refine zrs [4, 4, 4, 1] [1, 2, 3, 6, 7, 8, 36, 37, 38] fun a hF => ?_
  clear p1
  refine wp_block ?_
  refine loop_fr (fun qg a' w' => ∃ g : Nat, g + qg = V.m ∧ ∃ la : Option Addr, ∃ c2 : Nat, ∃ L : List (Int × Bool), ∃ lf : Int, ∃ spv : Value, ∃ S : List (Int × Int), ∃ xv : Int, FrF 108 [] [(1, .pointer (some ⟨pB, 0, none⟩)), (2, .pointer (some ⟨xr, 0, none⟩)), (3, .slice la L.length c2), (6, .func (.func 57) #[] #[.pointer (some ⟨V.pb, 0, none⟩), .pointer (some ⟨V.kb, 0, none⟩), .pointer (some ⟨V.vb, 0, none⟩)]), (7, .int .i64 lf), (8, .pointer (some ⟨gx, 0, none⟩)), (36, .slice V.ga V.m V.gc), (37, .int .i64 V.m), (38, .int .i64 g)] a' ∧ Hid (SolM w w' V pB xr gx la L spv S xv ((1 + g * R.length) * vcap R.length V.m)) ∧ Hid (S ++ solF V.single R V.G (V.m - g) g L lf = solF V.single R V.G V.m 0 (R.map run0) B ∧ S.length = g ∧ lf = packF V.single V.G (V.m - g) g L ∧ 0 ≤ lf ∧ xv + lf = B ∧ L.length = R.length ∧ ∀ r ∈ L, 0 ≤ r.1 ∧ r.1 ≤ 4000)) (V.m) ⟨0, by omega, _, _, _, _, _, _, _, hF, HS0, HQ0⟩ ?_
  clear hF HS0  HQ0
  rintro rkg a wr ⟨g, hikg, la, c2, L, lf, spv, S, xv, hF, HS, HQ⟩ KBg hKBg
  by_cases hlt : g < V.m
  rotate_left
  ·
   have hlti : ¬ (g : Int) < (V.m : Nat) := by omega
   revert hF;refine zrs [5] [1, 2, 3, 6, 7, 8, 36, 37, 38, 39] fun a hF => ?_;refine wp_seq_k (fun K hK => ?_)
   refine cond_no hF rfl ?_
   refine wp_exit ?_
   have hie : g = V.m := by omega
   rw [hie] at HS HQ
   exact hKAg _ _ ⟨_, _, _, _, _, _, _, hF.sub ⟨rfl, rfl, rfl, rfl, rfl, rfl, rfl, rfl, trivial⟩, HS, HQ⟩
  have hlti : (g : Int) < (V.m : Nat) := by omega
  revert hF;refine zrs [5] [1, 2, 3, 6, 7, 8, 36, 37, 38, 39] fun a hF => ?_;refine wp_seq_k (fun K hK => ?_)
  refine cond_yes hF rfl ?_
  refine wp_skip ?_
  refine hK _ _ ?_;clear hK;replace hF := hF.kp [1, 2, 3, 6, 7, 8, 36, 37, 38] rfl
  clear hKAg
  refine seq_cut (fun a' w' => ∃ la : Option Addr, ∃ c2 : Nat, ∃ L : List (Int × Bool), ∃ lf : Int, ∃ spv : Value, ∃ S : List (Int × Int), ∃ xv : Int, FrF 108 [] [(1, .pointer (some ⟨pB, 0, none⟩)), (2, .pointer (some ⟨xr, 0, none⟩)), (3, .slice la L.length c2), (6, .func (.func 57) #[] #[.pointer (some ⟨V.pb, 0, none⟩), .pointer (some ⟨V.kb, 0, none⟩), .pointer (some ⟨V.vb, 0, none⟩)]), (7, .int .i64 lf), (8, .pointer (some ⟨gx, 0, none⟩)), (36, .slice V.ga V.m V.gc), (37, .int .i64 V.m), (38, .int .i64 g)] a' ∧ Hid (SolM w w' V pB xr gx la L spv S xv ((1 + (g + 1) * R.length) * vcap R.length V.m)) ∧ Hid (S ++ solF V.single R V.G (V.m - (g + 1)) (g + 1) L lf = solF V.single R V.G V.m 0 (R.map run0) B ∧ S.length = (g + 1) ∧ lf = packF V.single V.G (V.m - (g + 1)) (g + 1) L ∧ 0 ≤ lf ∧ xv + lf = B ∧ L.length = R.length ∧ ∀ r ∈ L, 0 ≤ r.1 ∧ r.1 ≤ 4000)) (fun KCg hKCg => ?_) ?_
  rotate_left
  ·
   clear hF HS HQ
   rintro a w' ⟨la, c2, L, lf, spv, S, xv, hF, HS, HQ⟩
   have hws : IntKind.i64.wrap ((g : Int) + 1) = ((g + 1 : Nat) : Int) := wrap_succ (by omega)
   revert hF;refine zrg [4, 1] [1, 2, 3, 6, 7, 8, 36, 37, 38] fun a hF => ?_
   exact hKBg (V.m - (g + 1)) _ _ (by omega) ⟨g + 1, by omega, _, _, _, _, _, _, _, hF, HS, HQ⟩
  clear hKBg hikg
  refine wp_block ?_
  have hgm : g < V.m := hlt
  have hmg : (g : Int) < (V.m : Nat) := by omega
  obtain ⟨k, hk⟩ : ∃ k, V.m - g = k + 1 := ⟨V.m - g - 1, by omega⟩
  have hk2 : V.m - (g + 1) = k := by omega
  rw [hk] at HQ
  rw [hk2] at hKCg
  clear hk2
  have hgv := HV.out g (by rw [HGL.out]; exact hgm)
  have hLn : L.length = R.length := HQ.out.2.2.2.2.2.1
  have HLR : Hid (∀ r ∈ L, 0 ≤ r.1 ∧ r.1 ≤ 4000) := HQ.out.2.2.2.2.2.2
  have HL0 : Hid (lf = packF V.single V.G (k + 1) g L) := HQ.out.2.2.1
  have h0lf : 0 ≤ lf := HQ.out.2.2.2.1
  have HXL : Hid (xv + lf = B) := HQ.out.2.2.2.2.1
  have HQS : Hid (S ++ solF V.single R V.G (k + 1) g L lf = solF V.single R V.G V.m 0 (R.map run0) B ∧ S.length = g) := ⟨HQ.out.1, HQ.out.2.1⟩
  have hlb : lf ≤ 12000000 * (k + 1) := by
   have := (packF_range (single := V.single) (L := L) HV.out (k := k + 1) (g := g) (by rw [HGL.out]; omega)).2
   have h2 := HL0.out
   omega
  have HLN := Lib.hid hLn
  have hl4 : L.length ≤ 4000 := by omega
  clear HQ hLn
  have hbg : 0 ≤ gs V.G g * gv V.G g ∧ gs V.G g * gv V.G g ≤ 12000000 := ⟨Int.mul_nonneg (by omega) (by omega), Int.le_trans (Int.mul_le_mul hgv.1.2 hgv.2.2 hgv.2.1 (by omega)) (by omega)⟩
  obtain ⟨bg, og, hga, e0, e1⟩ := HS.out.env.groups.2 g hgm
  have HGA := Lib.hid hga
  rw [hga] at hF
  clear hga
  refine wp_seq_k (fun K hK => ?_);revert hF;refine zrp [1, 5, 4] [3, 4, 5] fun a hF => ?_;refine seq_one ?_;revert hF;refine qe0 fun a hF => ?_
  obtain ⟨wa, gq, hwa, hgv, hSV, HTW⟩ := var_new wr 49 #[.int .i64 0, .int .i64 0] #[.int .i64 (gs V.G g), .int .i64 (gv V.G g)] (by kernel_rfl) rfl (by simp [Value.oneCell'])
  rw [hwa]
  rw [← hgv] at hF
  clear hwa hgv
  revert hF;refine zrc 4 [2] [5] fun a hF => ?_;refine seq_one ?_;refine op_storev rfl rfl hF rfl rfl rfl rfl hSV ?_;clear hF;refine fun a hF => ?_
  clear hSV
  refine hK _ _ ?_;clear hK
  generalize wa.setRow gq #[.int .i64 (gs V.G g), .int .i64 (gv V.G g)] = w3 at *
  clear e0 e1
  have HS3 : Hid (SolM w w3 V pB xr gx la L spv S xv ((1 + g * R.length) * vcap R.length V.m) ∧ w3.heap[gq]? = some (.cells #[.int .i64 (gs V.G g), .int .i64 (gv V.G g)] 49 (0, 0))) := ⟨HS.out.down HTW.out.1, HTW.out.2.1⟩
  clear HS HTW
  refine wp_seq_k (fun K hK => ?_);revert hF;refine zrp [3] [1, 2] fun a hF => ?_;refine seq_one ?_;revert hF;refine qe0 fun a hF => ?_
  obtain ⟨wa, gz, hwa, hgv, hSV, HTW⟩ := var_new w3 46 #[.int .i64 0, .int .i64 0] #[.int .i64 (-1), .int .i64 0] (by kernel_rfl) rfl (by simp [Value.oneCell'])
  rw [hwa]
  rw [← hgv] at hF
  clear hwa hgv
  refine seq_one ?_;refine op_storev rfl rfl hF rfl rfl rfl rfl hSV ?_;clear hF;refine fun a hF => ?_
  clear hSV
  refine hK _ _ ?_;clear hK
  generalize wa.setRow gz #[.int .i64 (-1), .int .i64 0] = w4 at *
  have HGZ : Hid (w.heap.size ≤ gz ∧ some gz ≠ spv.ownBlock) := ⟨Nat.le_trans HS3.out.1.below.size HTW.out.2.2, fun e => by
   have := (HS3.out.1.spots.lt gz e.symm).2
   have := HTW.out.2.2
   omega⟩
  have HI0 : Hid (SolM w w4 V pB xr gx la L spv S xv ((1 + (g * R.length + 0)) * vcap R.length V.m) ∧ w4.heap[gq]? = some (.cells #[.int .i64 (gs V.G g), .int .i64 (gv V.G g)] 49 (0, 0)) ∧ w4.heap[gz]? = some (.cells #[.int .i64 (-1), .int .i64 0] 46 (0, 0))) :=
   ⟨HS3.out.1.down HTW.out.1, (HTW.out.1.block gq (lt_of_block HS3.out.2)).trans HS3.out.2, HTW.out.2.1⟩
  clear HS3 HTW
  have x0 := boxed_cell (j := 0) HI0.out.2.1 rfl
  have x1 := boxed_cell (j := 1) HI0.out.2.1 rfl
  have hws : IntKind.i64.wrap (gs V.G g * gv V.G g) = gs V.G g * gv V.G g := wrap_in (by omega) (by omega)
  revert hF;refine zrs [4, 4, 4, 4, 5, 2] [1, 2, 3, 6, 7, 8, 9, 10, 11, 12, 36, 37, 38] fun a hF => ?_
  clear x0 x1 hws
  have HNO0 : Hid (∀ j, j < 0 → pickAt V.single V.G k g L lf j = false) := fun j hj => absurd hj (Nat.not_lt_zero _)
  rw [← HGA.out] at hF
  refine seq_cut (fun a' w' => ∃ la' : Option Addr, ∃ c' : Nat, ∃ L' : List (Int × Bool), ∃ lf' : Int, ∃ xv' : Int, ∃ sp : Int × Int, FrF 108 [] [(1, .pointer (some ⟨pB, 0, none⟩)), (2, .pointer (some ⟨xr, 0, none⟩)), (3, .slice la' L'.length c'), (6, .func (.func 57) #[] #[.pointer (some ⟨V.pb, 0, none⟩), .pointer (some ⟨V.kb, 0, none⟩), .pointer (some ⟨V.vb, 0, none⟩)]), (7, .int .i64 lf'), (8, .pointer (some ⟨gx, 0, none⟩)), (11, .pointer (some ⟨gz, 0, none⟩)), (36, .slice V.ga V.m V.gc), (37, .int .i64 V.m), (38, .int .i64 g)] a' ∧ Hid (SolM w w' V pB xr gx la' L' spv S xv' ((1 + (g * R.length + R.length)) * vcap R.length V.m) ∧ w'.heap[gz]? = some (.cells #[.int .i64 sp.1, .int .i64 sp.2] 46 (0, 0))) ∧ Hid (SolStep V.single R V.G k g L lf sp L' lf' ∧ xv' + lf' = B)) (fun KAi hKAi => ?_) ?_
  ·
   skip
   revert hF;refine zrs [1, 4, 1] [1, 2, 3, 6, 7, 8, 9, 10, 11, 12, 36, 37, 38, 49, 50, 51] fun a hF => ?_
   refine wp_block ?_
   refine loop_fr (fun qi a' w' => ∃ i : Nat, i + qi = L.length ∧ FrF 108 [] [(1, .pointer (some ⟨pB, 0, none⟩)), (2, .pointer (some ⟨xr, 0, none⟩)), (3, .slice la L.length c2), (6, .func (.func 57) #[] #[.pointer (some ⟨V.pb, 0, none⟩), .pointer (some ⟨V.kb, 0, none⟩), .pointer (some ⟨V.vb, 0, none⟩)]), (7, .int .i64 lf), (8, .pointer (some ⟨gx, 0, none⟩)), (9, .int .i64 g), (10, .pointer (some ⟨gq, 0, none⟩)), (11, .pointer (some ⟨gz, 0, none⟩)), (12, .int .i64 (gs V.G g * gv V.G g)), (36, .slice V.ga V.m V.gc), (37, .int .i64 V.m), (38, .int .i64 g), (49, .slice la L.length c2), (50, .int .i64 L.length), (51, .int .i64 i)] a' ∧ Hid (SolM w w' V pB xr gx la L spv S xv ((1 + (g * R.length + i)) * vcap R.length V.m) ∧ w'.heap[gq]? = some (.cells #[.int .i64 (gs V.G g), .int .i64 (gv V.G g)] 49 (0, 0)) ∧ w'.heap[gz]? = some (.cells #[.int .i64 (-1), .int .i64 0] 46 (0, 0))) ∧ Hid (∀ j, j < i → pickAt V.single V.G k g L lf j = false)) (L.length) ⟨0, by omega, hF, HI0, HNO0⟩ ?_
   clear hF HI0  HNO0
   rintro rki a wr ⟨i, hiki, hF, HI, HNO⟩ KBi hKBi
   by_cases hlt : i < L.length
   rotate_left
   ·
    have hlti : ¬ (i : Int) < (L.length : Nat) := by omega
    revert hF;refine zrs [5] [1, 2, 3, 6, 7, 8, 9, 10, 11, 12, 36, 37, 38, 49, 50, 51, 52] fun a hF => ?_;refine wp_seq_k (fun K hK => ?_)
    refine cond_no hF rfl ?_
    refine wp_exit ?_
    have hie : i = L.length := by omega
    rw [hie] at HI HNO
    rw [HLN.out] at HI
    exact hKAi _ _ ⟨la, c2, L, lf, xv, (-1, 0), hF.sub ⟨rfl, rfl, rfl, rfl, rfl, rfl, rfl, rfl, rfl, rfl, trivial⟩, ⟨HI.out.1, HI.out.2.2⟩, SolStep.miss HLR.out HL0.out h0lf (fun j hj => HNO.out j hj), HXL.out⟩
   have hlti : (i : Int) < (L.length : Nat) := by omega
   revert hF;refine zrs [5] [1, 2, 3, 6, 7, 8, 9, 10, 11, 12, 36, 37, 38, 49, 50, 51, 52] fun a hF => ?_;refine wp_seq_k (fun K hK => ?_)
   refine cond_yes hF rfl ?_
   refine wp_skip ?_
   refine hK _ _ ?_;clear hK;replace hF := hF.kp [1, 2, 3, 6, 7, 8, 9, 10, 11, 12, 36, 37, 38, 49, 50, 51] rfl
   refine seq_cut (fun a' w' => FrF 108 [] [(1, .pointer (some ⟨pB, 0, none⟩)), (2, .pointer (some ⟨xr, 0, none⟩)), (3, .slice la L.length c2), (6, .func (.func 57) #[] #[.pointer (some ⟨V.pb, 0, none⟩), .pointer (some ⟨V.kb, 0, none⟩), .pointer (some ⟨V.vb, 0, none⟩)]), (7, .int .i64 lf), (8, .pointer (some ⟨gx, 0, none⟩)), (9, .int .i64 g), (10, .pointer (some ⟨gq, 0, none⟩)), (11, .pointer (some ⟨gz, 0, none⟩)), (12, .int .i64 (gs V.G g * gv V.G g)), (36, .slice V.ga V.m V.gc), (37, .int .i64 V.m), (38, .int .i64 g), (49, .slice la L.length c2), (50, .int .i64 L.length), (51, .int .i64 i)] a' ∧ Hid (SolM w w' V pB xr gx la L spv S xv ((1 + (g * R.length + (i + 1))) * vcap R.length V.m) ∧ w'.heap[gq]? = some (.cells #[.int .i64 (gs V.G g), .int .i64 (gv V.G g)] 49 (0, 0)) ∧ w'.heap[gz]? = some (.cells #[.int .i64 (-1), .int .i64 0] 46 (0, 0))) ∧ Hid (∀ j, j < (i + 1) → pickAt V.single V.G k g L lf j = false)) (fun KCi hKCi => ?_) ?_
   rotate_left
   ·
    clear hF HI HNO
    rintro a w' ⟨hF, HI, HNO⟩
    have hws : IntKind.i64.wrap ((i : Int) + 1) = ((i + 1 : Nat) : Int) := wrap_succ (by omega)
    revert hF;refine zrg [4, 1] [1, 2, 3, 6, 7, 8, 9, 10, 11, 12, 36, 37, 38, 49, 50, 51] fun a hF => ?_
    exact hKBi (L.length - (i + 1)) _ _ (by omega) ⟨i + 1, by omega, hF, HI, HNO⟩
   clear hKBi hiki
   refine wp_block ?_
   have hil : i < L.length := hlt
   have hLn := HLN.out
   have hGn := HGL.out
   have hri := HLR.out L[i] (List.getElem_mem hil)
   obtain ⟨bb, oo, hla, c0, c1⟩ := run_at HI.out.1.runs.recs i hlt hil
   have HLA := Lib.hid hla
   rw [hla] at hF
   have hii : (i : Int) < (L.length : Nat) := by omega
   have HPK : Hid (pickAt V.single V.G k g L lf i = true ↔ ¬ L[i].1 < gs V.G g ∧ 0 ≤ packF V.single V.G k (g + 1) (sitF L i (gs V.G g)) ∧ packF V.single V.G k (g + 1) (sitF L i (gs V.G g)) + gs V.G g * gv V.G g = lf) := pick_iff V.single V.G k g L lf i hil
   have HHIT : Hid (pickAt V.single V.G k g L lf i = true → SolStep V.single R V.G k g L lf ((i : Int), ix R i - L[i].1) (sitF L i (gs V.G g)) (lf - gs V.G g * gv V.G g)) := fun h => SolStep.hit hil HLR.out (by omega) h HNO.out
   have HNX : Hid (pickAt V.single V.G k g L lf i = false → ∀ j, j < i + 1 → pickAt V.single V.G k g L lf j = false) := fun h j hj => by
    by_cases e : j = i
    ·
     subst e; exact h
    ·
     exact HNO.out j (by omega)
   have HPF : Hid (-1 ≤ packF V.single V.G k (g + 1) (sitF L i (gs V.G g)) ∧ packF V.single V.G k (g + 1) (sitF L i (gs V.G g)) ≤ 12000000 * k) := packF_range HV.out (by omega)
   have HSR : Hid (¬ L[i].1 < gs V.G g → ∀ r ∈ sitF L i (gs V.G g), 0 ≤ r.1 ∧ r.1 ≤ 4000) := fun h0 => sit_range hil HLR.out (by omega) h0
   have HSL : Hid ((sitF L i (gs V.G g)).length = L.length) := sit_len _ _ _
   have HST : Hid (∀ wx, Recs RunE wx (some ⟨bb, oo, none⟩) L.length L → Calls Tryz.prog 44 #[.slice (some ⟨bb, oo, none⟩) L.length c2, .int .i64 i, .int .i64 (gs V.G g)] wx fun e w' => ∃ g' c', e = .returned (.slice (some ⟨g', 0, none⟩) L.length c') ∧ Below wx.heap.size wx w' ∧ wx.heap.size ≤ g' ∧ (sitF L i (gs V.G g)).length = L.length ∧ RecRow RunE w' g' 63 (sitF L i (gs V.G g))) := fun wx hx =>
    seat_any wx _ L.length c2 L i (gs V.G g) hx (by omega) hil (by omega) (fun r hr => by have := HLR.out r hr; omega)
   have HRw : Hid (Recs RunE wr (some ⟨bb, oo, none⟩) L.length L) := by
    have := HI.out.1.runs.recs
    rw [hla] at this
    exact this
   have hcnt : (1 + (g * R.length + i) + 1) * vcap R.length V.m ≤ 9000000000000000000 := Nat.le_trans (Nat.mul_le_mul_right _ (sol_cnt hgm (by omega))) HN9.out
   rw [Nat.add_mul (1 + (g * R.length + i)), Nat.one_mul] at hcnt
   have hvk : vcap R.length k ≤ vcap R.length V.m := vcap_le _ (by omega)
   have hNe : (1 + (g * R.length + (i + 1))) * vcap R.length V.m = (1 + (g * R.length + i)) * vcap R.length V.m + vcap R.length V.m := by
    rw [show 1 + (g * R.length + (i + 1)) = 1 + (g * R.length + i) + 1 from by omega, Nat.add_mul (1 + (g * R.length + i)), Nat.one_mul]
   have hNE2 : (1 + (g * R.length + i)) * vcap R.length V.m + vcap R.length V.m ≤ (1 + (g * R.length + R.length)) * vcap R.length V.m := by
    rw [← hNe]
    exact Nat.mul_le_mul_right _ (by omega)
   rw [hNe] at hKCi
   obtain ⟨NB, hNB⟩ : ∃ x, x = (1 + (g * R.length + i)) * vcap R.length V.m := ⟨_, rfl⟩
   rw [← hNB] at HI hKCi hcnt hNE2
   clear hNB hNe
   have HVA : Hid (¬ L[i].1 < gs V.G g → ∀ (wx : World) (lb : Option Addr) (cb : Nat), VEnv V wx → MemoAt wx V.mb NB V.single V.G → Recs RunE wx lb R.length (sitF L i (gs V.G g)) → Calls Tryz.prog 57 #[.int .i64 ((g + 1 : Nat) : Int), .slice lb R.length cb, .pointer (some ⟨V.pb, 0, none⟩), .pointer (some ⟨V.kb, 0, none⟩), .pointer (some ⟨V.vb, 0, none⟩)] wx (ValPost V R.length k (g + 1) (sitF L i (gs V.G g)) NB wx)) := fun h0 wx lb cb h1 h2 h3 =>
    value_any V HV.out HGL.out (by omega) R.length (by omega) k (g + 1) (sitF L i (gs V.G g)) wx lb cb NB (by omega) (by rw [sit_len]; exact hLn) h1 h2 h3 (HSR.out h0) (by omega)
   obtain ⟨PF, hPF⟩ : ∃ x, x = packF V.single V.G k (g + 1) (sitF L i (gs V.G g)) := ⟨_, rfl⟩
   rw [← hPF] at HPK HPF
   have HPFE := Lib.hid hPF
   obtain ⟨pk, hpk⟩ : ∃ x, x = pickAt V.single V.G k g L lf i := ⟨_, rfl⟩
   rw [← hpk] at HPK HHIT HNX
   obtain ⟨L', hL'⟩ : ∃ x, x = sitF L i (gs V.G g) := ⟨_, rfl⟩
   rw [← hL'] at HST HSR HPFE HHIT HVA HSL
   obtain ⟨r, hr⟩ : ∃ r, r = L[i] := ⟨_, rfl⟩
   rw [← hr] at c0 c1 hri HPK HHIT HSR HVA
   clear hpk hr hPF hla hL'
   obtain ⟨b, hgb⟩ : ∃ b, b = gs V.G g * gv V.G g := ⟨_, rfl⟩
   rw [← hgb] at hF HPK HHIT hKCi hbg
   clear hgb hLn hGn
   refine wp_seq_k (fun K hK => ?_);revert hF;refine zrp [1, 5, 4] [3, 4, 5] fun a hF => ?_;refine seq_one ?_;revert hF;refine qe0 fun a hF => ?_
   obtain ⟨wa, gr, hwa, hgv, hSV, HTW⟩ := var_new wr 63 #[.int .i64 0, .bool false] #[.int .i64 r.1, .bool r.2] (by kernel_rfl) rfl (by simp [Value.oneCell'])
   rw [hwa]
   rw [← hgv] at hF
   clear hwa hgv
   revert hF;refine zrc 4 [2] [5] fun a hF => ?_;refine seq_one ?_;refine op_storev rfl rfl hF rfl rfl rfl rfl hSV ?_;clear hF;refine fun a hF => ?_
   clear hSV
   refine hK _ _ ?_;clear hK
   generalize wa.setRow gr #[.int .i64 r.1, .bool r.2] = w3 at *
   clear c0 c1
   have HS3 : Hid (SolM w w3 V pB xr gx la L spv S xv NB ∧ w3.heap[gq]? = some (.cells #[.int .i64 (gs V.G g), .int .i64 (gv V.G g)] 49 (0, 0)) ∧ w3.heap[gz]? = some (.cells #[.int .i64 (-1), .int .i64 0] 46 (0, 0)) ∧ w3.heap[gr]? = some (.cells #[.int .i64 r.1, .bool r.2] 63 (0, 0))) :=
    ⟨HI.out.1.down HTW.out.1, (HTW.out.1.block gq (lt_of_block HI.out.2.1)).trans HI.out.2.1, (HTW.out.1.block gz (lt_of_block HI.out.2.2)).trans HI.out.2.2, HTW.out.2.1⟩
   have HR3 := Lib.hid (HRw.out.below HTW.out.1)
   clear HI HTW HRw
   have r0 := boxed_cell (j := 0) HS3.out.2.2.2 rfl
   have x0 := boxed_cell (j := 0) HS3.out.2.1 rfl
   refine wp_seq_k (fun K hK => ?_)
   by_cases hfit : r.1 < gs V.G g
   ·
    have hq : decide (r.1 < gs V.G g) = true := by simpa using hfit
    revert hF;refine zrs [4, 4, 4, 4, 5] [1, 2, 3, 6, 7, 8, 9, 10, 11, 12, 13, 14, 36, 37, 38, 49, 50, 51, 60] fun a hF => ?_
    clear hq r0 x0
    refine cond_yes hF rfl ?_
    refine wp_exit ?_
    replace hF := hF.kp [1, 2, 3, 6, 7, 8, 9, 10, 11, 12, 36, 37, 38, 49, 50, 51] rfl
    rw [← HLA.out] at hF
    have hpf : pk = false := by
     cases h : pk with
     | false => rfl
     | true => exact absurd hfit (HPK.out.1 h).1
    exact hKCi _ _ ⟨hF, ⟨HS3.out.1.more (by omega), HS3.out.2.1, HS3.out.2.2.1⟩, HNX.out hpf⟩
   have hq : decide (r.1 < gs V.G g) = false := by simpa using hfit
   revert hF;refine zrs [4, 4, 4, 4, 5] [1, 2, 3, 6, 7, 8, 9, 10, 11, 12, 13, 14, 36, 37, 38, 49, 50, 51, 60] fun a hF => ?_
   clear hq r0
   refine cond_no hF rfl ?_
   refine wp_skip ?_
   refine hK _ _ ?_;clear hK;refine wp_seq_k (fun K hK => ?_);revert hF;refine zrp [1, 1, 4, 4] [4, 5] fun a hF => ?_;revert hF;refine zos fun K hK => ?_
   refine (HST.out w3 HR3.out).mono ?_
   rintro e w4 ⟨g4, c4, rfl, hb4, hg4, hl4', hr4⟩
   clear x0 HST
   have HS4 : Hid (SolM w w4 V pB xr gx la L spv S xv NB ∧ w4.heap[gq]? = some (.cells #[.int .i64 (gs V.G g), .int .i64 (gv V.G g)] 49 (0, 0)) ∧ w4.heap[gz]? = some (.cells #[.int .i64 (-1), .int .i64 0] 46 (0, 0)) ∧ w4.heap[gr]? = some (.cells #[.int .i64 r.1, .bool r.2] 63 (0, 0))) :=
    ⟨HS3.out.1.down hb4, (hb4.block gq (lt_of_block HS3.out.2.1)).trans HS3.out.2.1, (hb4.block gz (lt_of_block HS3.out.2.2.1)).trans HS3.out.2.2.1, (hb4.block gr (lt_of_block HS3.out.2.2.2)).trans HS3.out.2.2.2⟩
   have HR4 : Hid (OwnRecs RunE w4 w.heap.size 63 (some ⟨g4, 0, none⟩) L'.length L') := ⟨rfl, fun _ => ⟨g4, rfl, Nat.le_trans HS3.out.1.below.size hg4, hr4⟩⟩
   clear HS3 hb4 hg4 hr4 HR3
   refine hK _ _ (fun a hF => ?_);clear hK K;revert hF;refine zre 5 [2] [1, 2, 3, 6, 7, 8, 9, 10, 11, 12, 13, 14, 15, 36, 37, 38, 49, 50, 51] fun a hF => ?_;refine hK _ _ ?_;clear hK
   have hg1 : IntKind.i64.wrap ((g : Int) + 1) = ((g + 1 : Nat) : Int) := wrap_succ (by omega)
   refine wp_seq_k (fun K hK => ?_)
   have HLE : Hid (L'.length = R.length) := by show _ = _; rw [hl4']; exact HLN.out
   rw [HLN.out] at hF
   revert hF;refine zrp [1, 1, 4, 1] [4, 5] fun a hF => ?_;refine seq_one ?_;refine op_callv [_, _] _ _ rfl rfl hF rfl rfl (by first | assumption | kernel_rfl) ⟨rfl, rfl, trivial⟩ (fun K hK => ?_);clear hF
   refine (HVA.out hfit w4 _ c4 HS4.out.1.env HS4.out.1.memo (by have := HR4.out.recs; rw [HLE.out] at this; exact this)).mono ?_
   rintro e w5 ⟨rfl, hu5, hm5⟩
   rw [← HPFE.out]
   have HS5 : Hid (SolM w w5 V pB xr gx la L spv S xv (NB + vcap R.length k) ∧ w5.heap[gq]? = some (.cells #[.int .i64 (gs V.G g), .int .i64 (gv V.G g)] 49 (0, 0)) ∧ w5.heap[gz]? = some (.cells #[.int .i64 (-1), .int .i64 0] 46 (0, 0)) ∧ w5.heap[gr]? = some (.cells #[.int .i64 r.1, .bool r.2] 63 (0, 0))) :=
    ⟨HS4.out.1.mupd hu5 hm5, hu5.block HS4.out.2.1, hu5.block HS4.out.2.2.1, hu5.block HS4.out.2.2.2⟩
   have HR5 := Lib.hid (HR4.out.mupd hu5)
   clear HS4 HR4 hu5 hm5 HVA
   refine hK _ _ (fun a hF => ?_);clear hK K;revert hF;refine zre 5 [2] [1, 2, 3, 6, 7, 8, 9, 10, 11, 12, 13, 14, 15, 16, 36, 37, 38, 49, 50, 51] fun a hF => ?_;refine hK _ _ ?_;clear hK
   rw [← HLN.out] at hF
   have hpf := HPF.out
   cases hpk : pk with
   | false =>
    have HNX2 := Lib.hid (HNX.out hpk)
    by_cases h0 : 0 ≤ PF
    ·
     have hq : decide (0 ≤ PF) = true := by simpa using h0
     have hws : IntKind.i64.wrap (PF + b) = PF + b := wrap_in (by omega) (by omega)
     have hq2 : (PF + b == lf) = false := by
      have : ¬ PF + b = lf := fun e => by
       have := HPK.out.2 ⟨hfit, h0, e⟩
       rw [hpk] at this
       cases this
      simpa using this
     revert hF;refine zrs [1, 4, 1, 1, 1, 5, 1, 5, 5] [1, 2, 3, 6, 7, 8, 9, 10, 11, 12, 13, 14, 15, 36, 37, 38, 49, 50, 51, 79] fun a hF => ?_
     clear hq hq2 hws
     refine cond_no hF rfl ?_
     refine wp_skip ?_
     replace hF := hF.kp [1, 2, 3, 6, 7, 8, 9, 10, 11, 12, 36, 37, 38, 49, 50, 51] rfl
     rw [← HLA.out] at hF
     exact hKCi _ _ ⟨hF, ⟨HS5.out.1.more (by omega), HS5.out.2.1, HS5.out.2.2.1⟩, HNX2⟩
    ·
     have hq : decide (0 ≤ PF) = false := by simpa using h0
     revert hF;refine zrs [1, 4, 1, 0, 0, 0, 0, 0, 5] [1, 2, 3, 6, 7, 8, 9, 10, 11, 12, 13, 14, 15, 36, 37, 38, 49, 50, 51, 79] fun a hF => ?_
     clear hq
     refine cond_no hF rfl ?_
     refine wp_skip ?_
     replace hF := hF.kp [1, 2, 3, 6, 7, 8, 9, 10, 11, 12, 36, 37, 38, 49, 50, 51] rfl
     rw [← HLA.out] at hF
     exact hKCi _ _ ⟨hF, ⟨HS5.out.1.more (by omega), HS5.out.2.1, HS5.out.2.2.1⟩, HNX2⟩
   | true =>
    have HSTEP := Lib.hid (HHIT.out hpk)
    obtain ⟨_, h0, hlf⟩ := HPK.out.1 hpk
    have hq : decide (0 ≤ PF) = true := by simpa using h0
    have hws : IntKind.i64.wrap (PF + b) = PF + b := wrap_in (by omega) (by omega)
    have hq2 : (PF + b == lf) = true := by simpa using hlf
    have hxl := HXL.out
    have hxb : -12000000 * (k + 1) ≤ xv ∧ xv ≤ B := by omega
    clear hlf hxl
    revert hF;refine zrs [1, 4, 1, 1, 1, 5, 1, 5, 5] [1, 2, 3, 6, 7, 8, 9, 10, 11, 12, 13, 14, 15, 36, 37, 38, 49, 50, 51, 79] fun a hF => ?_
    clear hq hq2 hws
    refine cond_yes hF rfl ?_
    have HS5s := Lib.hid (HS5.out.1.step HR5.out)
    have hbd := below_d (Below.refl w5.heap.size w5)
    have HSd : Hid (SolM w w5.drew V pB xr gx (some ⟨g4, 0, none⟩) L' spv S xv (NB + vcap R.length k) ∧ w5.drew.heap[gz]? = some (.cells #[.int .i64 (-1), .int .i64 0] 46 (0, 0)) ∧ w5.drew.heap[gr]? = some (.cells #[.int .i64 r.1, .bool r.2] 63 (0, 0))) :=
     ⟨HS5s.out.down hbd, HS5.out.2.2.1, HS5.out.2.2.2⟩
    clear HS5s HS5 HR5 hbd
    have hiR : i < R.length := by
     have := HLN.out
     omega
    have hirn : (i : Int) < (V.rn : Nat) := by
     have := HRN.out
     omega
    obtain ⟨bR, oR, hra, cR⟩ := (HR.out.below HSd.out.1.below).2 i hiR
    have hxR : 0 ≤ ix R i ∧ ix R i ≤ 4000 := by
     rw [ix_get hiR]
     exact HRB.out _ (List.getElem_mem hiR)
    have p0 := boxed_cell (j := 0) HSd.out.1.prob rfl
    rw [hra] at p0
    have r0 := boxed_cell (j := 0) HSd.out.2.2 rfl
    have hws : IntKind.i64.wrap (ix R i - r.1) = ix R i - r.1 := wrap_in (by omega) (by omega)
    have hSV := run_storeVar_row (P := Tryz.prog) w5.drew gz 46 46 #[.int .i64 (-1), .int .i64 0] #[.int .i64 i, .int .i64 (ix R i - r.1)] HSd.out.2.1 (by kernel_rfl) rfl (by simp [Value.oneCell'])
    have HSP := Lib.hid (HSd.out.1.spotVar HG.out HK.out HSd.out.2.1 HGZ.out.1 HGZ.out.2 (B := #[.int .i64 i, .int .i64 (ix R i - r.1)]))
    have HSZ : Hid ((w5.drew.setRow gz #[.int .i64 i, .int .i64 (ix R i - r.1)]).heap[gz]? = some (.cells #[.int .i64 i, .int .i64 (ix R i - r.1)] 46 (0, 0))) := setRow_heap _ _ _ _ _ (0, 0) HSd.out.2.1
    clear hra hiR HSd
    refine wp_seq_k (fun K hK => ?_);refine region_any (by kernel_rfl) ?_;revert hF;refine zra (fuel := 1) [1, 41, 84, 97, 138, 180, 201, 244, 266, 298] [10] fun a hF => ?_;refine any_one (n := 10) (fuel := 0) (by kernel_rfl) ?_;refine op_storev rfl rfl hF rfl rfl rfl rfl hSV ?_;clear hF;refine fun a hF => ?_
    clear hSV p0 r0 cR hws hirn
    refine any_end (by kernel_rfl) ?_;replace hF := hF.kp [1, 2, 6, 7, 8, 11, 12, 15, 36, 37, 38] rfl;refine hK _ _ ?_;clear hK
    generalize w5.drew.setRow gz #[.int .i64 i, .int .i64 (ix R i - r.1)] = w6 at *
    generalize ix R i = xR at *
    have g1 := boxed_cell (j := 1) HSP.out.pack rfl
    have f1 := Joins.unfrozen_of_block HSP.out.pack 1
    have hws : IntKind.i64.wrap (xv + b) = xv + b := wrap_in (by omega) (by omega)
    have HSG := Lib.hid (HSP.out.gain HG.out HK.out (xv + b))
    have HSZ2 : Hid ((w6.setCell ⟨gx, 1, none⟩ (.int .i64 (xv + b))).heap[gz]? = some (.cells #[.int .i64 i, .int .i64 (xR - r.1)] 46 (0, 0))) := (Below.heap_setCell _ _ _ _ (fun e => by
     dsimp only at e
     have := HSP.out.pack
     have h2 := HSZ.out
     rw [e] at h2
     rw [h2] at this
     cases this)).trans HSZ.out
    refine wp_seq_k (fun K hK => ?_);revert hF;refine zrp [4, 4, 1, 5, 4] [5] fun a hF => ?_;refine seq_one ?_;revert hF;refine qu2 fun a hF => ?_
    clear g1 f1 hws HSP HSZ
    refine seq_end ?_;replace hF := hF.kp [1, 2, 6, 7, 8, 11, 12, 15, 36, 37, 38] rfl;refine hK _ _ ?_;clear hK
    generalize w6.setCell ⟨gx, 1, none⟩ (.int .i64 (xv + b)) = w7 at *
    have hws : IntKind.i64.wrap (lf - b) = lf - b := wrap_in (by omega) (by omega)
    revert hF;refine zrs [1, 1, 5, 2] [1, 2, 6, 7, 8, 11, 15, 36, 37, 38] fun a hF => ?_
    clear hws
    revert hF;refine zrs [1, 2] [1, 2, 3, 6, 7, 8, 11, 36, 37, 38] fun a hF => ?_
    refine wp_exit ?_
    replace hF := hF.kp [1, 2, 3, 6, 7, 8, 11, 36, 37, 38] rfl
    rw [← hl4'] at hF
    have hxl := HXL.out
    exact hKAi _ _ ⟨some ⟨g4, 0, none⟩, c4, L', lf - b, xv + b, ((i : Int), xR - r.1), hF.sub ⟨rfl, rfl, rfl, rfl, rfl, rfl, rfl, rfl, rfl, rfl, trivial⟩, ⟨HSG.out.more (by omega), HSZ2.out⟩, HSTEP.out, by omega⟩
  clear hF HI0  HNO0
  rintro a w9 ⟨la', c', L', lf', xv', sp, hF, HX, HSX⟩
  have hsl : S.length ≤ 4000 := by
   have := HQS.out.2
   omega
  have z0 := boxed_cell (j := 0) HX.out.2 rfl
  have z1 := boxed_cell (j := 1) HX.out.2 rfl
  have g0 := boxed_cell (j := 0) HX.out.1.pack rfl
  have hlv : (loadVar 46 ⟨gz, 0, none⟩).run Tryz.prog w9 = .ok (.agg #[.int .i64 sp.1, .int .i64 sp.2]) w9 := by go_simp
  revert hF;refine zrp [4, 4, 4] [3, 4, 5, 6] fun a hF => ?_;refine seq_one ?_;revert hF;refine qe1 fun a hF => ?_
  clear hlv z0 z1 g0
  have HN := Lib.hid (recs_alloc SpotE w9 46 [sp] #[.int .i64 sp.1, .int .i64 sp.2] rfl)
  have HXa := Lib.hid (HX.out.1.down (Joins.below_alloc1 w9 (.cells #[.int .i64 sp.1, .int .i64 sp.2] 46)))
  clear HX
  generalize w9.alloc (.cells #[.int .i64 sp.1, .int .i64 sp.2] 46) = w10 at *
  obtain ⟨v', w11, hAPP, ho, hg, _⟩ := append_recs (E := SpotE) 29 46 29 Tryz.underlying29 info_spot rfl (by decide) HXa.out.spots (u := .slice (some ⟨w9.heap.size, 0, none⟩) 1 1) ⟨_, _, rfl, HN.out, fun h => by cases h⟩ (by simp; omega) HXa.out.below.size
  have hpk := (tupd_own HXa.out.spots hg).keep HXa.out.pack (by decide)
  have g0 := boxed_cell (j := 0) hpk rfl
  have f0 := Joins.unfrozen_of_block hpk 0
  obtain ⟨sa', sc', rfl, _⟩ := OwnRecs.of_row ho
  have HXs := Lib.hid (HXa.out.spot HG.out HK.out ho hg _ rfl)
  clear ho hg hpk HXa HN
  refine seq_one ?_;refine op_append rfl rfl rfl rfl rfl hF rfl rfl rfl hAPP (fun a hF => ?_);clear hAPP;revert hF;refine zrc 5 [4] [6] fun a hF => ?_;refine seq_one ?_;revert hF;refine qu2 fun a hF => ?_
  clear g0 f0
  refine seq_end ?_;replace hF := hF.kp [1, 2, 3, 6, 7, 8, 36, 37, 38] rfl
  generalize w11.setCell ⟨gx, 0, none⟩ _ = w12 at *
  rw [show (1 + (g * R.length + R.length)) * vcap R.length V.m = (1 + (g + 1) * R.length) * vcap R.length V.m from by rw [Nat.add_mul g 1, Nat.one_mul]] at HXs
  refine hKCg _ _ ⟨_, _, _, _, _, _, _, hF, HXs, ?_, ?_, HSX.out.1.left, HSX.out.1.nonneg, HSX.out.2, ?_, HSX.out.1.rooms⟩
  ·
   rw [List.append_assoc]
   have h1 := HQS.out.1
   rw [HSX.out.1.sol] at h1
   exact h1
  ·
   rw [List.length_append, HQS.out.2]
   rfl
  ·
   rw [HSX.out.1.len]
   exact HLN.out
 clear hF HS0  HQ0
 rintro a w30 ⟨la, c2, L, lf, spv, S, xv, hF, HS, HQ⟩
 refine wp_seq_k (fun K hK => ?_)
 have hz := packF_zero V.single V.G V.m L
 have hlf := HQ.out.2.2.1
 rw [Nat.sub_self] at hlf HQ
 have h0 := HQ.out.2.2.2.1
 have hl0 : lf = 0 := by
  rw [hz] at hlf
  split at hlf <;> omega
 have HXV : Hid (xv = B ∧ S.length = V.m ∧ S = solF V.single R V.G V.m 0 (R.map run0) B) := by
  refine ⟨by have := HQ.out.2.2.2.2.1; omega, HQ.out.2.1, ?_⟩
  have := HQ.out.1
  rw [solF, List.append_nil] at this
  exact this
 clear hz hlf h0 hl0 HQ
 obtain ⟨sa, sc, hspv, _⟩ := OwnRecs.of_row HS.out.spots
 obtain ⟨w31, hw31⟩ : ∃ w31, w31 = w30.setRow xr #[spv, .int .i64 xv] := ⟨_, rfl⟩
 have hx31 : w31.heap[xr]? = some (.cells #[spv, .int .i64 xv] 31 (0, 0)) := by
  rw [hw31]
  exact setRow_heap _ _ _ _ _ (0, 0) HS.out.res
 have ho31 : w31.ownsRow w.heap.size 46 2 spv S.length (flat SpotE S) := row_of_heap HS.out.spots fun b hb => by
  obtain ⟨cur, hc⟩ := own_type HS.out.spots hb
  have hne : xr ≠ b := fun e => by
   subst e
   have := HS.out.res
   rw [hc] at this
   cases this
  rw [hw31]
  simp [World.setRow, Array.getElem?_modify, hne]
 have hb31 : Below w.heap.size w w31 := by
  rw [hw31]
  exact below_setRow HS.out.below HS.out.new.2.2.2 _
 rw [hspv] at hx31 hw31 ho31
 have g0 := boxed_cell (j := 0) HS.out.pack rfl
 have g1 := boxed_cell (j := 1) HS.out.pack rfl
 rw [hspv] at g0
 have hlv : (loadVar 31 ⟨gx, 0, none⟩).run Tryz.prog w30 = .ok (.agg #[.slice sa S.length sc, .int .i64 xv]) w30 := by go_simp
 have hSV := run_storeVar_row (P := Tryz.prog) w30 xr 31 31 #[.slice none 0 0, .int .i64 0] #[.slice sa S.length sc, .int .i64 xv] HS.out.res (by kernel_rfl) rfl (by simp [Value.oneCell'])
 rw [← hw31] at hSV
 clear hw31
 have HP31 : Hid (Pairs w31 sa S.length S) := by
  obtain ⟨sa2, sc2, e2, h2⟩ := OwnRecs.of_row ho31
  cases e2
  exact recs_pairs h2.recs
 have HQB : Hid (∀ q, sa = some q → w.heap.size ≤ q.block) := by
  rintro q rfl
  exact (ho31.lt q.block rfl).1
 have hlv2 : (loadVar 31 ⟨xr, 0, none⟩).run Tryz.prog w31 = .ok (.agg #[.slice sa S.length sc, .int .i64 xv]) w31 := by
  have r0 := boxed_cell (j := 0) hx31 rfl
  have r1 := boxed_cell (j := 1) hx31 rfl
  clear hF
  go_simp
 clear ho31 hx31 hspv
 revert hF;refine zrp [4] [1] fun a hF => ?_;refine seq_one ?_;refine op_storev rfl rfl hF rfl rfl rfl rfl hSV ?_;clear hF;refine fun a hF => ?_;refine seq_end ?_;replace hF := hF.kp [2] rfl
 clear hSV hlv g0 g1
 refine hK _ _ ?_;clear hK
 refine wp_ret ?_
 try simp only [then_ret, block_ret, goto_ret]
 refine ret_cell (fn := Tryz.f24) rfl hF rfl hlv2 ?_
 obtain ⟨e1, e2, e3⟩ := HXV.out
 rw [← HBE.out]
 refine ⟨sa, sc, by rw [e1, e2], hb31, ?_, HQB.out⟩
 rw [← e3, ← e2]
 exact HP31.out
end Go.Proofs.YthabgljdndbphaaGreatDoor
