/- foyerlaw23.PackLimits: the walk. -/
import Derived.Test.YthabgljdndbphaaGreatDoorQPKL46
import Derived.Test.YthabgljdndbphaaGreatDoorQPKL48

set_option linter.unusedVariables false
set_option linter.unusedSimpArgs false
namespace Go.Proofs.YthabgljdndbphaaGreatDoor
open Go.RowKit Go.IntWalk Go.Maps Go.WideMaps
set_option linter.unusedSimpArgs false
set_option linter.unusedVariables false

/-- The problem that is being made. -/
structure LmAt (w w' : World) (gp : Nat) (v g : Value) (i j : Nat) : Prop where
 below : Below w.heap.size w w'
 box : w'.heap[gp]? = some (.cells #[v, g, .bool true] 25 (0, 0))
 runs : w'.ownsRow w.heap.size 3 1 v i (flat IntE (List.replicate i 3))
 groups : w'.ownsRow w.heap.size 49 2 g j (flat SpotE (List.replicate j (2, 1)))
 new : w.heap.size ≤ gp
section
variable {w w1 w2 : World} {gp i j : Nat} {v g : Value}
theorem own_keepT {S : TypeId → Prop} {T : TypeId} {B k n : Nat} {v : Value} {xs : List Value} (h : w1.ownsRow B T k v n xs) (ht : TUpd S w1 w2) (hS : ¬ S T) : w2.ownsRow B T k v n xs :=
 row_of_heap h fun b hb => by
  obtain ⟨cur, hc⟩ := own_type h hb
  rw [ht.keep hc hS, hc]
theorem LmAt.down (h : LmAt w w1 gp v g i j) (hb : Below w1.heap.size w1 w2) : LmAt w w2 gp v g i j :=
 ⟨h.below.trans (hb.mono h.below.size), (hb.block _ (lt_of_block h.box)).trans h.box, row_of_heap h.runs fun b hb2 => hb.block b (h.runs.lt b hb2).2, row_of_heap h.groups fun b hb2 => hb.block b (h.groups.lt b hb2).2, h.new⟩
theorem LmAt.run (h : LmAt w w1 gp v g i j) {v' : Value} (ho : w2.ownsRow w.heap.size 3 1 v' (i + 1) (flat IntE (List.replicate i 3 ++ [3]))) (hg : w1.grownBy w2 v.ownBlock) :
  w2.heap[gp]? = some (.cells #[v, g, .bool true] 25 (0, 0)) ∧ LmAt w (w2.setCell ⟨gp, 0, none⟩ v') gp v' g (i + 1) j := by
 have ht := tupd_own h.runs hg
 have hb1 := ht.keep h.box (by decide)
 have ht2 := tupd_set (j := 0) hb1 v'
 refine ⟨hb1, (h.below.grown hg h.below.size (fun k hk => (h.runs.lt k hk).1)).setCell (by show _ ≤ gp; exact h.new) _, ?_, ?_, own_keepT (own_keepT h.groups ht (by decide)) ht2 (by decide), h.new⟩
 ·
  simp [World.setCell, Array.getElem?_modify, hb1]
 ·
  rw [List.replicate_succ']
  exact own_keepT ho ht2 (by decide)
theorem LmAt.grp (h : LmAt w w1 gp v g i j) {g' : Value} (ho : w2.ownsRow w.heap.size 49 2 g' (j + 1) (flat SpotE (List.replicate j (2, 1) ++ [(2, 1)]))) (hg : w1.grownBy w2 g.ownBlock) :
  w2.heap[gp]? = some (.cells #[v, g, .bool true] 25 (0, 0)) ∧ LmAt w (w2.setCell ⟨gp, 1, none⟩ g') gp v g' i (j + 1) := by
 have ht := tupd_own h.groups hg
 have hb1 := ht.keep h.box (by decide)
 have ht2 := tupd_set (j := 1) hb1 g'
 refine ⟨hb1, (h.below.grown hg h.below.size (fun k hk => (h.groups.lt k hk).1)).setCell (by show _ ≤ gp; exact h.new) _, ?_, own_keepT (own_keepT h.runs ht (by decide)) ht2 (by decide), ?_, h.new⟩
 ·
  simp [World.setCell, Array.getElem?_modify, hb1]
 ·
  rw [List.replicate_succ']
  exact own_keepT ho ht2 (by decide)
end
theorem lim_runs : ∀ (n : Nat) (l : Int), 3 * (n : Int) ≤ l → runsOk l (List.replicate n 3) = true
 | 0, _, _ => rfl
 | n + 1, l, h => by
  rw [List.replicate_succ, runsOk, if_neg (by omega)]
  exact lim_runs n (l - 3) (by omega)
theorem lim_valid {n m : Nat} (hn : n ≤ 40) (hm : m ≤ 8) : validS (List.replicate n 3) (limG m) = true := by
 unfold validS
 rw [lim_runs n 4000 (by omega), (groupsOk_iff _).2 (limG_values m), decide_eq_true (by simp [limG]; omega)]
 rfl
theorem lim_start (n : Nat) : Lim n 0 ((List.replicate n 3).map run0) := by
 rw [List.map_replicate]
 refine ⟨by simp, ?_, fun x hx => Or.inr (List.eq_of_mem_replicate hx)⟩
 rw [List.count_replicate, if_neg (by decide)]
theorem lim_all {n m : Nat} (h4 : 4 ≤ n) (hn : n ≤ 40) (hm : m ≤ 8) : packF true (limG m) m 0 ((List.replicate n 3).map run0) = 0 ∧ (stpF (limG m) 0 m 0 ((List.replicate n 3).map run0) 0 0).length = 1 + limE n m 0 := by
 refine ⟨?_, ?_⟩
 ·
  rw [lim_pack (n := n) m 0 0 _ (by omega) (lim_start n), if_pos rfl]
 ·
  have := lim_steps hm h4 hn m 0 0 _ 0 (by omega) (lim_start n)
  simpa using this
set_option maxRecDepth 100000 in
set_option maxHeartbeats 32000000 in
theorem limits_law (w : World) (hk : PKit w) (a1 : Int) (h1 : 0 ≤ a1 ∧ a1 ≤ 255) (a2 : Int) (h2 : 0 ≤ a2 ∧ a2 ≤ 255) :
  Calls Tryz.prog 7 #[.int .u8 a1, .int .u8 a2] w fun e w' => e = .returned (.bool true) ∧ Below w.heap.size w w' := by
 have HK := Lib.hid hk
 clear hk
 refine enter_fr (N := 97) [.int .u8 a1, .int .u8 a2] (Tryz.func7) rfl Tryz.ntmps7 (by rfl) (fun a hF => ?_);replace hF := hF.kp [0, 1] rfl;revert hF;refine zrs [2] [0, 1] fun a hF => ?_;refine wp_seq_k (fun K hK => ?_);refine region_seq (l := [0, 1]) (by kernel_rfl) ?_;revert hF;refine zos fun K hK => ?_
 refine (head_any w HK.out).mono ?_
 rintro e w2 ⟨rfl, hb⟩
 have HB := Lib.hid hb
 clear hb
 refine hK _ _ (fun a hF => ?_);clear hK K;revert hF;refine zre 1 [2] [0, 1, 5] fun a hF => ?_;refine hK _ _ ?_;clear hK
 -- n and m
 obtain ⟨q, hq0⟩ : ∃ q : Nat, a1 % 37 = (q : Int) := ⟨(a1 % 37).toNat, by omega⟩
 have htm : a1.tmod 37 = (q : Int) := by rw [Int.tmod_eq_emod_of_nonneg h1.1, hq0]
 have hw0 : IntKind.i64.wrap a1 = a1 := wrap_in (by omega) (by omega)
 have hw1 : IntKind.i64.wrap (q : Int) = (q : Int) := wrap_in (by omega) (by omega)
 obtain ⟨n, hn⟩ : ∃ n : Nat, n = 4 + q := ⟨_, rfl⟩
 have hw2 : IntKind.i64.wrap (4 + (q : Int)) = (n : Int) := by
  rw [hn, Int.natCast_add]
  exact wrap_in (by omega) (by omega)
 have hn4 : 4 ≤ n ∧ n ≤ 40 := by omega
 clear hq0 hn
 revert hF;refine zrs [1, 4, 4, 4, 2] [1, 5, 6] fun a hF => ?_
 clear htm hw0 hw1 hw2
 obtain ⟨q2, hq0⟩ : ∃ q : Nat, a2 % 8 = (q : Int) := ⟨(a2 % 8).toNat, by omega⟩
 have htm : a2.tmod 8 = (q2 : Int) := by rw [Int.tmod_eq_emod_of_nonneg h2.1, hq0]
 have hw0 : IntKind.i64.wrap a2 = a2 := wrap_in (by omega) (by omega)
 have hw1 : IntKind.i64.wrap (q2 : Int) = (q2 : Int) := wrap_in (by omega) (by omega)
 obtain ⟨m, hm⟩ : ∃ n : Nat, n = 1 + q2 := ⟨_, rfl⟩
 have hw2 : IntKind.i64.wrap (1 + (q2 : Int)) = (m : Int) := by
  rw [hm, Int.natCast_add]
  exact wrap_in (by omega) (by omega)
 have hm8 : m ≤ 8 := by omega
 clear hq0 hm
 revert hF;refine zrs [1, 4, 4, 4, 2] [5, 6, 7] fun a hF => ?_
 clear htm hw0 hw1 hw2 h1 h2
 refine wp_seq_k (fun K hK => ?_);revert hF;refine zrp [3] [1, 2] fun a hF => ?_;refine seq_one ?_;revert hF;refine qe0 fun a hF => ?_
 obtain ⟨wa, gp, hwa, hgv, hSV, HTW⟩ := var_new w2 25 #[.slice none 0 0, .slice none 0 0, .bool false] #[.slice none 0 0, .slice none 0 0, .bool true] (by kernel_rfl) rfl (by simp [Value.oneCell'])
 rw [hwa]
 rw [← hgv] at hF
 clear hwa hgv
 refine seq_one ?_;refine op_storev rfl rfl hF rfl rfl rfl rfl hSV ?_;clear hF;refine fun a hF => ?_
 clear hSV
 refine hK _ _ ?_;clear hK
 generalize wa.setRow gp #[.slice none 0 0, .slice none 0 0, .bool true] = w3 at *
 have HS0 : Hid (LmAt w w3 gp (.slice none 0 0) (.slice none 0 0) 0 0) := ⟨HB.out.trans (HTW.out.1.mono HB.out.size), HTW.out.2.1, nil_row, nil_row, Nat.le_trans HB.out.size HTW.out.2.2⟩
 clear HB HTW
 refine seq_cut (fun a' w' => ∃ v : Value, FrF 97 [] [(5, .bool true), (6, .int .i64 n), (7, .int .i64 m), (8, .pointer (some ⟨gp, 0, none⟩))] a' ∧ Hid (LmAt w w' gp v (.slice none 0 0) n 0)) (fun KAi hKAi => ?_) ?_
 ·
  skip
  revert hF;refine zrs [2] [5, 6, 7, 8, 9] fun a hF => ?_
  refine wp_block ?_
  refine loop_fr (fun qi a' w' => ∃ i : Nat, i + qi = n ∧ ∃ v : Value, FrF 97 [] [(5, .bool true), (6, .int .i64 n), (7, .int .i64 m), (8, .pointer (some ⟨gp, 0, none⟩)), (9, .int .i64 i)] a' ∧ Hid (LmAt w w' gp v (.slice none 0 0) i 0)) (n) ⟨0, by omega, _, hF, HS0⟩ ?_
  clear hF HS0
  rintro rki a wr ⟨i, hiki, v, hF, HS⟩ KBi hKBi
  refine wp_seq_k (fun K hK => ?_)
  by_cases hlt : i < n
  rotate_left
  ·
   have hlti : ¬ (i : Int) < (n : Nat) := by omega
   revert hF;refine zrs [1, 1, 5] [5, 6, 7, 8, 9, 26] fun a hF => ?_
   refine cond_no hF rfl ?_
   refine wp_exit ?_
   have hie : i = n := by omega
   rw [hie] at HS
   exact hKAi _ _ ⟨_, hF.sub ⟨rfl, rfl, rfl, rfl, trivial⟩, HS⟩
  have hlti : (i : Int) < (n : Nat) := by omega
  revert hF;refine zrs [1, 1, 5] [5, 6, 7, 8, 9, 26] fun a hF => ?_
  refine cond_yes hF rfl ?_
  refine wp_skip ?_
  refine hK _ _ ?_;clear hK;replace hF := hF.kp [5, 6, 7, 8, 9] rfl
  clear hKAi
  refine seq_cut (fun a' w' => ∃ v : Value, FrF 97 [] [(5, .bool true), (6, .int .i64 n), (7, .int .i64 m), (8, .pointer (some ⟨gp, 0, none⟩)), (9, .int .i64 i)] a' ∧ Hid (LmAt w w' gp v (.slice none 0 0) (i + 1) 0)) (fun KCi hKCi => ?_) ?_
  rotate_left
  ·
   clear hF HS
   rintro a w' ⟨v, hF, HS⟩
   have hws : IntKind.i64.wrap ((i : Int) + 1) = ((i + 1 : Nat) : Int) := wrap_succ (by omega)
   revert hF;refine zrg [1, 4, 2] [5, 6, 7, 8, 9] fun a hF => ?_
   exact hKBi (n - (i + 1)) _ _ (by omega) ⟨i + 1, by omega, _, hF, HS⟩
  clear hKBi hiki
  refine wp_block ?_
  have c0 := boxed_cell (j := 0) HS.out.box rfl
  revert hF;refine zrp [4, 4] [2, 3, 4, 5] fun a hF => ?_;refine seq_one ?_;revert hF;refine qe0 fun a hF => ?_
  have HN := Lib.hid (recs_alloc IntE wr 3 [3] #[.int .i64 3] rfl)
  have hba := Joins.below_alloc1 wr (.cells #[.int .i64 3] 3)
  have HS5 := Lib.hid (HS.out.down hba)
  clear hba HS c0
  generalize wr.alloc (.cells #[.int .i64 3] 3) = w5 at *
  obtain ⟨v', w6, hAPP, ho, hg, _⟩ := append_recs (E := IntE) 22 3 22 Tryz.underlying22 info_int rfl (by decide) HS5.out.runs (u := .slice (some ⟨wr.heap.size, 0, none⟩) 1 1) ⟨_, _, rfl, HN.out, fun h => by cases h⟩ (by simp; omega) HS5.out.below.size
  obtain ⟨la', lc', rfl, _⟩ := OwnRecs.of_row ho
  obtain ⟨hb6, hs6⟩ := HS5.out.run ho hg
  have HS6 := Lib.hid hs6
  have c0 := boxed_cell (j := 0) hb6 rfl
  have f0 := Joins.unfrozen_of_block hb6 0
  clear ho hg hb6 hs6 HN HS5
  refine seq_one ?_;refine op_append rfl rfl rfl rfl rfl hF rfl rfl rfl hAPP (fun a hF => ?_);clear hAPP;revert hF;refine zrc 4 [4] [5] fun a hF => ?_;refine seq_one ?_;revert hF;refine qu2 fun a hF => ?_
  clear c0 f0
  generalize w6.setCell ⟨gp, 0, none⟩ (.slice la' _ lc') = w7 at *
  exact hKCi _ _ ⟨_, hF.sub ⟨rfl, rfl, rfl, rfl, rfl, trivial⟩, HS6⟩
 clear hF HS0
 rintro a w10 ⟨v, hF, HS⟩
 refine seq_cut (fun a' w' => ∃ g : Value, FrF 97 [] [(5, .bool true), (6, .int .i64 n), (7, .int .i64 m), (8, .pointer (some ⟨gp, 0, none⟩))] a' ∧ Hid (LmAt w w' gp v g n m)) (fun KAj hKAj => ?_) ?_
 ·
  skip
  revert hF;refine zrs [2] [5, 6, 7, 8, 10] fun a hF => ?_
  refine wp_block ?_
  refine loop_fr (fun qj a' w' => ∃ j : Nat, j + qj = m ∧ ∃ g : Value, FrF 97 [] [(5, .bool true), (6, .int .i64 n), (7, .int .i64 m), (8, .pointer (some ⟨gp, 0, none⟩)), (10, .int .i64 j)] a' ∧ Hid (LmAt w w' gp v g n j)) (m) ⟨0, by omega, _, hF, HS⟩ ?_
  clear hF HS
  rintro rkj a wr ⟨j, hikj, g, hF, HS⟩ KBj hKBj
  refine wp_seq_k (fun K hK => ?_)
  by_cases hlt : j < m
  rotate_left
  ·
   have hlti : ¬ (j : Int) < (m : Nat) := by omega
   revert hF;refine zrs [1, 1, 5] [5, 6, 7, 8, 10, 36] fun a hF => ?_
   refine cond_no hF rfl ?_
   refine wp_exit ?_
   have hie : j = m := by omega
   rw [hie] at HS
   exact hKAj _ _ ⟨_, hF.sub ⟨rfl, rfl, rfl, rfl, trivial⟩, HS⟩
  have hlti : (j : Int) < (m : Nat) := by omega
  revert hF;refine zrs [1, 1, 5] [5, 6, 7, 8, 10, 36] fun a hF => ?_
  refine cond_yes hF rfl ?_
  refine wp_skip ?_
  refine hK _ _ ?_;clear hK;replace hF := hF.kp [5, 6, 7, 8, 10] rfl
  clear hKAj
  refine seq_cut (fun a' w' => ∃ g : Value, FrF 97 [] [(5, .bool true), (6, .int .i64 n), (7, .int .i64 m), (8, .pointer (some ⟨gp, 0, none⟩)), (10, .int .i64 j)] a' ∧ Hid (LmAt w w' gp v g n (j + 1))) (fun KCj hKCj => ?_) ?_
  rotate_left
  ·
   clear hF HS
   rintro a w' ⟨g, hF, HS⟩
   have hws : IntKind.i64.wrap ((j : Int) + 1) = ((j + 1 : Nat) : Int) := wrap_succ (by omega)
   revert hF;refine zrg [1, 4, 2] [5, 6, 7, 8, 10] fun a hF => ?_
   exact hKBj (m - (j + 1)) _ _ (by omega) ⟨j + 1, by omega, _, hF, HS⟩
  clear hKBj hikj
  refine wp_block ?_
  have c0 := boxed_cell (j := 1) HS.out.box rfl
  revert hF;refine zrp [4, 4, 3] [3, 4, 5, 6] fun a hF => ?_;refine seq_one ?_;revert hF;refine qe1 fun a hF => ?_
  have HN := Lib.hid (recs_alloc SpotE wr 49 [(2, 1)] #[.int .i64 2, .int .i64 1] rfl)
  have hba := Joins.below_alloc1 wr (.cells #[.int .i64 2, .int .i64 1] 49)
  have HS5 := Lib.hid (HS.out.down hba)
  clear hba HS c0
  generalize wr.alloc (.cells #[.int .i64 2, .int .i64 1] 49) = w5 at *
  obtain ⟨g', w6, hAPP, ho, hg, _⟩ := append_recs (E := SpotE) 23 49 23 Tryz.underlying23 info_group rfl (by decide) HS5.out.groups (u := .slice (some ⟨wr.heap.size, 0, none⟩) 1 1) ⟨_, _, rfl, HN.out, fun h => by cases h⟩ (by simp; omega) HS5.out.below.size
  obtain ⟨la', lc', rfl, _⟩ := OwnRecs.of_row ho
  obtain ⟨hb6, hs6⟩ := HS5.out.grp ho hg
  have HS6 := Lib.hid hs6
  have c0 := boxed_cell (j := 1) hb6 rfl
  have f0 := Joins.unfrozen_of_block hb6 1
  clear ho hg hb6 hs6 HN HS5
  refine seq_one ?_;refine op_append rfl rfl rfl rfl rfl hF rfl rfl rfl hAPP (fun a hF => ?_);clear hAPP;revert hF;refine zrc 5 [4] [6] fun a hF => ?_;refine seq_one ?_;revert hF;refine qu2 fun a hF => ?_
  clear c0 f0
  generalize w6.setCell ⟨gp, 1, none⟩ (.slice la' _ lc') = w7 at *
  exact hKCj _ _ ⟨_, hF.sub ⟨rfl, rfl, rfl, rfl, rfl, trivial⟩, HS6⟩
 clear hF HS
 rintro a w11 ⟨g, hF, HS⟩
 obtain ⟨R, hR⟩ : ∃ R : List Int, R = List.replicate n 3 := ⟨_, rfl⟩
 have hRl : R.length = n := by rw [hR, List.length_replicate]
 obtain ⟨G, hG⟩ : ∃ G, G = limG m := ⟨_, rfl⟩
 have hGl : G.length = m := by rw [hG]; simp [limG]
 have HRE := Lib.hid hR
 have HGE := Lib.hid hG
 have HV : Hid (validS R G = true) := by rw [hR, hG]; exact lim_valid hn4.2 hm8
 have HALL : Hid (packF true G m 0 (R.map run0) = 0 ∧ (stpF G 0 m 0 (R.map run0) 0 0).length = 1 + limE n m 0) := by rw [hR, hG]; exact lim_all hn4.1 hn4.2 hm8
 have hown := HS.out.runs
 rw [← hR, ← hRl] at hown
 obtain ⟨ra, c, rfl, hrc⟩ := OwnRecs.of_row hown
 have hown2 := HS.out.groups
 rw [← show limG m = List.replicate m (2, 1) from rfl, ← hG, ← hGl] at hown2
 obtain ⟨ga, d, rfl, hgc⟩ := OwnRecs.of_row hown2
 have hmd : m ≤ d := by
  have := own_cap hown2
  omega
 have HRI := Lib.hid (recs_ints hrc.recs)
 have HGI := Lib.hid (recs_pairs hgc.recs)
 have HBX : Hid (w11.heap[gp]? = some (.cells #[.slice ra R.length c, .slice ga G.length d, .bool true] 25 (0, 0))) := HS.out.box
 have HB := Lib.hid HS.out.below
 have HK2 := Lib.hid (HK.out.below HB.out)
 clear hR hG hown hown2 hrc hgc HS HRE HGE
 have p0 := boxed_cell (j := 0) HBX.out rfl
 have p1 := boxed_cell (j := 1) HBX.out rfl
 have p2 := boxed_cell (j := 2) HBX.out rfl
 rw [hRl, hGl] at p0 p1
 have HSG : Hid (Calls Tryz.prog 11 #[.agg #[.slice ra n c, .slice ga m d, .bool true]] w11 (GoodP true R G m w11)) := by
  have := solve_good w11 ra ga c m d true R G (by omega) hm8 hmd HRI.out (by have := HGI.out; rw [hGl] at this; exact this) HV.out HK2.out
  rw [hRl] at this
  exact this
 refine wp_seq_k (fun K hK => ?_);revert hF;refine zrp [4] [1, 2, 3, 4, 5, 6, 7, 8, 9, 10] fun a hF => ?_;revert hF;refine zos fun K hK => ?_
 refine HSG.out.mono ?_
 rintro e w12 ⟨hb, hgd⟩
 rw [HALL.out.1, HALL.out.2] at hgd
 have HB := Lib.hid (HB.out.trans (hb.mono HB.out.size))
 obtain ⟨TT, hTT⟩ : ∃ x, x = stpF G 0 m 0 (R.map run0) 0 0 := ⟨_, rfl⟩
 rw [← hTT] at hgd HALL
 obtain ⟨SS, hSS⟩ : ∃ x, x = solF true R G m 0 (R.map run0) 0 := ⟨_, rfl⟩
 rw [← hSS] at hgd
 clear hTT hSS HSG hb p0 p1 p2 HBX HRI HGI HK2 HV
 obtain ⟨NN, hNN⟩ : ∃ x, x = 1 + limE n m 0 := ⟨_, rfl⟩
 have HST : Hid (∀ wx, Calls Tryz.prog 20 #[.int .i64 n, .int .i64 m] wx fun e w' => ∃ v : Nat, e = .returned (.int .i64 (v : Int)) ∧ Below wx.heap.size wx w' ∧ (v = NN ∨ (1000000 < v ∧ v ≤ NN))) := fun wx => by
  rw [hNN]
  exact steps_any wx n m hn4.2 hm8
 rw [← hNN] at hgd HALL
 clear hNN
 rcases hgd with ⟨hle, sa, sc, pa, l, pc, rfl, hp, hst, hl⟩ | ⟨hgt, rfl⟩
 rotate_left
 ·
  have HPS : Hid (Pairs w12 none 0 [] ∧ Steps w12 none 0 []) := ⟨nil_pairs _, nil_steps _⟩
  refine hK _ _ (fun a hF => ?_);clear hK K;revert hF;refine zrc 2 [1, 4, 4, 4] [6, 7, 8, 9, 10] fun a hF => ?_;refine seq_one ?_;revert hF;refine qe0 fun a hF => ?_
  obtain ⟨wa1, wb1, bx1, bp1, e1, e2, e3, e4, hSV, hSV2, HN⟩ := got_new (sc := 0) (B := 0) (pc := 0) HPS.out.1 HPS.out.2
  rw [e1]
  rw [← e2] at hF
  clear e1
  refine seq_one ?_;revert hF;refine qe0 fun a hF => ?_
  try rw [e3]
  rw [← e4] at hF
  clear e2 e3 e4
  refine seq_one ?_;refine op_storev rfl rfl hF rfl rfl rfl rfl hSV ?_;clear hF;refine fun a hF => ?_
  clear hSV
  have hSV := hSV2
  clear hSV2
  refine seq_one ?_;refine op_storev rfl rfl hF rfl rfl rfl rfl hSV ?_;clear hF;refine fun a hF => ?_
  clear hSV
  have HB := Lib.hid (HB.out.trans (HN.out.1.mono HB.out.size))
  have HG1 := Lib.hid HN.out.2
  clear HN HPS
  generalize (wb1.setRow bx1 _).setRow bp1 _ = wz1 at *
  revert hF;refine zre 10 [2] [5, 6, 7, 11, 12, 13] fun a hF => ?_;refine hK _ _ ?_;clear hK;refine wp_seq_k (fun K hK => ?_);revert hF;refine zrs [1, 4] [5, 6, 7, 11, 12, 13, 52] fun a hF => ?_
  refine cond_yes hF rfl ?_
  have x0 := boxed_cell (j := 0) HG1.out.x rfl
  have y0 := boxed_cell (j := 0) HG1.out.y rfl
  refine wp_seq_k (fun K hK => ?_);revert hF;refine zrp [1, 1, 4, 4, 4, 4, 5, 1, 4, 4, 4, 4, 5, 1, 1, 1] [16, 17, 18, 19] fun a hF => ?_;revert hF;refine zos fun K hK => ?_
  refine (HST.out wz1).mono ?_
  rintro e w14 ⟨v, rfl, hb, hv⟩
  have hbig : (100000 : Int) < (v : Int) := by
   rcases hv with rfl | ⟨h, _⟩ <;> omega
  have hq : decide ((100000 : Int) < (v : Int)) = true := decide_eq_true hbig
  clear x0 y0 hv
  refine hK _ _ (fun a hF => ?_);clear hK K;revert hF;refine zre 17 [4, 5, 2] [4] fun a hF => ?_
  clear hq hbig
  refine hK _ _ ?_;clear hK;refine wp_ret ?_;(try simp only [then_ret, block_ret, goto_ret]);revert hF;refine zq ?_
  exact ⟨rfl, HB.out.trans (hb.mono HB.out.size)⟩
 ·
  have HPS := Lib.hid (And.intro hp hst)
  have HLN : Hid (l = NN) := hl
  clear hp hst hl HALL
  refine hK _ _ (fun a hF => ?_);clear hK K;revert hF;refine zrc 2 [1, 4, 4, 4] [6, 7, 8, 9, 10] fun a hF => ?_;refine seq_one ?_;revert hF;refine qe0 fun a hF => ?_
  obtain ⟨wa1, wb1, bx1, bp1, e1, e2, e3, e4, hSV, hSV2, HN⟩ := got_new (sc := sc) (B := 0) (pc := pc) HPS.out.1 HPS.out.2
  rw [e1]
  rw [← e2] at hF
  clear e1
  refine seq_one ?_;revert hF;refine qe0 fun a hF => ?_
  try rw [e3]
  rw [← e4] at hF
  clear e2 e3 e4
  refine seq_one ?_;refine op_storev rfl rfl hF rfl rfl rfl rfl hSV ?_;clear hF;refine fun a hF => ?_
  clear hSV
  have hSV := hSV2
  clear hSV2
  refine seq_one ?_;refine op_storev rfl rfl hF rfl rfl rfl rfl hSV ?_;clear hF;refine fun a hF => ?_
  clear hSV
  have HB := Lib.hid (HB.out.trans (HN.out.1.mono HB.out.size))
  have HG1 := Lib.hid HN.out.2
  clear HN HPS
  generalize (wb1.setRow bx1 _).setRow bp1 _ = wz1 at *
  revert hF;refine zre 10 [2] [5, 6, 7, 11, 12, 13] fun a hF => ?_;refine hK _ _ ?_;clear hK;refine wp_seq_k (fun K hK => ?_);revert hF;refine zrs [1, 4] [5, 6, 7, 11, 12, 13, 52] fun a hF => ?_
  refine cond_no hF rfl ?_
  refine wp_skip ?_
  refine hK _ _ ?_;clear hK
  have x1 := boxed_cell (j := 1) HG1.out.x rfl
  have y0 := boxed_cell (j := 0) HG1.out.y rfl
  have hbd := below_d (Below.refl wz1.heap.size wz1)
  have HB := Lib.hid (HB.out.trans (hbd.mono HB.out.size))
  have HKP : Hid (∀ w', Below wz1.drew.heap.size wz1.drew w' → True ∧ w'.cell? ⟨bx1, 1, none⟩ = some (.int .i64 0) ∧ w'.cell? ⟨bp1, 0, none⟩ = some (.slice pa l pc)) := fun w' hb => ⟨trivial, Below.cell_of hb x1, Below.cell_of hb y0⟩
  clear x1 y0 hbd
  refine wp_seq_k (fun K hK => ?_);refine region_any (by kernel_rfl) ?_;generalize wz1.drew = wd at *;revert hF;refine zhc (fuel := 10) (fun w' => True ∧ w'.cell? ⟨bx1, 1, none⟩ = some (.int .i64 0) ∧ w'.cell? ⟨bp1, 0, none⟩ = some (.slice pa l pc)) (HKP.out _ (Below.refl _ _)) [1, 17, 33, 56, 72, 81, 104, 115, 136, 152, 161, 184, 195, 216, 225, 241] fun a hF => ?_;refine held_one (n := 16) (fuel := 9) (by kernel_rfl) ?_;revert hF;refine zoc fun K hK => ?_
  refine (HST.out wd).mono ?_
  rintro e w14 ⟨v, rfl, hb, hv⟩
  obtain rfl : v = NN := by
   rcases hv with h | ⟨h, h2⟩ <;> omega
  have HB5 := Lib.hid hb
  clear hb hv
  refine hK _ _ (fun a hF => ⟨?_, ?_⟩)
  ·
   intro _
   exact HKP.out _ HB5.out
  clear hK K
  have hl := HLN.out
  have hq1 : ((l : Int) == (v : Int)) = true := by rw [hl]; simp
  revert hF;refine zhg (fuel := 4) (HKP.out _ HB5.out) [280, 296, 305, 321, 337] fun a hF => ?_;refine held_one (n := 22) (fuel := 3) (by kernel_rfl) ?_;revert hF;refine zoc fun K hK => ?_
  refine (HST.out w14).mono ?_
  rintro e w15 ⟨v2, rfl, hb, hv⟩
  obtain rfl : v2 = v := by
   rcases hv with h | ⟨h, h2⟩ <;> omega
  have HB6 := Lib.hid (HB5.out.trans (hb.mono HB5.out.size))
  clear hb hv
  refine hK _ _ (fun a hF => ⟨?_, ?_⟩)
  ·
   intro _
   exact HKP.out _ HB6.out
  clear hK K
  have hq2 : decide ((v2 : Int) ≤ 100000) = true := decide_eq_true (by omega)
  revert hF;refine zhg (fuel := 0) (HKP.out _ HB6.out) [376, 392, 402] fun a hF => ?_;refine held_end (by kernel_rfl) ?_;replace hF := hF.kp [4] rfl
  clear hq1 hq2
  refine hK _ _ ?_;clear hK;refine wp_ret ?_;(try simp only [then_ret, block_ret, goto_ret]);revert hF;refine zq ?_
  exact ⟨rfl, HB.out.trans (HB6.out.mono HB.out.size)⟩
end Go.Proofs.YthabgljdndbphaaGreatDoor
