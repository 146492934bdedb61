/- HallPlaces: the walk. -/
import Derived.Test.YtmcdhggnpfhlmaaQHCB25
import Derived.Test.YtmcdhggnpfhlmaaQHCB38
import Derived.Test.YtmcdhggnpfhlmaaQHPL00
import Derived.Test.YtmcdhggnpfhlmaaQHPL01

namespace Go.Proofs.Ytmcdhggnpfhlmaa
open Go.RowKit Go.IntWalk
set_option linter.unusedSimpArgs false
set_option linter.unusedVariables false

/-- The points of the seats among the first i places. -/
def seen (P : List PlaceR) (i : Nat) : TriT → Bool := fun q => (P.take i).any fun p => decide (0 ≤ p.row) && decide (q = (p.level, p.x, p.y))
theorem seen_none (P : List PlaceR) : seen P 0 = fun _ => false := by
  funext q
  simp [seen]
theorem seen_next {P : List PlaceR} {i : Nat} (h : i < P.length) : seen P (i + 1) = fun q => seen P i q || (decide (0 ≤ P[i].row) && decide (q = (P[i].level, P[i].x, P[i].y))) := by
  funext q
  unfold seen
  rw [List.take_succ_eq_append_getElem h, List.any_append]
  simp
theorem seen_apart {P : List PlaceR} (hP : P.Pairwise Apart) {i : Nat} (h : i < P.length) (h0 : 0 ≤ P[i].row) : seen P i (P[i].level, P[i].x, P[i].y) = false := by
  unfold seen
  rw [List.any_eq_false]
  intro p hp
  obtain ⟨j, hj, rfl⟩ := List.mem_iff_getElem.1 hp
  rw [List.length_take] at hj
  rw [List.getElem_take]
  have := (List.pairwise_iff_getElem.1 hP) j i (by omega) h (by omega)
  intro he
  simp only [Bool.and_eq_true, decide_eq_true_eq, Prod.mk.injEq] at he
  exact this he.1 h0 ⟨he.2.1.symm, he.2.2.1.symm, he.2.2.2.symm⟩

/-- What stays through the loop. -/
structure PwA (w0 w : World) (h : HallR) (gh M : Nat) (S : TriT → Bool) (N : Nat) : Prop where
  below : Below w0.heap.size w0 w
  hall : HallIn w gh h
  set : TriSet w M N S
  base : w0.heap.size ≤ M
theorem PwA.down {w0 w w' : World} {h : HallR} {gh M N : Nat} {S : TriT → Bool} (hp : PwA w0 w h gh M S N) (hb : Below w.heap.size w w') : PwA w0 w' h gh M S N :=
  ⟨hp.below.trans (hb.mono hp.below.size), hp.hall.down hb, hp.set.down hb, hp.base⟩
theorem PwA.drew {w0 w : World} {h : HallR} {gh M N : Nat} {S : TriT → Bool} (hp : PwA w0 w h gh M S N) : PwA w0 w.drew h gh M S N := hp.down (below_d (Below.refl _ _))
theorem PlcIn.drew {w : World} {g : Nat} {p : PlaceR} (hp : PlcIn w g p) : PlcIn w.drew g p := hp.down (below_d (Below.refl _ _))
theorem PwA.put {w0 w : World} {h : HallR} {gh M N : Nat} {S : TriT → Bool} (hp : PwA w0 w h gh M S N) (hg : gh < w0.heap.size) (q : TriT) (hq : WfT q) (hN : N < 1000000) :
    ∃ w', (Instr.mapUpdate 33 (.map (some M)) (triV q) (.bool true)).run Try.prog w = .ok () w' ∧ PwA w0 w' h gh M (fun x => decide (x = q) || S x) (N + 1) ∧ w.grownBy w' (some M) := by
  obtain ⟨w', h1, h2, h3⟩ := hp.set.set q hq hN
  have hbase := hp.base
  exact ⟨w', h1, ⟨hp.below.grown h3 hp.below.size (fun b e => by cases e; exact hbase), (h3.block gh (lt_of_block hp.hall) (fun e => by cases e; omega)).trans hp.hall, h2, hbase⟩, h3⟩
structure PwB (w0 w : World) (h : HallR) (gh M : Nat) (S : TriT → Bool) (N gp : Nat) (p : PlaceR) (gl : Nat) (l : LevR) : Prop extends PwA w0 w h gh M S N where
  plc : PlcIn w gp p
  lev : LevIn w gl l
theorem PwB.a {w0 w : World} {h : HallR} {gh M N gp gl : Nat} {S : TriT → Bool} {p : PlaceR} {l : LevR} (hp : PwB w0 w h gh M S N gp p gl l) : PwA w0 w h gh M S N := hp.toPwA
theorem PwB.down {w0 w w' : World} {h : HallR} {gh M N gp gl : Nat} {S : TriT → Bool} {p : PlaceR} {l : LevR} (hp : PwB w0 w h gh M S N gp p gl l) (hb : Below w.heap.size w w') : PwB w0 w' h gh M S N gp p gl l :=
  ⟨hp.toPwA.down hb, hp.plc.down hb, hp.lev.down hb⟩
theorem PwB.drew {w0 w : World} {h : HallR} {gh M N gp gl : Nat} {S : TriT → Bool} {p : PlaceR} {l : LevR} (hp : PwB w0 w h gh M S N gp p gl l) : PwB w0 w.drew h gh M S N gp p gl l := hp.down (below_d (Below.refl _ _))

set_option maxRecDepth 100000 in
set_option maxHeartbeats 64000000 in
theorem places_law (w : World) (h : HallR) (hg : HallGot w h) :
    Calls Try.prog 3 #[.agg #[.string (bs h.name), .int .i64 h.stage.x, .int .i64 h.stage.y, .slice h.la h.ln h.lc]] w fun e w' => e = .returned (.bool true) ∧ Below w.heap.size w w' := by
  have HG := Lib.hid hg
  clear hg
  refine enter_fr (N := 148) [.agg #[.string (bs h.name), .int .i64 h.stage.x, .int .i64 h.stage.y, .slice h.la h.ln h.lc]] (Try.func3) rfl Try.ntmps3 (by rfl) (fun a hF => ?_);replace hF := hF.k1 0 rfl;refine wp_seq_k (fun K hK => ?_);refine region_seq (l := [0, 1]) (by kernel_rfl) ?_;refine seq_one ?_;refine zE1 0 rfl rfl rfl hF rfl rfl (by intros;go_simp<;>first|with_reducible rfl|(constructor<;>with_reducible rfl)) ?_;clear hF;refine fun a hF => ?_;refine seq_chain [(1, true)] [] rfl hF (fun C hC => ?_);clear hF;refine zA rfl rfl rfl rfl rfl rfl ?_;refine hC _ (fun a hF => ?_);clear hC C;refine seq_end ?_;replace hF := hF.k1 1 rfl;refine hK _ _ ?_;clear hK;(try clear K)
  have HX : Hid (HallIn (w.alloc (.cells #[.string (bs h.name), .int .i64 h.stage.x, .int .i64 h.stage.y, .slice h.la h.ln h.lc] 26)) w.heap.size h) := World.alloc_heap_new w _
  have HB1 : Hid (Below w.heap.size w (w.alloc (.cells #[.string (bs h.name), .int .i64 h.stage.x, .int .i64 h.stage.y, .slice h.la h.ln h.lc] 26))) := Joins.below_alloc1 w _
  generalize w.alloc (.cells #[.string (bs h.name), .int .i64 h.stage.x, .int .i64 h.stage.y, .slice h.la h.ln h.lc] 26) = w1 at *
  obtain ⟨gh, hgh⟩ : ∃ g, g = w.heap.size := ⟨_, rfl⟩
  rw [← hgh] at hF HX
  clear hgh
  refine wp_seq_k (fun K hK => ?_);refine region_seq (l := [0, 1]) (by kernel_rfl) ?_;refine seq_one ?_;refine op_call [] rfl rfl hF rfl (by kernel_rfl) trivial (fun K hK => ?_);clear hF
  refine (head_any w1).mono ?_
  rintro e w2 ⟨rfl, hb2⟩
  have HB2 : Hid (Below w.heap.size w w2) := HB1.out.trans (hb2.mono HB1.out.size)
  have HX2 := Lib.hid (HX.out.down hb2)
  clear HX HB1 hb2
  refine hK _ _ (fun a hF => ?_);clear hK K;refine seq_chain [(1, true)] [] rfl hF (fun C hC => ?_);clear hF;refine zA rfl rfl rfl rfl rfl rfl ?_;refine hC _ (fun a hF => ?_);clear hC C;refine seq_end ?_;replace hF := hF.k2 1 3 rfl rfl;refine hK _ _ ?_;clear hK;(try clear K)
  obtain ⟨c0, c1, c2, c3⟩ := HX2.out.cells
  refine wp_seq_k (fun K hK => ?_);refine wp_seq_k (fun K hK => ?_);refine region_seq (l := [0, 1, 2]) (by kernel_rfl) ?_;refine seq_chain [(0, true)] [1, 2] rfl hF (fun C hC => ?_);clear hF;refine zS1 1 rfl rfl rfl rfl rfl (by intros;go_simp<;>with_reducible rfl) ?_;refine hC _ (fun a hF => ?_);clear hC C;refine seq_one ?_;refine op_call [_] rfl rfl hF rfl (by kernel_rfl) ⟨rfl, trivial⟩ (fun K hK => ?_);clear hF
  refine (few_any w2 h (HG.out.hin.below HB2.out) HG.out.reach).mono ?_
  rintro e w3 ⟨b, rfl, hfew, hb3⟩
  have HB3 : Hid (Below w.heap.size w w3) := HB2.out.trans (hb3.mono HB2.out.size)
  have HX3 := Lib.hid (HX2.out.down hb3)
  have HFW := Lib.hid hfew
  clear c0 c1 c2 c3 HX2 HB2 hb3 hfew
  cases b
  · refine hK _ _ (fun a hF => ?_);clear hK K;refine seq_chain [(2, true)] [] rfl hF (fun C hC => ?_);clear hF;refine zS1 16 rfl rfl rfl rfl rfl (by intros;go_simp<;>with_reducible rfl) ?_;refine hC _ (fun a hF => ?_);clear hC C;refine seq_end ?_;replace hF := hF.k3 1 3 17 rfl rfl rfl;refine hK _ _ ?_;clear hK;(try clear K)
    refine cond_yes hF rfl ?_
    refine wp_seq_k (fun K hK => ?_);refine region_seq (l := [0, 1]) (by kernel_rfl) ?_;refine seq_chain [(0, true), (1, true)] [] rfl hF (fun C hC => ?_);clear hF;refine zM rfl rfl rfl rfl rfl rfl ?_;refine zA rfl rfl rfl rfl rfl rfl ?_;refine hC _ (fun a hF => ?_);clear hC C;refine seq_end ?_;replace hF := hF.k1 2 rfl;refine hK _ _ ?_;clear hK;(try clear K);refine wp_ret ?_;(try simp only [then_ret, block_ret, goto_ret]);refine ret_fr (fn := Try.f3) (rs := [.tmp 2]) rfl [_] hF ⟨rfl, trivial⟩ ?_
    exact ⟨rfl, HB3.out⟩
  refine hK _ _ (fun a hF => ?_);clear hK K;refine seq_chain [(2, true)] [] rfl hF (fun C hC => ?_);clear hF;refine zS1 16 rfl rfl rfl rfl rfl (by intros;go_simp<;>with_reducible rfl) ?_;refine hC _ (fun a hF => ?_);clear hC C;refine seq_end ?_;replace hF := hF.k3 1 3 17 rfl rfl rfl;refine hK _ _ ?_;clear hK;(try clear K)
  refine cond_no hF rfl ?_
  refine wp_skip ?_
  refine hK _ _ ?_;clear hK;(try clear K)
  have HSM := Lib.hid (HFW.out rfl).sm
  have HINH := Lib.hid (HG.out.hin)
  obtain ⟨c0, c1, c2, c3⟩ := HX3.out.cells
  refine wp_seq_k (fun K hK => ?_);refine region_seq (l := [0, 1, 2, 3, 4, 5, 6]) (by kernel_rfl) ?_;refine seq_chain [(0, true)] [1, 2, 3, 4, 5, 6] rfl hF (fun C hC => ?_);clear hF;refine zS1 1 rfl rfl rfl rfl rfl (by intros;go_simp<;>with_reducible rfl) ?_;refine hC _ (fun a hF => ?_);clear hC C;refine seq_one ?_;refine op_call [_] rfl rfl hF rfl (by kernel_rfl) ⟨rfl, trivial⟩ (fun K hK => ?_);clear hF
  refine (build_any w3 h (HG.out.hin.below HB3.out) HSM.out HG.out.ac).mono ?_
  rintro e w4 ⟨⟨la, n, c, fa, m, d, rfl, hp, hpf⟩, hb4⟩
  have HB4 : Hid (Below w.heap.size w w4) := HB3.out.trans (hb4.mono HB3.out.size)
  have HX4 := Lib.hid (HX3.out.down hb4)
  have HP := Lib.hid hp
  have hn4 : (buildS h).1.length ≤ 4000 := build_len
  clear c0 c1 c2 c3 HX3 HB3 hb4 hp HFW HG
  obtain rfl : (buildS h).1.length = n := HP.out.1
  have hnf : (buildS h).2.length = m := hpf.1
  clear hpf
  refine hK _ _ (fun a hF => ?_);clear hK K;refine seq_chain [(2, true), (3, true), (4, true), (5, true), (6, true)] [] rfl hF (fun C hC => ?_);clear hF;refine zM rfl rfl rfl rfl rfl rfl ?_;refine zS1 19 rfl rfl rfl rfl rfl (by intros;go_simp<;>with_reducible rfl) ?_;refine zS1 19 rfl rfl rfl rfl rfl (by intros;go_simp<;>with_reducible rfl) ?_;refine zA rfl rfl rfl rfl rfl rfl ?_;refine zA rfl rfl rfl rfl rfl rfl ?_;refine hC _ (fun a hF => ?_);clear hC C;refine seq_end ?_;replace hF := hF.k4 1 3 4 5 rfl rfl rfl rfl;refine hK _ _ ?_;clear hK;(try clear K)
  by_cases hf : faultsS h = []
  rotate_left
  · have h1 : (buildS h).1 = [] := by unfold buildS; rw [if_neg hf]
    have h2 : 0 < m := by
      rw [← hnf]
      unfold buildS
      rw [if_neg hf]
      exact List.length_pos_iff.2 hf
    have h1l : (buildS h).1.length = 0 := by rw [h1]; rfl
    have h2i : (0 : Int) < (m : Nat) := by omega
    rw [h1l] at hF
    clear h1 h1l HP hn4 hnf hf
    refine wp_seq_k (fun K hK => ?_);refine wp_seq_k (fun K hK => ?_);refine region_seq (l := [0, 1, 2]) (by kernel_rfl) ?_;refine seq_chain [(0, true), (1, true), (2, true)] [] rfl hF (fun C hC => ?_);clear hF;refine zM rfl rfl rfl rfl rfl rfl ?_;refine zS1 24 rfl rfl rfl rfl rfl (by intros;go_simp<;>with_reducible rfl) ?_;refine zS1 25 rfl rfl rfl rfl rfl (by intros;go_simp<;>with_reducible rfl) ?_;refine hC _ (fun a hF => ?_);clear hC C;refine seq_end ?_;replace hF := hF.k4 1 3 4 26 rfl rfl rfl rfl;refine hK _ _ ?_;clear hK;(try clear K)
    refine cond_yes hF rfl ?_
    refine wp_seq_k (fun K hK => ?_);refine region_seq (l := [0, 1, 2, 3, 4, 5, 6]) (by kernel_rfl) ?_;refine seq_chain [(0, true), (1, true), (2, true), (3, true), (4, true), (5, true), (6, true)] [] rfl hF (fun C hC => ?_);clear hF;refine zM rfl rfl rfl rfl rfl rfl ?_;refine zM rfl rfl rfl rfl rfl rfl ?_;refine zM rfl rfl rfl rfl rfl rfl ?_;refine zS1 29 rfl rfl rfl rfl rfl (by intros;go_simp<;>with_reducible rfl) ?_;refine zS1 30 rfl rfl rfl rfl rfl (by intros;go_simp<;>with_reducible rfl) ?_;refine zS2 28 31 rfl rfl rfl rfl rfl rfl (by intros;go_simp<;>with_reducible rfl) ?_;refine zA rfl rfl rfl rfl rfl rfl ?_;refine hC _ (fun a hF => ?_);clear hC C;refine seq_end ?_;replace hF := hF.k1 2 rfl;refine hK _ _ ?_;clear hK;(try clear K);refine wp_ret ?_;(try simp only [then_ret, block_ret, goto_ret]);refine ret_fr (fn := Try.f3) (rs := [.tmp 2]) rfl [_] hF ⟨rfl, trivial⟩ ?_
    exact ⟨rfl, HB4.out⟩
  have h2 : m = 0 := by
    rw [← hnf]
    unfold buildS
    rw [if_pos hf]
    rfl
  have h1 : (buildS h).1 = placesS h := by unfold buildS; rw [if_pos hf]
  have HL := Lib.hid (places_law0 hf)
  rw [← h1] at HL
  clear h1 hnf hf
  subst h2
  generalize (buildS h).1 = P at *
  refine wp_seq_k (fun K hK => ?_);refine wp_seq_k (fun K hK => ?_);refine region_seq (l := [0, 1, 2]) (by kernel_rfl) ?_;refine seq_chain [(0, true), (1, true), (2, true)] [] rfl hF (fun C hC => ?_);clear hF;refine zM rfl rfl rfl rfl rfl rfl ?_;refine zS1 24 rfl rfl rfl rfl rfl (by intros;go_simp<;>with_reducible rfl) ?_;refine zS1 25 rfl rfl rfl rfl rfl (by intros;go_simp<;>with_reducible rfl) ?_;refine hC _ (fun a hF => ?_);clear hC C;refine seq_end ?_;replace hF := hF.k4 1 3 4 26 rfl rfl rfl rfl;refine hK _ _ ?_;clear hK;(try clear K)
  refine cond_no hF rfl ?_
  refine wp_skip ?_
  refine hK _ _ ?_;clear hK;(try clear K)
  have hmm := @run_makeMap Try.prog
  refine wp_seq_k (fun K hK => ?_);refine region_seq (l := [0, 1]) (by kernel_rfl) ?_;refine seq_one ?_;refine zE0 rfl rfl rfl hF rfl (by intros;go_simp<;>first|with_reducible rfl|(constructor<;>with_reducible rfl)) ?_;clear hF;refine fun a hF => ?_
  clear hmm
  have hms : TriSet (w4.alloc (.map #[] 0)) w4.heap.size 0 (fun _ => false) := TriSet.made w4
  have hba : Below w4.heap.size w4 (w4.alloc (.map #[] 0)) := Joins.below_alloc1 w4 _
  have HPA : Hid (PwA w4 (w4.alloc (.map #[] 0)) h gh w4.heap.size (seen P 0) 0) := ⟨hba, HX4.out.down hba, by rw [seen_none]; exact hms, Nat.le_refl _⟩
  have hgh4 : gh < w4.heap.size := lt_of_block HX4.out
  clear hms hba HX4
  generalize w4.alloc (.map #[] 0) = w5 at *
  obtain ⟨M, hM⟩ : ∃ M, M = w4.heap.size := ⟨_, rfl⟩
  rw [← hM] at hF HPA
  clear hM
  refine seq_chain [(1, true)] [] rfl hF (fun C hC => ?_);clear hF;refine zA rfl rfl rfl rfl rfl rfl ?_;refine hC _ (fun a hF => ?_);clear hC C;refine seq_end ?_;replace hF := hF.k4 1 3 4 6 rfl rfl rfl rfl;refine hK _ _ ?_;clear hK;(try clear K);refine wp_seq_k (fun KA hKA => ?_);refine wp_seq_k (fun K hK => ?_);refine region_seq (l := [0]) (by kernel_rfl) ?_;refine seq_chain [(0, true)] [] rfl hF (fun C hC => ?_);clear hF;refine zA rfl rfl rfl rfl rfl rfl ?_;refine hC _ (fun a hF => ?_);clear hC C;refine seq_end ?_;replace hF := hF.k5 1 3 4 6 7 rfl rfl rfl rfl rfl;refine hK _ _ ?_;clear hK;(try clear K)
  refine wp_block ?_
  refine loop_fr (fun q a' w' => ∃ i : Nat, i + q = P.length ∧ FrF 148 [] [(1, .pointer (some ⟨gh, 0, none⟩)), (3, .bool true), (4, .slice la P.length c), (6, .map (some M)), (7, .int .i64 i)] a' ∧ Hid (PwA w4 w' h gh M (seen P i) i)) P.length ⟨0, by omega, hF, HPA⟩ ?_
  clear hF HPA
  rintro rk a w6 ⟨i, hik, hF, HA⟩ KB hKB
  refine wp_seq_k (fun K hK => ?_);refine wp_seq_k (fun K hK => ?_)
  by_cases hlt : i < P.length
  rotate_left
  · have hlti : ¬ (i : Int) < (P.length : Nat) := by omega
    refine region_seq (l := [0, 1, 2, 3]) (by kernel_rfl) ?_;refine seq_chain [(0, true), (1, true), (2, true), (3, true)] [] rfl hF (fun C hC => ?_);clear hF;refine zM rfl rfl rfl rfl rfl rfl ?_;refine zM rfl rfl rfl rfl rfl rfl ?_;refine zS1 35 rfl rfl rfl rfl rfl (by intros;go_simp<;>with_reducible rfl) ?_;refine zS2 34 36 rfl rfl rfl rfl rfl rfl (by intros;go_simp<;>with_reducible rfl) ?_;refine hC _ (fun a hF => ?_);clear hC C;refine seq_end ?_;replace hF := hF.k6 1 3 4 6 7 37 rfl rfl rfl rfl rfl rfl;refine hK _ _ ?_;clear hK;(try clear K)
    refine cond_no hF rfl ?_
    refine wp_exit ?_
    refine hKA _ _ ?_;clear hKA;(try clear KA)
    have hni : ((P.length : Nat) : Int) ≤ 4000 := by omega
    refine wp_seq_k (fun K hK => ?_);refine region_seq (l := [0, 1, 2, 3, 4, 5, 6]) (by kernel_rfl) ?_;refine seq_chain [(0, true), (1, true), (2, true), (3, true), (4, true), (5, true), (6, true)] [] rfl hF (fun C hC => ?_);clear hF;refine zM rfl rfl rfl rfl rfl rfl ?_;refine zM rfl rfl rfl rfl rfl rfl ?_;refine zM rfl rfl rfl rfl rfl rfl ?_;refine zS1 144 rfl rfl rfl rfl rfl (by intros;go_simp<;>with_reducible rfl) ?_;refine zS1 145 rfl rfl rfl rfl rfl (by intros;go_simp<;>with_reducible rfl) ?_;refine zS2 143 146 rfl rfl rfl rfl rfl rfl (by intros;go_simp<;>with_reducible rfl) ?_;refine zA rfl rfl rfl rfl rfl rfl ?_;refine hC _ (fun a hF => ?_);clear hC C;refine seq_end ?_;replace hF := hF.k1 2 rfl;refine hK _ _ ?_;clear hK;(try clear K);refine wp_ret ?_;(try simp only [then_ret, block_ret, goto_ret]);refine ret_fr (fn := Try.f3) (rs := [.tmp 2]) rfl [_] hF ⟨rfl, trivial⟩ ?_
    exact ⟨rfl, HB4.out.trans (HA.out.below.mono HB4.out.size)⟩
  have hlti : (i : Int) < (P.length : Nat) := by omega
  refine region_seq (l := [0, 1, 2, 3]) (by kernel_rfl) ?_;refine seq_chain [(0, true), (1, true), (2, true), (3, true)] [] rfl hF (fun C hC => ?_);clear hF;refine zM rfl rfl rfl rfl rfl rfl ?_;refine zM rfl rfl rfl rfl rfl rfl ?_;refine zS1 35 rfl rfl rfl rfl rfl (by intros;go_simp<;>with_reducible rfl) ?_;refine zS2 34 36 rfl rfl rfl rfl rfl rfl (by intros;go_simp<;>with_reducible rfl) ?_;refine hC _ (fun a hF => ?_);clear hC C;refine seq_end ?_;replace hF := hF.k6 1 3 4 6 7 37 rfl rfl rfl rfl rfl rfl;refine hK _ _ ?_;clear hK;(try clear K)
  refine cond_yes hF rfl ?_
  refine wp_skip ?_
  refine hK _ _ ?_;clear hK;(try clear K);replace hF := hF.k5 1 3 4 6 7 rfl rfl rfl rfl rfl
  clear hKA
  have HNX := Lib.hid (seen_next hlt)
  refine seq_cut (fun a' w' => FrF 148 [] [(1, .pointer (some ⟨gh, 0, none⟩)), (3, .bool true), (4, .slice la P.length c), (6, .map (some M)), (7, .int .i64 i)] a' ∧ Hid (PwA w4 w' h gh M (seen P (i + 1)) (i + 1))) (fun KC hKC => ?_) ?_
  rotate_left
  · clear hF HA
    rintro a w' ⟨hF, HA⟩
    have hws : IntKind.i64.wrap ((i : Int) + 1) = ((i + 1 : Nat) : Int) := wrap_succ (by omega)
    refine region_seq (l := [0, 1, 2]) (by kernel_rfl) ?_;refine seq_chain [(0, true), (1, true), (2, true)] [] rfl hF (fun C hC => ?_);clear hF;refine zM rfl rfl rfl rfl rfl rfl ?_;refine zS1 38 rfl rfl rfl rfl rfl (by intros;go_simp<;>with_reducible rfl) ?_;refine zA rfl rfl rfl rfl rfl rfl ?_;refine hC _ (fun a hF => ?_);clear hC C;refine seq_end ?_;replace hF := hF.k5 1 3 4 6 7 rfl rfl rfl rfl rfl
    exact hKB (P.length - (i + 1)) _ _ (by omega) ⟨i + 1, by omega, hF, HA⟩
  clear hKB hik
  obtain ⟨n, hn, hlev, hclr⟩ := HL.out.lev P[i] (List.getElem_mem hlt)
  have HCLR := Lib.hid hclr
  have HLEV := Lib.hid hlev
  have hlen : h.levels.length = h.ln := HINH.out.levels.1
  have hln := HINH.out.ln
  have h0 : ¬ P[i].level < 0 := by omega
  have h1 : ¬ ((h.ln : Nat) : Int) ≤ P[i].level := by omega
  clear hclr hlev
  have HORD : Hid (∀ j, j + 1 = i → ∀ hj : j < P.length, lessP P[j] P[i] = true) := fun j hj hj2 => (List.pairwise_iff_getElem.1 HL.out.ord) j i hj2 hlt (by omega)
  have HAP : Hid (0 ≤ P[i].row → seen P i (P[i].level, P[i].x, P[i].y) = false) := seen_apart HL.out.pts hlt
  obtain ⟨bb, oo, hla, d0, d1, d2, d3, d4, d5, d6, d7, d8⟩ := place_at (HP.out.below HA.out.below) i hlt hlt
  subst hla
  obtain ⟨p, hp⟩ : ∃ p, p = P[i] := ⟨_, rfl⟩
  rw [← hp] at d0 d1 d2 d3 d4 d5 d6 d7 d8 h0 h1 HORD HAP HNX HLEV HCLR
  clear hp
  refine wp_block ?_
  refine wp_seq_k (fun K hK => ?_);refine region_seq (l := [0, 1, 2, 3, 4, 5]) (by kernel_rfl) ?_;refine seq_chain [(0, true), (1, true), (2, true), (3, true)] [4, 5] rfl hF (fun C hC => ?_);clear hF;refine zM rfl rfl rfl rfl rfl rfl ?_;refine zM rfl rfl rfl rfl rfl rfl ?_;refine zS2 40 41 rfl rfl rfl rfl rfl rfl (by intros;go_simp<;>with_reducible rfl) ?_;refine zS1 42 rfl rfl rfl rfl rfl (by intros;go_simp<;>with_reducible rfl) ?_;refine hC _ (fun a hF => ?_);clear hC C;refine seq_one ?_;refine zE0 rfl rfl rfl hF rfl (by intros;go_simp<;>first|with_reducible rfl|(constructor<;>with_reducible rfl)) ?_;clear hF;refine fun a hF => ?_
  have hs0 : (w6.alloc (.cells #[.int .i64 0, .int .i64 0, .int .i64 0, .int .i64 0, .int .i64 0, .int .i64 0, .int .i64 0, .int .i64 0, .int .i64 0] 35)).heap[w6.heap.size]? = some (.cells #[.int .i64 0, .int .i64 0, .int .i64 0, .int .i64 0, .int .i64 0, .int .i64 0, .int .i64 0, .int .i64 0, .int .i64 0] 35 (0, 0)) := World.alloc_heap_new _ _
  have hb1 := Joins.below_alloc1 w6 (.cells #[.int .i64 0, .int .i64 0, .int .i64 0, .int .i64 0, .int .i64 0, .int .i64 0, .int .i64 0, .int .i64 0, .int .i64 0] 35)
  generalize w6.alloc (.cells #[.int .i64 0, .int .i64 0, .int .i64 0, .int .i64 0, .int .i64 0, .int .i64 0, .int .i64 0, .int .i64 0, .int .i64 0] 35) = wa at *
  obtain ⟨gp, hgv⟩ : ∃ g, g = w6.heap.size := ⟨_, rfl⟩
  have hgw : w6.heap.size ≤ gp := Nat.le_of_eq hgv.symm
  rw [← hgv] at hF hs0
  clear hgv
  have hSV := run_storeVar_row (P := Try.prog) wa gp 35 35 #[.int .i64 0, .int .i64 0, .int .i64 0, .int .i64 0, .int .i64 0, .int .i64 0, .int .i64 0, .int .i64 0, .int .i64 0] #[.int .i64 p.kind, .int .i64 p.level, .int .i64 p.block, .int .i64 p.row, .int .i64 p.seat, .int .i64 p.x, .int .i64 p.y, .int .i64 p.view, .int .i64 p.wth] hs0 (by kernel_rfl) rfl (by simp [Value.oneCell'])
  have hs2 := setRow_heap wa gp #[.int .i64 0, .int .i64 0, .int .i64 0, .int .i64 0, .int .i64 0, .int .i64 0, .int .i64 0, .int .i64 0, .int .i64 0] #[.int .i64 p.kind, .int .i64 p.level, .int .i64 p.block, .int .i64 p.row, .int .i64 p.seat, .int .i64 p.x, .int .i64 p.y, .int .i64 p.view, .int .i64 p.wth] 35 (0, 0) hs0
  have hb2 : Below w6.heap.size w6 (wa.setRow gp #[.int .i64 p.kind, .int .i64 p.level, .int .i64 p.block, .int .i64 p.row, .int .i64 p.seat, .int .i64 p.x, .int .i64 p.y, .int .i64 p.view, .int .i64 p.wth]) := below_setRow hb1 hgw #[.int .i64 p.kind, .int .i64 p.level, .int .i64 p.block, .int .i64 p.row, .int .i64 p.seat, .int .i64 p.x, .int .i64 p.y, .int .i64 p.view, .int .i64 p.wth]
  have HTW := Lib.hid (And.intro hb2 hs2)
  clear hs0 hb1 hs2 hb2 hgw
  refine seq_one ?_;refine op_storev rfl rfl hF rfl rfl rfl rfl hSV ?_;clear hF;refine fun a hF => ?_
  clear hSV
  refine hK _ _ ?_;clear hK;(try clear K)
  generalize wa.setRow gp #[.int .i64 p.kind, .int .i64 p.level, .int .i64 p.block, .int .i64 p.row, .int .i64 p.seat, .int .i64 p.x, .int .i64 p.y, .int .i64 p.view, .int .i64 p.wth] = w7 at *
  have HA7 := Lib.hid (HA.out.down HTW.out.1)
  have HPI : Hid (PlcIn w7 gp p) := HTW.out.2
  clear d0 d1 d2 d3 d4 d5 d6 d7 d8 HTW HA
  -- the order
  refine seq_cut (fun a' w' => FrF 148 [] [(1, .pointer (some ⟨gh, 0, none⟩)), (3, .bool true), (4, .slice (some ⟨bb, oo, none⟩) P.length c), (6, .map (some M)), (7, .int .i64 i), (8, .pointer (some ⟨gp, 0, none⟩))] a' ∧ Hid (PwA w4 w' h gh M (seen P i) i ∧ PlcIn w' gp p)) (fun KD hKD => ?_) ?_
  · obtain ⟨q0, q1, q2, q3, q4, q5, q6, q7, q8⟩ := HPI.out.cells
    obtain ⟨c0, c1, c2, c3⟩ := HA7.out.hall.cells
    refine wp_seq_k (fun K hK => ?_)
    by_cases hi0 : i = 0
    · have hgt : decide (0 < i) = false := decide_eq_false (by omega)
      clear hi0 HORD
      refine region_any (by kernel_rfl) ?_;refine any_chain (fuel := 0) [(0, false), (1, true), (2, false), (3, false), (4, false), (5, true), (6, false), (7, true), (8, false), (9, false), (10, false), (11, false), (12, false), (13, false), (14, false), (15, false), (16, false), (17, false), (18, false), (19, true), (20, true), (21, true), (22, false), (23, false), (24, false)] [] rfl (by kernel_rfl) (by kernel_rfl) hF (fun _ _ d _ _ h => by cases d <;> exact h) (fun C hC => ?_);clear hF;refine zY1 8 rfl rfl rfl rfl rfl (by intros;go_simp<;>with_reducible rfl) ?_;refine zS1 44 rfl rfl rfl rfl rfl (by intros;go_simp<;>with_reducible rfl) ?_;refine zY1 45 rfl rfl rfl rfl rfl (by intros;go_simp<;>with_reducible rfl) ?_;refine zM rfl rfl rfl rfl rfl rfl ?_;refine zY1 8 rfl rfl rfl rfl rfl (by intros;go_simp<;>with_reducible rfl) ?_;refine zS1 48 rfl rfl rfl rfl rfl (by intros;go_simp<;>with_reducible rfl) ?_;refine zY1 1 rfl rfl rfl rfl rfl (by intros;go_simp<;>with_reducible rfl) ?_;refine zS1 50 rfl rfl rfl rfl rfl (by intros;go_simp<;>with_reducible rfl) ?_;refine zY1 51 rfl rfl rfl rfl rfl (by intros;go_simp<;>with_reducible rfl) ?_;refine zY2 49 52 rfl rfl rfl rfl rfl rfl (by intros;go_simp<;>with_reducible rfl) ?_;refine zY2 47 53 rfl rfl rfl rfl rfl rfl (by intros;go_simp<;>with_reducible rfl) ?_;refine zM rfl rfl rfl rfl rfl rfl ?_;refine zM rfl rfl rfl rfl rfl rfl ?_;refine zY1 56 rfl rfl rfl rfl rfl (by intros;go_simp<;>with_reducible rfl) ?_;refine zM rfl rfl rfl rfl rfl rfl ?_;refine zX rfl rfl rfl rfl ?_;refine zX rfl rfl rfl rfl ?_;refine zX rfl rfl rfl rfl ?_;refine zX rfl rfl rfl rfl ?_;refine zX rfl rfl rfl rfl ?_;refine zX rfl rfl rfl rfl ?_;refine zX rfl rfl rfl rfl ?_;refine zX rfl rfl rfl rfl ?_;refine zY2 58 66 rfl rfl rfl rfl rfl rfl (by intros;go_simp<;>with_reducible rfl) ?_;refine zY2 55 67 rfl rfl rfl rfl rfl rfl (by intros;go_simp<;>with_reducible rfl) ?_;refine hC _ (fun a hF => ?_);clear hC C;refine any_end (by kernel_rfl) ?_;replace hF := hF.k7 1 3 4 6 7 8 68 rfl rfl rfl rfl rfl rfl rfl;refine hK _ _ ?_;clear hK;(try clear K)
      refine cond_no hF rfl ?_
      refine wp_skip ?_
      exact hKD _ _ ⟨hF.sub ⟨rfl, rfl, rfl, rfl, rfl, rfl, trivial⟩, And.intro HA7.out.drew HPI.out.drew⟩
    · have hgt : decide (0 < i) = true := decide_eq_true (by omega)
      obtain ⟨j, hj⟩ : ∃ j, j + 1 = i := ⟨i - 1, by omega⟩
      have hjl : j < P.length := by omega
      have hor := HORD.out j hj hjl
      have hsub : IntKind.i64.wrap ((i : Int) - 1) = (j : Int) := by
        rw [wrap_in (by omega) (by omega)]
        omega
      clear HORD hi0 hj
      obtain ⟨b2, o2, hla, e0, e1, e2, e3, e4, e5, e6, e7, e8⟩ := place_at (HP.out.below HA7.out.below) j hjl hjl
      obtain ⟨rfl, rfl⟩ : bb = b2 ∧ oo = o2 := by simpa using hla
      clear hla
      generalize P[j] = pj at *
      refine region_any (by kernel_rfl) ?_;refine any_chain (fuel := 4) [(0, false), (1, true), (2, false), (3, false), (4, false), (5, true), (6, false), (7, true), (8, false), (9, false), (10, false), (11, false), (12, false), (13, false), (14, false), (15, false), (16, false), (17, false), (18, false), (19, true), (20, true)] [21] rfl (by kernel_rfl) (by kernel_rfl) hF (fun _ _ d _ _ h => by cases d <;> exact h) (fun C hC => ?_);clear hF;refine zY1 8 rfl rfl rfl rfl rfl (by intros;go_simp<;>with_reducible rfl) ?_;refine zS1 44 rfl rfl rfl rfl rfl (by intros;go_simp<;>with_reducible rfl) ?_;refine zY1 45 rfl rfl rfl rfl rfl (by intros;go_simp<;>with_reducible rfl) ?_;refine zM rfl rfl rfl rfl rfl rfl ?_;refine zY1 8 rfl rfl rfl rfl rfl (by intros;go_simp<;>with_reducible rfl) ?_;refine zS1 48 rfl rfl rfl rfl rfl (by intros;go_simp<;>with_reducible rfl) ?_;refine zY1 1 rfl rfl rfl rfl rfl (by intros;go_simp<;>with_reducible rfl) ?_;refine zS1 50 rfl rfl rfl rfl rfl (by intros;go_simp<;>with_reducible rfl) ?_;refine zY1 51 rfl rfl rfl rfl rfl (by intros;go_simp<;>with_reducible rfl) ?_;refine zY2 49 52 rfl rfl rfl rfl rfl rfl (by intros;go_simp<;>with_reducible rfl) ?_;refine zY2 47 53 rfl rfl rfl rfl rfl rfl (by intros;go_simp<;>with_reducible rfl) ?_;refine zM rfl rfl rfl rfl rfl rfl ?_;refine zM rfl rfl rfl rfl rfl rfl ?_;refine zY1 56 rfl rfl rfl rfl rfl (by intros;go_simp<;>with_reducible rfl) ?_;refine zM rfl rfl rfl rfl rfl rfl ?_;refine zM rfl rfl rfl rfl rfl rfl ?_;refine zM rfl rfl rfl rfl rfl rfl ?_;refine zY1 60 rfl rfl rfl rfl rfl (by intros;go_simp<;>with_reducible rfl) ?_;refine zY2 59 61 rfl rfl rfl rfl rfl rfl (by intros;go_simp<;>with_reducible rfl) ?_;refine zS1 62 rfl rfl rfl rfl rfl (by intros;go_simp<;>with_reducible rfl) ?_;refine zS1 8 rfl rfl rfl rfl rfl (by intros;go_simp<;>with_reducible rfl) ?_;refine hC _ (fun a hF => ?_);clear hC C;refine any_one (n := 21) (fuel := 3) (by kernel_rfl) ?_;refine op_call [_, _] rfl rfl hF rfl (by kernel_rfl) ⟨rfl, rfl, trivial⟩ (fun K hK => ?_);clear hF
      refine (less_any _ pj p).mono ?_
      rintro e w8 ⟨rfl, hb8⟩
      rw [hor]
      have HA8 := Lib.hid (And.intro (HA7.out.drew.down hb8) (HPI.out.drew.down hb8))
      clear HA7 HPI hb8 q0 q1 q2 q3 q4 q5 q6 q7 q8 c0 c1 c2 c3 e0 e1 e2 e3 e4 e5 e6 e7 e8
      refine hK _ _ (fun a hF => ?_);clear hK K;refine any_chain (fuel := 0) [(22, false), (23, false), (24, false)] [] rfl (by kernel_rfl) (by kernel_rfl) hF (fun _ _ d _ _ h => by cases d <;> exact h) (fun C hC => ?_);clear hF;refine zY1 65 rfl rfl rfl rfl rfl (by intros;go_simp<;>with_reducible rfl) ?_;refine zY2 58 66 rfl rfl rfl rfl rfl rfl (by intros;go_simp<;>with_reducible rfl) ?_;refine zY2 55 67 rfl rfl rfl rfl rfl rfl (by intros;go_simp<;>with_reducible rfl) ?_;refine hC _ (fun a hF => ?_);clear hC C;refine any_end (by kernel_rfl) ?_;replace hF := hF.k7 1 3 4 6 7 8 68 rfl rfl rfl rfl rfl rfl rfl;refine hK _ _ ?_;clear hK;(try clear K)
      refine cond_no hF rfl ?_
      refine wp_skip ?_
      exact hKD _ _ ⟨hF.sub ⟨rfl, rfl, rfl, rfl, rfl, rfl, trivial⟩, HA8⟩
  clear hF HA7 HPI HORD h0 h1
  rintro a w7 ⟨hF, HA⟩
  obtain ⟨_, q1, _, q3, _, q5, q6, _, _⟩ := HA.out.2.cells
  refine wp_seq_k (fun K hK => ?_);refine wp_seq_k (fun K hK => ?_)
  by_cases hrow : p.row < 0
  · refine region_seq (l := [0, 1, 2]) (by kernel_rfl) ?_;refine seq_chain [(0, true), (1, true), (2, true)] [] rfl hF (fun C hC => ?_);clear hF;refine zS1 8 rfl rfl rfl rfl rfl (by intros;go_simp<;>with_reducible rfl) ?_;refine zS1 69 rfl rfl rfl rfl rfl (by intros;go_simp<;>with_reducible rfl) ?_;refine zS1 70 rfl rfl rfl rfl rfl (by intros;go_simp<;>with_reducible rfl) ?_;refine hC _ (fun a hF => ?_);clear hC C;refine seq_end ?_;replace hF := hF.k7 1 3 4 6 7 8 71 rfl rfl rfl rfl rfl rfl rfl;refine hK _ _ ?_;clear hK;(try clear K)
    refine cond_yes hF rfl ?_
    refine wp_exit ?_
    refine hKC _ _ ⟨hF.sub ⟨rfl, rfl, rfl, rfl, rfl, trivial⟩, ?_⟩
    have hsame : seen P (i + 1) = seen P i := by
      rw [HNX.out]
      funext q
      have : ¬ (0 : Int) ≤ p.row := by omega
      simp [this]
    rw [hsame]
    obtain ⟨a1, a2, ⟨n1, D, a3, a4⟩, a5⟩ := HA.out.1
    exact ⟨a1, a2, ⟨n1, D, by omega, a4⟩, a5⟩
  refine region_seq (l := [0, 1, 2]) (by kernel_rfl) ?_;refine seq_chain [(0, true), (1, true), (2, true)] [] rfl hF (fun C hC => ?_);clear hF;refine zS1 8 rfl rfl rfl rfl rfl (by intros;go_simp<;>with_reducible rfl) ?_;refine zS1 69 rfl rfl rfl rfl rfl (by intros;go_simp<;>with_reducible rfl) ?_;refine zS1 70 rfl rfl rfl rfl rfl (by intros;go_simp<;>with_reducible rfl) ?_;refine hC _ (fun a hF => ?_);clear hC C;refine seq_end ?_;replace hF := hF.k7 1 3 4 6 7 8 71 rfl rfl rfl rfl rfl rfl rfl;refine hK _ _ ?_;clear hK;(try clear K)
  refine cond_no hF rfl ?_
  refine wp_skip ?_
  refine hK _ _ ?_;clear hK;(try clear K)
  have hrow0 : 0 ≤ p.row := by omega
  obtain ⟨⟨b1, b2, b3, b4⟩, HC1, HC2, HC3⟩ := HCLR.out hrow0
  have hc1 := Lib.hid HC1
  have hc2 := Lib.hid HC2
  have hc3 := Lib.hid HC3
  clear HC1 HC2 HC3 HCLR
  have hap := HAP.out hrow0
  have hwf : WfT (p.level, p.x, p.y) := ⟨wf_i64 (by rw [HLEV.out]; show _ ≤ (n : Int); omega) (by rw [HLEV.out]; show (n : Int) ≤ _; omega), wf_i64 (by show _ ≤ p.x; omega) (by show p.x ≤ _; omega), wf_i64 (by show _ ≤ p.y; omega) (by show p.y ≤ _; omega)⟩
  have HSAME : Hid (seen P (i + 1) = fun q => decide (q = (p.level, p.x, p.y)) || seen P i q) := by
    show _ = _
    rw [HNX.out]
    funext q
    rw [Bool.or_comm]
    simp [hrow0]
  have HROW := Lib.hid hrow0
  clear HAP HNX hrow hrow0 q3
  refine wp_seq_k (fun K hK => ?_);refine region_seq (l := [0, 1, 2, 3, 4, 5, 6, 7, 8]) (by kernel_rfl) ?_;refine seq_chain [(0, true), (1, true), (2, true), (3, true), (4, true), (5, true), (6, true)] [7, 8] rfl hF (fun C hC => ?_);clear hF;refine zS1 8 rfl rfl rfl rfl rfl (by intros;go_simp<;>with_reducible rfl) ?_;refine zS1 72 rfl rfl rfl rfl rfl (by intros;go_simp<;>with_reducible rfl) ?_;refine zS1 8 rfl rfl rfl rfl rfl (by intros;go_simp<;>with_reducible rfl) ?_;refine zS1 74 rfl rfl rfl rfl rfl (by intros;go_simp<;>with_reducible rfl) ?_;refine zS1 8 rfl rfl rfl rfl rfl (by intros;go_simp<;>with_reducible rfl) ?_;refine zS1 76 rfl rfl rfl rfl rfl (by intros;go_simp<;>with_reducible rfl) ?_;refine zS3 73 75 77 rfl rfl rfl rfl rfl rfl rfl (by intros;go_simp<;>with_reducible rfl) ?_;refine hC _ (fun a hF => ?_);clear hC C;refine seq_one ?_;refine zE0 rfl rfl rfl hF rfl (by intros;go_simp<;>first|with_reducible rfl|(constructor<;>with_reducible rfl)) ?_;clear hF;refine fun a hF => ?_
  have hs0 : (w7.alloc (.cells #[.int .i64 0, .int .i64 0, .int .i64 0] 37)).heap[w7.heap.size]? = some (.cells #[.int .i64 0, .int .i64 0, .int .i64 0] 37 (0, 0)) := World.alloc_heap_new _ _
  have hb1 := Joins.below_alloc1 w7 (.cells #[.int .i64 0, .int .i64 0, .int .i64 0] 37)
  generalize w7.alloc (.cells #[.int .i64 0, .int .i64 0, .int .i64 0] 37) = wa at *
  obtain ⟨ga, hgv⟩ : ∃ g, g = w7.heap.size := ⟨_, rfl⟩
  have hgw : w7.heap.size ≤ ga := Nat.le_of_eq hgv.symm
  rw [← hgv] at hF hs0
  clear hgv
  have hSV := run_storeVar_row (P := Try.prog) wa ga 37 37 #[.int .i64 0, .int .i64 0, .int .i64 0] #[.int .i64 p.level, .int .i64 p.x, .int .i64 p.y] hs0 (by kernel_rfl) rfl (by simp [Value.oneCell'])
  have hs2 := setRow_heap wa ga #[.int .i64 0, .int .i64 0, .int .i64 0] #[.int .i64 p.level, .int .i64 p.x, .int .i64 p.y] 37 (0, 0) hs0
  have hb2 : Below w7.heap.size w7 (wa.setRow ga #[.int .i64 p.level, .int .i64 p.x, .int .i64 p.y]) := below_setRow hb1 hgw #[.int .i64 p.level, .int .i64 p.x, .int .i64 p.y]
  have HTW := Lib.hid (And.intro hb2 hs2)
  clear hs0 hb1 hs2 hb2 hgw
  refine seq_one ?_;refine op_storev rfl rfl hF rfl rfl rfl rfl hSV ?_;clear hF;refine fun a hF => ?_
  clear hSV
  refine hK _ _ ?_;clear hK;(try clear K)
  generalize wa.setRow ga #[.int .i64 p.level, .int .i64 p.x, .int .i64 p.y] = w8 at *
  have HA8 := Lib.hid (And.intro (HA.out.1.down HTW.out.1) (HA.out.2.down HTW.out.1))
  have hga := boxed_cell (j := 0) HTW.out.2 rfl
  have hga1 := boxed_cell (j := 1) HTW.out.2 rfl
  have hga2 := boxed_cell (j := 2) HTW.out.2 rfl
  clear HTW HA q1 q5 q6
  have hlk := HA8.out.1.set.look _ hwf
  rw [hap] at hlk
  have hlk2 : (Instr.lookup 33 (.map (some M)) (.agg #[.int .i64 p.level, .int .i64 p.x, .int .i64 p.y]) false).run Try.prog w8 = .ok (.bool false) w8 := hlk
  clear hlk hap
  refine wp_seq_k (fun K hK => ?_);refine wp_seq_k (fun K hK => ?_);refine region_seq (l := [0, 1, 2]) (by kernel_rfl) ?_;refine seq_chain [(0, true), (1, true), (2, true)] [] rfl hF (fun C hC => ?_);clear hF;refine zM rfl rfl rfl rfl rfl rfl ?_;refine zS1 9 rfl rfl rfl rfl rfl (by intros;go_simp<;>with_reducible rfl) ?_;refine zS2 79 80 rfl rfl rfl rfl rfl rfl (by intros;go_simp<;>with_reducible rfl) ?_;refine hC _ (fun a hF => ?_);clear hC C;refine seq_end ?_;replace hF := hF.k8 1 3 4 6 7 8 9 81 rfl rfl rfl rfl rfl rfl rfl rfl;refine hK _ _ ?_;clear hK;(try clear K)
  refine cond_no hF rfl ?_
  refine wp_skip ?_
  refine hK _ _ ?_;clear hK;(try clear K)
  clear hlk2
  obtain ⟨w9, hup, HA9, hg9⟩ := HA8.out.1.put hgh4 _ hwf (by omega)
  rw [← HSAME.out] at HA9
  have hup2 : (Instr.mapUpdate 33 (.map (some M)) (.agg #[.int .i64 p.level, .int .i64 p.x, .int .i64 p.y]) (.bool true)).run Try.prog w8 = .ok () w9 := hup
  have HPI9 : Hid (PlcIn w9 gp p) := (hg9.block gp (lt_of_block HA8.out.2) (fun e => by
    cases e
    obtain ⟨_, _, _, ⟨es, cl, e2, _⟩, _⟩ := HA8.out.1.set
    have e3 := HA8.out.2
    unfold PlcIn at e3
    rw [e2] at e3
    cases e3)).trans HA8.out.2
  have HA9' := Lib.hid HA9
  clear hup HA9 hg9 HA8 HSAME
  refine wp_seq_k (fun K hK => ?_);refine region_seq (l := [0, 1, 2]) (by kernel_rfl) ?_;refine seq_chain [(0, true), (1, true)] [2] rfl hF (fun C hC => ?_);clear hF;refine zM rfl rfl rfl rfl rfl rfl ?_;refine zS1 9 rfl rfl rfl rfl rfl (by intros;go_simp<;>with_reducible rfl) ?_;refine hC _ (fun a hF => ?_);clear hC C;refine seq_one ?_;refine zU2 82 83 rfl rfl hF rfl rfl rfl (by intros;go_simp<;>with_reducible rfl) ?_;clear hF;refine fun a hF => ?_
  clear hup2 hga hga1 hga2
  refine hK _ _ ?_;clear hK;(try clear K)
  obtain ⟨_, q1, _, _, _, _, _, _, _⟩ := HPI9.out.cells
  obtain ⟨_, _, _, c3⟩ := HA9'.out.hall.cells
  rw [HLEV.out] at q1
  have hnl : n < h.ln := by omega
  have hni : (n : Int) < (h.ln : Nat) := by omega
  obtain ⟨bl, ol, hll, l0, l1, l2, l3, l4, l5, l6, l7⟩ := lev_at ((HINH.out.below HB4.out).below HA9'.out.below).levels n hnl hn
  have HIN := Lib.hid ((HINH.out.below HB4.out).lev h.levels[n] (List.getElem_mem hn))
  rw [hll] at c3
  generalize h.levels[n] = l at *
  refine wp_seq_k (fun K hK => ?_);refine region_seq (l := [0, 1, 2, 3, 4, 5, 6, 7]) (by kernel_rfl) ?_;refine seq_chain [(0, true), (1, true), (2, true), (3, true), (4, true), (5, true)] [6, 7] rfl hF (fun C hC => ?_);clear hF;refine zS1 1 rfl rfl rfl rfl rfl (by intros;go_simp<;>with_reducible rfl) ?_;refine zS1 84 rfl rfl rfl rfl rfl (by intros;go_simp<;>with_reducible rfl) ?_;refine zS1 8 rfl rfl rfl rfl rfl (by intros;go_simp<;>with_reducible rfl) ?_;refine zS1 86 rfl rfl rfl rfl rfl (by intros;go_simp<;>with_reducible rfl) ?_;refine zS2 85 87 rfl rfl rfl rfl rfl rfl (by intros;go_simp<;>with_reducible rfl) ?_;refine zS1 88 rfl rfl rfl rfl rfl (by intros;go_simp<;>with_reducible rfl) ?_;refine hC _ (fun a hF => ?_);clear hC C;refine seq_one ?_;refine zE0 rfl rfl rfl hF rfl (by intros;go_simp<;>first|with_reducible rfl|(constructor<;>with_reducible rfl)) ?_;clear hF;refine fun a hF => ?_
  have hs0 : (w9.alloc (.cells #[.string ⟨#[]⟩, .int .i64 0, .slice none 0 0, .slice none 0 0, .slice none 0 0, .slice none 0 0, .slice none 0 0, .int .i64 0] 43)).heap[w9.heap.size]? = some (.cells #[.string ⟨#[]⟩, .int .i64 0, .slice none 0 0, .slice none 0 0, .slice none 0 0, .slice none 0 0, .slice none 0 0, .int .i64 0] 43 (0, 0)) := World.alloc_heap_new _ _
  have hb1 := Joins.below_alloc1 w9 (.cells #[.string ⟨#[]⟩, .int .i64 0, .slice none 0 0, .slice none 0 0, .slice none 0 0, .slice none 0 0, .slice none 0 0, .int .i64 0] 43)
  generalize w9.alloc (.cells #[.string ⟨#[]⟩, .int .i64 0, .slice none 0 0, .slice none 0 0, .slice none 0 0, .slice none 0 0, .slice none 0 0, .int .i64 0] 43) = wa at *
  obtain ⟨gl, hgv⟩ : ∃ g, g = w9.heap.size := ⟨_, rfl⟩
  have hgw : w9.heap.size ≤ gl := Nat.le_of_eq hgv.symm
  rw [← hgv] at hF hs0
  clear hgv
  have hSV := run_storeVar_row (P := Try.prog) wa gl 43 43 #[.string ⟨#[]⟩, .int .i64 0, .slice none 0 0, .slice none 0 0, .slice none 0 0, .slice none 0 0, .slice none 0 0, .int .i64 0] #[.string (bs l.name), .int .i64 l.height, .slice l.ba l.bn l.bc, .slice l.aa l.an l.ac, .slice l.sa l.sn l.sc, .slice l.pa l.pn l.pc, .slice l.da l.dn l.dc, .int .i64 l.at'] hs0 (by kernel_rfl) rfl (by simp [Value.oneCell'])
  have hs2 := setRow_heap wa gl #[.string ⟨#[]⟩, .int .i64 0, .slice none 0 0, .slice none 0 0, .slice none 0 0, .slice none 0 0, .slice none 0 0, .int .i64 0] #[.string (bs l.name), .int .i64 l.height, .slice l.ba l.bn l.bc, .slice l.aa l.an l.ac, .slice l.sa l.sn l.sc, .slice l.pa l.pn l.pc, .slice l.da l.dn l.dc, .int .i64 l.at'] 43 (0, 0) hs0
  have hb2 : Below w9.heap.size w9 (wa.setRow gl #[.string (bs l.name), .int .i64 l.height, .slice l.ba l.bn l.bc, .slice l.aa l.an l.ac, .slice l.sa l.sn l.sc, .slice l.pa l.pn l.pc, .slice l.da l.dn l.dc, .int .i64 l.at']) := below_setRow hb1 hgw #[.string (bs l.name), .int .i64 l.height, .slice l.ba l.bn l.bc, .slice l.aa l.an l.ac, .slice l.sa l.sn l.sc, .slice l.pa l.pn l.pc, .slice l.da l.dn l.dc, .int .i64 l.at']
  have HTW := Lib.hid (And.intro hb2 hs2)
  clear hs0 hb1 hs2 hb2 hgw
  refine seq_one ?_;refine op_storev rfl rfl hF rfl rfl rfl rfl hSV ?_;clear hF;refine fun a hF => ?_
  clear hSV
  refine hK _ _ ?_;clear hK;(try clear K)
  generalize wa.setRow gl #[.string (bs l.name), .int .i64 l.height, .slice l.ba l.bn l.bc, .slice l.aa l.an l.ac, .slice l.sa l.sn l.sc, .slice l.pa l.pn l.pc, .slice l.da l.dn l.dc, .int .i64 l.at'] = w10 at *
  have HB : Hid (PwB w4 w10 h gh M (seen P (i + 1)) (i + 1) gp p gl l) := ⟨HA9'.out.down HTW.out.1, HPI9.out.down HTW.out.1, HTW.out.2⟩
  clear HTW HA9' HPI9 q1 c3 l0 l1 l2 l3 l4 l5 l6 l7
  refine seq_cut (fun a' w' => FrF 148 [] [(1, .pointer (some ⟨gh, 0, none⟩)), (3, .bool true), (4, .slice (some ⟨bb, oo, none⟩) P.length c), (6, .map (some M)), (7, .int .i64 i), (8, .pointer (some ⟨gp, 0, none⟩)), (10, .pointer (some ⟨gl, 0, none⟩))] a' ∧ Hid (PwB w4 w' h gh M (seen P (i + 1)) (i + 1) gp p gl l)) (fun KL20 hKL20 => ?_) ?_
  · refine wp_seq_k (fun K hK => ?_);refine region_seq (l := [0]) (by kernel_rfl) ?_;refine seq_chain [(0, true)] [] rfl hF (fun C hC => ?_);clear hF;refine zA rfl rfl rfl rfl rfl rfl ?_;refine hC _ (fun a hF => ?_);clear hC C;refine seq_end ?_;replace hF := hF.k8 1 3 4 6 7 8 10 11 rfl rfl rfl rfl rfl rfl rfl rfl;refine hK _ _ ?_;clear hK;(try clear K)
    refine wp_block ?_
    refine loop_fr (fun q a' w' => ∃ k : Nat, k + q = l.an ∧ FrF 148 [] [(1, .pointer (some ⟨gh, 0, none⟩)), (3, .bool true), (4, .slice (some ⟨bb, oo, none⟩) P.length c), (6, .map (some M)), (7, .int .i64 i), (8, .pointer (some ⟨gp, 0, none⟩)), (10, .pointer (some ⟨gl, 0, none⟩)), (11, .int .i64 k)] a' ∧ Hid (PwB w4 w' h gh M (seen P (i + 1)) (i + 1) gp p gl l)) l.an ⟨0, by omega, hF, HB⟩ ?_
    clear hF HB
    rintro rj a w' ⟨k, hkk, hF, HB⟩ KB20 hKB20
    refine wp_seq_k (fun K hK => ?_);refine wp_seq_k (fun K hK => ?_)
    obtain ⟨_, _, _, _, _, px, py, _, _⟩ := HB.out.plc.cells
    obtain ⟨_, _, _, l3, l4, l5, _, _⟩ := HB.out.lev.cells
    by_cases hlk : k < l.an
    rotate_left
    · have hlki : ¬ (k : Int) < (l.an : Nat) := by omega
      refine region_seq (l := [0, 1, 2, 3, 4]) (by kernel_rfl) ?_;refine seq_chain [(0, true), (1, true), (2, true), (3, true), (4, true)] [] rfl hF (fun C hC => ?_);clear hF;refine zM rfl rfl rfl rfl rfl rfl ?_;refine zS1 10 rfl rfl rfl rfl rfl (by intros;go_simp<;>with_reducible rfl) ?_;refine zS1 91 rfl rfl rfl rfl rfl (by intros;go_simp<;>with_reducible rfl) ?_;refine zS1 92 rfl rfl rfl rfl rfl (by intros;go_simp<;>with_reducible rfl) ?_;refine zS2 90 93 rfl rfl rfl rfl rfl rfl (by intros;go_simp<;>with_reducible rfl) ?_;refine hC _ (fun a hF => ?_);clear hC C;refine seq_end ?_;replace hF := hF.k9 1 3 4 6 7 8 10 11 94 rfl rfl rfl rfl rfl rfl rfl rfl rfl;refine hK _ _ ?_;clear hK;(try clear K)
      refine cond_no hF rfl ?_
      refine wp_exit ?_
      clear px py l3 l4 l5 hlki hlk hkk
      exact hKL20 _ _ ⟨hF.sub ⟨rfl, rfl, rfl, rfl, rfl, rfl, rfl, trivial⟩, HB⟩
    have hlki : (k : Int) < (l.an : Nat) := by omega
    refine region_seq (l := [0, 1, 2, 3, 4]) (by kernel_rfl) ?_;refine seq_chain [(0, true), (1, true), (2, true), (3, true), (4, true)] [] rfl hF (fun C hC => ?_);clear hF;refine zM rfl rfl rfl rfl rfl rfl ?_;refine zS1 10 rfl rfl rfl rfl rfl (by intros;go_simp<;>with_reducible rfl) ?_;refine zS1 91 rfl rfl rfl rfl rfl (by intros;go_simp<;>with_reducible rfl) ?_;refine zS1 92 rfl rfl rfl rfl rfl (by intros;go_simp<;>with_reducible rfl) ?_;refine zS2 90 93 rfl rfl rfl rfl rfl rfl (by intros;go_simp<;>with_reducible rfl) ?_;refine hC _ (fun a hF => ?_);clear hC C;refine seq_end ?_;replace hF := hF.k9 1 3 4 6 7 8 10 11 94 rfl rfl rfl rfl rfl rfl rfl rfl rfl;refine hK _ _ ?_;clear hK;(try clear K)
    refine cond_yes hF rfl ?_
    refine wp_skip ?_
    refine hK _ _ ?_;clear hK;(try clear K)
    have hkl : k < l.areas.length := by
      have := (HIN.out.below HB.out.below).areas.1
      omega
    obtain ⟨bb, oo, hba, e0, e1, e2, e3, e4, e5, e6⟩ := area_at (HIN.out.below HB.out.below).areas k hlk hkl
    have hclr := hc1.out l.areas[k] (List.getElem_mem hkl)
    generalize l.areas[k] = bx at *
    rw [hba] at l3
    refine wp_seq_k (fun K hK => ?_)
    refine wp_block ?_
    refine wp_seq_k (fun K hK => ?_);refine region_any (by kernel_rfl) ?_;refine any_chain (fuel := 1) [(0, false), (1, true), (2, false), (3, true), (4, false), (5, true), (6, false), (7, false), (8, false), (9, true)] [10] rfl (by kernel_rfl) (by kernel_rfl) hF (fun _ _ d _ _ h => by cases d <;> exact h) (fun C hC => ?_);clear hF;refine zY1 8 rfl rfl rfl rfl rfl (by intros;go_simp<;>with_reducible rfl) ?_;refine zS1 97 rfl rfl rfl rfl rfl (by intros;go_simp<;>with_reducible rfl) ?_;refine zY1 8 rfl rfl rfl rfl rfl (by intros;go_simp<;>with_reducible rfl) ?_;refine zS1 99 rfl rfl rfl rfl rfl (by intros;go_simp<;>with_reducible rfl) ?_;refine zY1 10 rfl rfl rfl rfl rfl (by intros;go_simp<;>with_reducible rfl) ?_;refine zS1 101 rfl rfl rfl rfl rfl (by intros;go_simp<;>with_reducible rfl) ?_;refine zM rfl rfl rfl rfl rfl rfl ?_;refine zY2 102 103 rfl rfl rfl rfl rfl rfl (by intros;go_simp<;>with_reducible rfl) ?_;refine zY1 104 rfl rfl rfl rfl rfl (by intros;go_simp<;>with_reducible rfl) ?_;refine zS1 105 rfl rfl rfl rfl rfl (by intros;go_simp<;>with_reducible rfl) ?_;refine hC _ (fun a hF => ?_);clear hC C;refine any_one (n := 10) (fuel := 0) (by kernel_rfl) ?_;refine op_call [_, _, _] rfl rfl hF rfl (by kernel_rfl) ⟨rfl, rfl, rfl, trivial⟩ (fun K hK => ?_);clear hF
    refine (rin_any _ bx.box p.x p.y).mono ?_
    rintro e w5 ⟨rfl, hb5⟩
    rw [hclr]
    have HB2 := Lib.hid (HB.out.drew.down hb5)
    clear HB hb5 px py l3 l4 l5 e0 e1 e2 e3 e4 e5 e6 hclr
    refine hK _ _ (fun a hF => ?_);clear hK K;refine any_end (by kernel_rfl) ?_;replace hF := hF.k9 1 3 4 6 7 8 10 11 107 rfl rfl rfl rfl rfl rfl rfl rfl rfl;refine hK _ _ ?_;clear hK;(try clear K)
    refine cond_no hF rfl ?_
    refine wp_skip ?_
    refine hK _ _ ?_;clear hK;(try clear K)
    have hlim := HIN.out.an
    have hws : IntKind.i64.wrap ((k : Int) + 1) = ((k + 1 : Nat) : Int) := wrap_succ (by omega)
    refine region_seq (l := [0, 1, 2]) (by kernel_rfl) ?_;refine seq_chain [(0, true), (1, true), (2, true)] [] rfl hF (fun C hC => ?_);clear hF;refine zM rfl rfl rfl rfl rfl rfl ?_;refine zS1 95 rfl rfl rfl rfl rfl (by intros;go_simp<;>with_reducible rfl) ?_;refine zA rfl rfl rfl rfl rfl rfl ?_;refine hC _ (fun a hF => ?_);clear hC C;refine seq_end ?_;replace hF := hF.k8 1 3 4 6 7 8 10 11 rfl rfl rfl rfl rfl rfl rfl rfl
    exact hKB20 (l.an - (k + 1)) _ _ (by omega) ⟨k + 1, by omega, hF, HB2⟩
  clear hF HB
  rintro a w' ⟨hF, HB⟩
  refine seq_cut (fun a' w' => FrF 148 [] [(1, .pointer (some ⟨gh, 0, none⟩)), (3, .bool true), (4, .slice (some ⟨bb, oo, none⟩) P.length c), (6, .map (some M)), (7, .int .i64 i), (8, .pointer (some ⟨gp, 0, none⟩)), (10, .pointer (some ⟨gl, 0, none⟩))] a' ∧ Hid (PwB w4 w' h gh M (seen P (i + 1)) (i + 1) gp p gl l)) (fun KL25 hKL25 => ?_) ?_
  · refine wp_seq_k (fun K hK => ?_);refine region_seq (l := [0]) (by kernel_rfl) ?_;refine seq_chain [(0, true)] [] rfl hF (fun C hC => ?_);clear hF;refine zA rfl rfl rfl rfl rfl rfl ?_;refine hC _ (fun a hF => ?_);clear hC C;refine seq_end ?_;replace hF := hF.k8 1 3 4 6 7 8 10 12 rfl rfl rfl rfl rfl rfl rfl rfl;refine hK _ _ ?_;clear hK;(try clear K)
    refine wp_block ?_
    refine loop_fr (fun q a' w' => ∃ k : Nat, k + q = l.pn ∧ FrF 148 [] [(1, .pointer (some ⟨gh, 0, none⟩)), (3, .bool true), (4, .slice (some ⟨bb, oo, none⟩) P.length c), (6, .map (some M)), (7, .int .i64 i), (8, .pointer (some ⟨gp, 0, none⟩)), (10, .pointer (some ⟨gl, 0, none⟩)), (12, .int .i64 k)] a' ∧ Hid (PwB w4 w' h gh M (seen P (i + 1)) (i + 1) gp p gl l)) l.pn ⟨0, by omega, hF, HB⟩ ?_
    clear hF HB
    rintro rj a w' ⟨k, hkk, hF, HB⟩ KB25 hKB25
    refine wp_seq_k (fun K hK => ?_);refine wp_seq_k (fun K hK => ?_)
    obtain ⟨_, _, _, _, _, px, py, _, _⟩ := HB.out.plc.cells
    obtain ⟨_, _, _, l3, l4, l5, _, _⟩ := HB.out.lev.cells
    by_cases hlk : k < l.pn
    rotate_left
    · have hlki : ¬ (k : Int) < (l.pn : Nat) := by omega
      refine region_seq (l := [0, 1, 2, 3, 4]) (by kernel_rfl) ?_;refine seq_chain [(0, true), (1, true), (2, true), (3, true), (4, true)] [] rfl hF (fun C hC => ?_);clear hF;refine zM rfl rfl rfl rfl rfl rfl ?_;refine zS1 10 rfl rfl rfl rfl rfl (by intros;go_simp<;>with_reducible rfl) ?_;refine zS1 109 rfl rfl rfl rfl rfl (by intros;go_simp<;>with_reducible rfl) ?_;refine zS1 110 rfl rfl rfl rfl rfl (by intros;go_simp<;>with_reducible rfl) ?_;refine zS2 108 111 rfl rfl rfl rfl rfl rfl (by intros;go_simp<;>with_reducible rfl) ?_;refine hC _ (fun a hF => ?_);clear hC C;refine seq_end ?_;replace hF := hF.k9 1 3 4 6 7 8 10 12 112 rfl rfl rfl rfl rfl rfl rfl rfl rfl;refine hK _ _ ?_;clear hK;(try clear K)
      refine cond_no hF rfl ?_
      refine wp_exit ?_
      clear px py l3 l4 l5 hlki hlk hkk
      exact hKL25 _ _ ⟨hF.sub ⟨rfl, rfl, rfl, rfl, rfl, rfl, rfl, trivial⟩, HB⟩
    have hlki : (k : Int) < (l.pn : Nat) := by omega
    refine region_seq (l := [0, 1, 2, 3, 4]) (by kernel_rfl) ?_;refine seq_chain [(0, true), (1, true), (2, true), (3, true), (4, true)] [] rfl hF (fun C hC => ?_);clear hF;refine zM rfl rfl rfl rfl rfl rfl ?_;refine zS1 10 rfl rfl rfl rfl rfl (by intros;go_simp<;>with_reducible rfl) ?_;refine zS1 109 rfl rfl rfl rfl rfl (by intros;go_simp<;>with_reducible rfl) ?_;refine zS1 110 rfl rfl rfl rfl rfl (by intros;go_simp<;>with_reducible rfl) ?_;refine zS2 108 111 rfl rfl rfl rfl rfl rfl (by intros;go_simp<;>with_reducible rfl) ?_;refine hC _ (fun a hF => ?_);clear hC C;refine seq_end ?_;replace hF := hF.k9 1 3 4 6 7 8 10 12 112 rfl rfl rfl rfl rfl rfl rfl rfl rfl;refine hK _ _ ?_;clear hK;(try clear K)
    refine cond_yes hF rfl ?_
    refine wp_skip ?_
    refine hK _ _ ?_;clear hK;(try clear K)
    have hkl : k < l.pillars.length := by
      have := (HIN.out.below HB.out.below).pillars.1
      omega
    obtain ⟨bb, oo, hba, e0, e1, e2, e3⟩ := box_at (HIN.out.below HB.out.below).pillars k hlk hkl
    have hclr := hc2.out l.pillars[k] (List.getElem_mem hkl)
    generalize l.pillars[k] = bx at *
    rw [hba] at l5
    refine wp_seq_k (fun K hK => ?_)
    refine wp_block ?_
    refine wp_seq_k (fun K hK => ?_);refine region_any (by kernel_rfl) ?_;refine any_chain (fuel := 1) [(0, false), (1, true), (2, false), (3, true), (4, false), (5, true), (6, false), (7, false), (8, true)] [9] rfl (by kernel_rfl) (by kernel_rfl) hF (fun _ _ d _ _ h => by cases d <;> exact h) (fun C hC => ?_);clear hF;refine zY1 8 rfl rfl rfl rfl rfl (by intros;go_simp<;>with_reducible rfl) ?_;refine zS1 115 rfl rfl rfl rfl rfl (by intros;go_simp<;>with_reducible rfl) ?_;refine zY1 8 rfl rfl rfl rfl rfl (by intros;go_simp<;>with_reducible rfl) ?_;refine zS1 117 rfl rfl rfl rfl rfl (by intros;go_simp<;>with_reducible rfl) ?_;refine zY1 10 rfl rfl rfl rfl rfl (by intros;go_simp<;>with_reducible rfl) ?_;refine zS1 119 rfl rfl rfl rfl rfl (by intros;go_simp<;>with_reducible rfl) ?_;refine zM rfl rfl rfl rfl rfl rfl ?_;refine zY2 120 121 rfl rfl rfl rfl rfl rfl (by intros;go_simp<;>with_reducible rfl) ?_;refine zS1 122 rfl rfl rfl rfl rfl (by intros;go_simp<;>with_reducible rfl) ?_;refine hC _ (fun a hF => ?_);clear hC C;refine any_one (n := 9) (fuel := 0) (by kernel_rfl) ?_;refine op_call [_, _, _] rfl rfl hF rfl (by kernel_rfl) ⟨rfl, rfl, rfl, trivial⟩ (fun K hK => ?_);clear hF
    refine (rin_any _ bx p.x p.y).mono ?_
    rintro e w5 ⟨rfl, hb5⟩
    rw [hclr]
    have HB2 := Lib.hid (HB.out.drew.down hb5)
    clear HB hb5 px py l3 l4 l5 e0 e1 e2 e3 hclr
    refine hK _ _ (fun a hF => ?_);clear hK K;refine any_end (by kernel_rfl) ?_;replace hF := hF.k9 1 3 4 6 7 8 10 12 124 rfl rfl rfl rfl rfl rfl rfl rfl rfl;refine hK _ _ ?_;clear hK;(try clear K)
    refine cond_no hF rfl ?_
    refine wp_skip ?_
    refine hK _ _ ?_;clear hK;(try clear K)
    have hlim := HIN.out.pn
    have hws : IntKind.i64.wrap ((k : Int) + 1) = ((k + 1 : Nat) : Int) := wrap_succ (by omega)
    refine region_seq (l := [0, 1, 2]) (by kernel_rfl) ?_;refine seq_chain [(0, true), (1, true), (2, true)] [] rfl hF (fun C hC => ?_);clear hF;refine zM rfl rfl rfl rfl rfl rfl ?_;refine zS1 113 rfl rfl rfl rfl rfl (by intros;go_simp<;>with_reducible rfl) ?_;refine zA rfl rfl rfl rfl rfl rfl ?_;refine hC _ (fun a hF => ?_);clear hC C;refine seq_end ?_;replace hF := hF.k8 1 3 4 6 7 8 10 12 rfl rfl rfl rfl rfl rfl rfl rfl
    exact hKB25 (l.pn - (k + 1)) _ _ (by omega) ⟨k + 1, by omega, hF, HB2⟩
  clear hF HB
  rintro a w' ⟨hF, HB⟩
  refine wp_seq_k (fun K hK => ?_);refine region_seq (l := [0]) (by kernel_rfl) ?_;refine seq_chain [(0, true)] [] rfl hF (fun C hC => ?_);clear hF;refine zA rfl rfl rfl rfl rfl rfl ?_;refine hC _ (fun a hF => ?_);clear hC C;refine seq_end ?_;replace hF := hF.k8 1 3 4 6 7 8 10 13 rfl rfl rfl rfl rfl rfl rfl rfl;refine hK _ _ ?_;clear hK;(try clear K)
  refine wp_block ?_
  refine loop_fr (fun q a' w' => ∃ k : Nat, k + q = l.sn ∧ FrF 148 [] [(1, .pointer (some ⟨gh, 0, none⟩)), (3, .bool true), (4, .slice (some ⟨bb, oo, none⟩) P.length c), (6, .map (some M)), (7, .int .i64 i), (8, .pointer (some ⟨gp, 0, none⟩)), (10, .pointer (some ⟨gl, 0, none⟩)), (13, .int .i64 k)] a' ∧ Hid (PwB w4 w' h gh M (seen P (i + 1)) (i + 1) gp p gl l)) l.sn ⟨0, by omega, hF, HB⟩ ?_
  clear hF HB
  rintro rj a w' ⟨k, hkk, hF, HB⟩ KB30 hKB30
  refine wp_seq_k (fun K hK => ?_);refine wp_seq_k (fun K hK => ?_)
  obtain ⟨_, _, _, _, _, px, py, _, _⟩ := HB.out.plc.cells
  obtain ⟨_, _, _, l3, l4, l5, _, _⟩ := HB.out.lev.cells
  by_cases hlk : k < l.sn
  rotate_left
  · have hlki : ¬ (k : Int) < (l.sn : Nat) := by omega
    refine region_seq (l := [0, 1, 2, 3, 4]) (by kernel_rfl) ?_;refine seq_chain [(0, true), (1, true), (2, true), (3, true), (4, true)] [] rfl hF (fun C hC => ?_);clear hF;refine zM rfl rfl rfl rfl rfl rfl ?_;refine zS1 10 rfl rfl rfl rfl rfl (by intros;go_simp<;>with_reducible rfl) ?_;refine zS1 126 rfl rfl rfl rfl rfl (by intros;go_simp<;>with_reducible rfl) ?_;refine zS1 127 rfl rfl rfl rfl rfl (by intros;go_simp<;>with_reducible rfl) ?_;refine zS2 125 128 rfl rfl rfl rfl rfl rfl (by intros;go_simp<;>with_reducible rfl) ?_;refine hC _ (fun a hF => ?_);clear hC C;refine seq_end ?_;replace hF := hF.k9 1 3 4 6 7 8 10 13 129 rfl rfl rfl rfl rfl rfl rfl rfl rfl;refine hK _ _ ?_;clear hK;(try clear K)
    refine cond_no hF rfl ?_
    refine wp_exit ?_
    refine hKC _ _ ⟨hF.sub ⟨rfl, rfl, rfl, rfl, rfl, trivial⟩, HB.out.a⟩
  have hlki : (k : Int) < (l.sn : Nat) := by omega
  refine region_seq (l := [0, 1, 2, 3, 4]) (by kernel_rfl) ?_;refine seq_chain [(0, true), (1, true), (2, true), (3, true), (4, true)] [] rfl hF (fun C hC => ?_);clear hF;refine zM rfl rfl rfl rfl rfl rfl ?_;refine zS1 10 rfl rfl rfl rfl rfl (by intros;go_simp<;>with_reducible rfl) ?_;refine zS1 126 rfl rfl rfl rfl rfl (by intros;go_simp<;>with_reducible rfl) ?_;refine zS1 127 rfl rfl rfl rfl rfl (by intros;go_simp<;>with_reducible rfl) ?_;refine zS2 125 128 rfl rfl rfl rfl rfl rfl (by intros;go_simp<;>with_reducible rfl) ?_;refine hC _ (fun a hF => ?_);clear hC C;refine seq_end ?_;replace hF := hF.k9 1 3 4 6 7 8 10 13 129 rfl rfl rfl rfl rfl rfl rfl rfl rfl;refine hK _ _ ?_;clear hK;(try clear K)
  refine cond_yes hF rfl ?_
  refine wp_skip ?_
  refine hK _ _ ?_;clear hK;(try clear K)
  have hkl : k < l.aisles.length := by
    have := (HIN.out.below HB.out.below).aisles.1
    omega
  obtain ⟨bb, oo, hba, e0, e1, e2, e3⟩ := box_at (HIN.out.below HB.out.below).aisles k hlk hkl
  have hclr := hc3.out l.aisles[k] (List.getElem_mem hkl)
  generalize l.aisles[k] = bx at *
  rw [hba] at l4
  refine wp_seq_k (fun K hK => ?_)
  refine wp_block ?_
  refine wp_seq_k (fun K hK => ?_);refine region_any (by kernel_rfl) ?_;refine any_chain (fuel := 1) [(0, false), (1, true), (2, false), (3, true), (4, false), (5, true), (6, false), (7, false), (8, true)] [9] rfl (by kernel_rfl) (by kernel_rfl) hF (fun _ _ d _ _ h => by cases d <;> exact h) (fun C hC => ?_);clear hF;refine zY1 8 rfl rfl rfl rfl rfl (by intros;go_simp<;>with_reducible rfl) ?_;refine zS1 132 rfl rfl rfl rfl rfl (by intros;go_simp<;>with_reducible rfl) ?_;refine zY1 8 rfl rfl rfl rfl rfl (by intros;go_simp<;>with_reducible rfl) ?_;refine zS1 134 rfl rfl rfl rfl rfl (by intros;go_simp<;>with_reducible rfl) ?_;refine zY1 10 rfl rfl rfl rfl rfl (by intros;go_simp<;>with_reducible rfl) ?_;refine zS1 136 rfl rfl rfl rfl rfl (by intros;go_simp<;>with_reducible rfl) ?_;refine zM rfl rfl rfl rfl rfl rfl ?_;refine zY2 137 138 rfl rfl rfl rfl rfl rfl (by intros;go_simp<;>with_reducible rfl) ?_;refine zS1 139 rfl rfl rfl rfl rfl (by intros;go_simp<;>with_reducible rfl) ?_;refine hC _ (fun a hF => ?_);clear hC C;refine any_one (n := 9) (fuel := 0) (by kernel_rfl) ?_;refine op_call [_, _, _] rfl rfl hF rfl (by kernel_rfl) ⟨rfl, rfl, rfl, trivial⟩ (fun K hK => ?_);clear hF
  refine (rin_any _ bx p.x p.y).mono ?_
  rintro e w5 ⟨rfl, hb5⟩
  rw [hclr]
  have HB2 := Lib.hid (HB.out.drew.down hb5)
  clear HB hb5 px py l3 l4 l5 e0 e1 e2 e3 hclr
  refine hK _ _ (fun a hF => ?_);clear hK K;refine any_end (by kernel_rfl) ?_;replace hF := hF.k9 1 3 4 6 7 8 10 13 141 rfl rfl rfl rfl rfl rfl rfl rfl rfl;refine hK _ _ ?_;clear hK;(try clear K)
  refine cond_no hF rfl ?_
  refine wp_skip ?_
  refine hK _ _ ?_;clear hK;(try clear K)
  have hlim := HIN.out.sn
  have hws : IntKind.i64.wrap ((k : Int) + 1) = ((k + 1 : Nat) : Int) := wrap_succ (by omega)
  refine region_seq (l := [0, 1, 2]) (by kernel_rfl) ?_;refine seq_chain [(0, true), (1, true), (2, true)] [] rfl hF (fun C hC => ?_);clear hF;refine zM rfl rfl rfl rfl rfl rfl ?_;refine zS1 130 rfl rfl rfl rfl rfl (by intros;go_simp<;>with_reducible rfl) ?_;refine zA rfl rfl rfl rfl rfl rfl ?_;refine hC _ (fun a hF => ?_);clear hC C;refine seq_end ?_;replace hF := hF.k8 1 3 4 6 7 8 10 13 rfl rfl rfl rfl rfl rfl rfl rfl
  exact hKB30 (l.sn - (k + 1)) _ _ (by omega) ⟨k + 1, by omega, hF, HB2⟩
end Go.Proofs.Ytmcdhggnpfhlmaa
