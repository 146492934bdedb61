/- HallCompanions: the walk. -/
import Derived.Test.YtmcdhggnpfhlmaaQHCB38
import Derived.Test.YtmcdhggnpfhlmaaQHCM00

namespace Go.Proofs.Ytmcdhggnpfhlmaa
open Go.RowKit Go.IntWalk
set_option linter.unusedSimpArgs false
set_option linter.unusedVariables false

/-- Is a number named by a companion's seat among the first t places? -/
def nmd (P : List PlaceR) (t : Nat) (q : Nat) : Bool := (P.take t).any fun p => decide (p.kind = 2) && decide (p.wth = (q : Int))
theorem nmd_next {P : List PlaceR} {t : Nat} (h : t < P.length) (q : Nat) : nmd P (t + 1) q = (nmd P t q || (decide (P[t].kind = 2) && decide (P[t].wth = (q : Int)))) := by
  unfold nmd
  rw [List.take_succ_eq_append_getElem h, List.any_append]
  simp
theorem nmd_yes {P : List PlaceR} {j : Nat} (hj : j < P.length) (h2 : P[j].kind = 2) {q : Nat} (hw : P[j].wth = (q : Int)) : nmd P P.length q = true := by
  unfold nmd
  rw [List.take_length, List.any_eq_true]
  exact ⟨P[j], List.getElem_mem hj, by simp [h2, hw]⟩
theorem nmd_no {P : List PlaceR} {q : Nat} (h : ∀ (j : Nat) (hj : j < P.length), P[j].kind = 2 → P[j].wth ≠ (q : Int)) : nmd P P.length q = false := by
  unfold nmd
  rw [List.take_length, List.any_eq_false]
  intro p hp
  obtain ⟨j, hj, rfl⟩ := List.mem_iff_getElem.1 hp
  intro hh
  simp only [Bool.and_eq_true, decide_eq_true_eq] at hh
  exact h j hj hh.1 hh.2

/-- The list of what is named. -/
def NmdAt (w : World) (gb : Nat) (P : List PlaceR) (t : Nat) : Prop := ∃ D, BoolRow w gb 4 D ∧ D.length = P.length ∧ ∀ q, q < P.length → bx D q = nmd P t q

set_option maxRecDepth 100000 in
set_option maxHeartbeats 32000000 in
theorem companions_law (w : World) (h : HallR) (hg : HallGot w h) :
    Calls Try.prog 4 #[.agg #[.string (bs h.name), .int .i64 h.stage.x, .int .i64 h.stage.y, .slice h.la h.ln h.lc]] w fun e w' => e = .returned (.bool true) ∧ Below w.heap.size w w' := by
  have HG := Lib.hid hg
  clear hg
  refine enter_fr (N := 156) [.agg #[.string (bs h.name), .int .i64 h.stage.x, .int .i64 h.stage.y, .slice h.la h.ln h.lc]] (Try.func4) rfl Try.ntmps4 (by rfl) (fun a hF => ?_);replace hF := hF.k1 0 rfl;refine wp_seq_k (fun K hK => ?_);refine region_seq (l := [0, 1]) (by kernel_rfl) ?_;refine seq_one ?_;refine zE1 0 rfl rfl rfl hF rfl rfl (by intros;go_simp<;>first|with_reducible rfl|(constructor<;>with_reducible rfl)) ?_;clear hF;refine fun a hF => ?_;refine seq_chain [(1, true)] [] rfl hF (fun C hC => ?_);clear hF;refine zA rfl rfl rfl rfl rfl rfl ?_;refine hC _ (fun a hF => ?_);clear hC C;refine seq_end ?_;replace hF := hF.k1 1 rfl;refine hK _ _ ?_;clear hK;(try clear K)
  have HX : Hid (HallIn (w.alloc (.cells #[.string (bs h.name), .int .i64 h.stage.x, .int .i64 h.stage.y, .slice h.la h.ln h.lc] 26)) w.heap.size h) := World.alloc_heap_new w _
  have HB1 : Hid (Below w.heap.size w (w.alloc (.cells #[.string (bs h.name), .int .i64 h.stage.x, .int .i64 h.stage.y, .slice h.la h.ln h.lc] 26))) := Joins.below_alloc1 w _
  generalize w.alloc (.cells #[.string (bs h.name), .int .i64 h.stage.x, .int .i64 h.stage.y, .slice h.la h.ln h.lc] 26) = w1 at *
  obtain ⟨gh, hgh⟩ : ∃ g, g = w.heap.size := ⟨_, rfl⟩
  rw [← hgh] at hF HX
  clear hgh
  refine wp_seq_k (fun K hK => ?_);refine region_seq (l := [0, 1]) (by kernel_rfl) ?_;refine seq_one ?_;refine op_call [] rfl rfl hF rfl (by kernel_rfl) trivial (fun K hK => ?_);clear hF
  refine (head_any w1).mono ?_
  rintro e w2 ⟨rfl, hb2⟩
  have HB2 : Hid (Below w.heap.size w w2) := HB1.out.trans (hb2.mono HB1.out.size)
  have HX2 := Lib.hid (HX.out.down hb2)
  clear HX HB1 hb2
  refine hK _ _ (fun a hF => ?_);clear hK K;refine seq_chain [(1, true)] [] rfl hF (fun C hC => ?_);clear hF;refine zA rfl rfl rfl rfl rfl rfl ?_;refine hC _ (fun a hF => ?_);clear hC C;refine seq_end ?_;replace hF := hF.k2 1 3 rfl rfl;refine hK _ _ ?_;clear hK;(try clear K)
  obtain ⟨c0, c1, c2, c3⟩ := HX2.out.cells
  refine wp_seq_k (fun K hK => ?_);refine wp_seq_k (fun K hK => ?_);refine region_seq (l := [0, 1, 2]) (by kernel_rfl) ?_;refine seq_chain [(0, true)] [1, 2] rfl hF (fun C hC => ?_);clear hF;refine zS1 1 rfl rfl rfl rfl rfl (by intros;go_simp<;>with_reducible rfl) ?_;refine hC _ (fun a hF => ?_);clear hC C;refine seq_one ?_;refine op_call [_] rfl rfl hF rfl (by kernel_rfl) ⟨rfl, trivial⟩ (fun K hK => ?_);clear hF
  refine (few_any w2 h (HG.out.hin.below HB2.out) HG.out.reach).mono ?_
  rintro e w3 ⟨b, rfl, hfew, hb3⟩
  have HB3 : Hid (Below w.heap.size w w3) := HB2.out.trans (hb3.mono HB2.out.size)
  have HX3 := Lib.hid (HX2.out.down hb3)
  have HFW := Lib.hid hfew
  clear c0 c1 c2 c3 HX2 HB2 hb3 hfew
  cases b
  · refine hK _ _ (fun a hF => ?_);clear hK K;refine seq_chain [(2, true)] [] rfl hF (fun C hC => ?_);clear hF;refine zS1 13 rfl rfl rfl rfl rfl (by intros;go_simp<;>with_reducible rfl) ?_;refine hC _ (fun a hF => ?_);clear hC C;refine seq_end ?_;replace hF := hF.k3 1 3 14 rfl rfl rfl;refine hK _ _ ?_;clear hK;(try clear K)
    refine cond_yes hF rfl ?_
    refine wp_seq_k (fun K hK => ?_);refine region_seq (l := [0, 1]) (by kernel_rfl) ?_;refine seq_chain [(0, true), (1, true)] [] rfl hF (fun C hC => ?_);clear hF;refine zM rfl rfl rfl rfl rfl rfl ?_;refine zA rfl rfl rfl rfl rfl rfl ?_;refine hC _ (fun a hF => ?_);clear hC C;refine seq_end ?_;replace hF := hF.k1 2 rfl;refine hK _ _ ?_;clear hK;(try clear K);refine wp_ret ?_;(try simp only [then_ret, block_ret, goto_ret]);refine ret_fr (fn := Try.f4) (rs := [.tmp 2]) rfl [_] hF ⟨rfl, trivial⟩ ?_
    exact ⟨rfl, HB3.out⟩
  refine hK _ _ (fun a hF => ?_);clear hK K;refine seq_chain [(2, true)] [] rfl hF (fun C hC => ?_);clear hF;refine zS1 13 rfl rfl rfl rfl rfl (by intros;go_simp<;>with_reducible rfl) ?_;refine hC _ (fun a hF => ?_);clear hC C;refine seq_end ?_;replace hF := hF.k3 1 3 14 rfl rfl rfl;refine hK _ _ ?_;clear hK;(try clear K)
  refine cond_no hF rfl ?_
  refine wp_skip ?_
  refine hK _ _ ?_;clear hK;(try clear K)
  have HSM := Lib.hid (HFW.out rfl).sm
  obtain ⟨c0, c1, c2, c3⟩ := HX3.out.cells
  refine wp_seq_k (fun K hK => ?_);refine region_seq (l := [0, 1, 2, 3, 4, 5, 6]) (by kernel_rfl) ?_;refine seq_chain [(0, true)] [1, 2, 3, 4, 5, 6] rfl hF (fun C hC => ?_);clear hF;refine zS1 1 rfl rfl rfl rfl rfl (by intros;go_simp<;>with_reducible rfl) ?_;refine hC _ (fun a hF => ?_);clear hC C;refine seq_one ?_;refine op_call [_] rfl rfl hF rfl (by kernel_rfl) ⟨rfl, trivial⟩ (fun K hK => ?_);clear hF
  refine (build_any w3 h (HG.out.hin.below HB3.out) HSM.out HG.out.ac).mono ?_
  rintro e w4 ⟨⟨la, n, c, fa, m, d, rfl, hp, _⟩, hb4⟩
  have HB4 : Hid (Below w.heap.size w w4) := HB3.out.trans (hb4.mono HB3.out.size)
  have HP := Lib.hid hp
  have HC := Lib.hid (comp_build h)
  have hn4 : (buildS h).1.length ≤ 4000 := build_len
  clear c0 c1 c2 c3 HX3 HB3 hb4 hp HFW HSM HG
  generalize (buildS h).1 = P at *
  obtain rfl : P.length = n := HP.out.1
  refine hK _ _ (fun a hF => ?_);clear hK K;refine seq_chain [(2, true), (3, true), (4, true), (5, true), (6, true)] [] rfl hF (fun C hC => ?_);clear hF;refine zM rfl rfl rfl rfl rfl rfl ?_;refine zS1 16 rfl rfl rfl rfl rfl (by intros;go_simp<;>with_reducible rfl) ?_;refine zS1 16 rfl rfl rfl rfl rfl (by intros;go_simp<;>with_reducible rfl) ?_;refine zA rfl rfl rfl rfl rfl rfl ?_;refine zA rfl rfl rfl rfl rfl rfl ?_;refine hC _ (fun a hF => ?_);clear hC C;refine seq_end ?_;replace hF := hF.k2 3 4 rfl rfl;refine hK _ _ ?_;clear hK;(try clear K)
  obtain ⟨arr, hasz, haz, hmk⟩ := make_bools P.length hn4
  refine wp_seq_k (fun K hK => ?_);refine region_seq (l := [0, 1, 2, 3]) (by kernel_rfl) ?_;refine seq_chain [(0, true), (1, true)] [2, 3] rfl hF (fun C hC => ?_);clear hF;refine zM rfl rfl rfl rfl rfl rfl ?_;refine zS1 21 rfl rfl rfl rfl rfl (by intros;go_simp<;>with_reducible rfl) ?_;refine hC _ (fun a hF => ?_);clear hC C;refine seq_one ?_;refine zE1 22 rfl rfl rfl hF rfl rfl (by intros;go_simp<;>first|with_reducible rfl|(constructor<;>with_reducible rfl)) ?_;clear hF;refine fun a hF => ?_
  have HD : Hid (NmdAt (w4.alloc (.cells arr 4)) w4.heap.size P 0) := ⟨List.replicate P.length false, BoolRow.made rfl hasz haz, by simp, fun q hq => by rw [bx_none]; rfl⟩
  have HBa : Hid (Below w4.heap.size w4 (w4.alloc (.cells arr 4))) := Joins.below_alloc1 w4 _
  clear hmk hasz haz
  generalize w4.alloc (.cells arr 4) = w5 at *
  obtain ⟨gb, hgb⟩ : ∃ gb, gb = w4.heap.size := ⟨_, rfl⟩
  have HGB : Hid (w4.heap.size ≤ gb) := Nat.le_of_eq hgb.symm
  rw [← hgb] at hF HD
  clear hgb
  refine seq_chain [(3, true)] [] rfl hF (fun C hC => ?_);clear hF;refine zA rfl rfl rfl rfl rfl rfl ?_;refine hC _ (fun a hF => ?_);clear hC C;refine seq_end ?_;replace hF := hF.k3 3 4 6 rfl rfl rfl;refine hK _ _ ?_;clear hK;(try clear K)
  -- the first loop
  refine seq_cut (fun a' w' => FrF 156 [] [(3, .bool true), (4, .slice la P.length c), (6, .slice (some ⟨gb, 0, none⟩) P.length P.length)] a' ∧ Hid (Below w4.heap.size w4 w') ∧ Hid (NmdAt w' gb P P.length)) (fun KA hKA => ?_) ?_
  · refine wp_seq_k (fun K hK => ?_);refine region_seq (l := [0]) (by kernel_rfl) ?_;refine seq_chain [(0, true)] [] rfl hF (fun C hC => ?_);clear hF;refine zA rfl rfl rfl rfl rfl rfl ?_;refine hC _ (fun a hF => ?_);clear hC C;refine seq_end ?_;replace hF := hF.k4 3 4 6 7 rfl rfl rfl rfl;refine hK _ _ ?_;clear hK;(try clear K)
    refine wp_block ?_
    refine loop_fr (fun q a' w' => ∃ i : Nat, i + q = P.length ∧ FrF 156 [] [(3, .bool true), (4, .slice la P.length c), (6, .slice (some ⟨gb, 0, none⟩) P.length P.length), (7, .int .i64 i)] a' ∧ Hid (Below w4.heap.size w4 w') ∧ Hid (NmdAt w' gb P i)) P.length ⟨0, by omega, hF, HBa, HD⟩ ?_
    clear hF HBa HD
    rintro rk a w6 ⟨i, hik, hF, HB, HD⟩ KB hKB
    refine wp_seq_k (fun K hK => ?_);refine wp_seq_k (fun K hK => ?_)
    by_cases hlt : i < P.length
    rotate_left
    · have hlti : ¬ (i : Int) < (P.length : Nat) := by omega
      refine region_seq (l := [0, 1, 2, 3]) (by kernel_rfl) ?_;refine seq_chain [(0, true), (1, true), (2, true), (3, true)] [] rfl hF (fun C hC => ?_);clear hF;refine zM rfl rfl rfl rfl rfl rfl ?_;refine zM rfl rfl rfl rfl rfl rfl ?_;refine zS1 25 rfl rfl rfl rfl rfl (by intros;go_simp<;>with_reducible rfl) ?_;refine zS2 24 26 rfl rfl rfl rfl rfl rfl (by intros;go_simp<;>with_reducible rfl) ?_;refine hC _ (fun a hF => ?_);clear hC C;refine seq_end ?_;replace hF := hF.k5 3 4 6 7 27 rfl rfl rfl rfl rfl;refine hK _ _ ?_;clear hK;(try clear K)
      refine cond_no hF rfl ?_
      refine wp_exit ?_
      have hie : i = P.length := by omega
      rw [hie] at HD
      exact hKA _ _ ⟨hF.sub ⟨rfl, rfl, rfl, trivial⟩, HB, HD⟩
    have hlti : (i : Int) < (P.length : Nat) := by omega
    refine region_seq (l := [0, 1, 2, 3]) (by kernel_rfl) ?_;refine seq_chain [(0, true), (1, true), (2, true), (3, true)] [] rfl hF (fun C hC => ?_);clear hF;refine zM rfl rfl rfl rfl rfl rfl ?_;refine zM rfl rfl rfl rfl rfl rfl ?_;refine zS1 25 rfl rfl rfl rfl rfl (by intros;go_simp<;>with_reducible rfl) ?_;refine zS2 24 26 rfl rfl rfl rfl rfl rfl (by intros;go_simp<;>with_reducible rfl) ?_;refine hC _ (fun a hF => ?_);clear hC C;refine seq_end ?_;replace hF := hF.k5 3 4 6 7 27 rfl rfl rfl rfl rfl;refine hK _ _ ?_;clear hK;(try clear K)
    refine cond_yes hF rfl ?_
    refine wp_skip ?_
    refine hK _ _ ?_;clear hK;(try clear K);replace hF := hF.k4 3 4 6 7 rfl rfl rfl rfl
    clear hKA
    have HNX := Lib.hid (nmd_next hlt)
    refine seq_cut (fun a' w' => FrF 156 [] [(3, .bool true), (4, .slice la P.length c), (6, .slice (some ⟨gb, 0, none⟩) P.length P.length), (7, .int .i64 i)] a' ∧ Hid (Below w4.heap.size w4 w') ∧ Hid (NmdAt w' gb P (i + 1))) (fun KC hKC => ?_) ?_
    rotate_left
    · clear hF HB HD
      rintro a w' ⟨hF, HB, HD⟩
      have hws : IntKind.i64.wrap ((i : Int) + 1) = ((i + 1 : Nat) : Int) := wrap_succ (by omega)
      refine region_seq (l := [0, 1, 2]) (by kernel_rfl) ?_;refine seq_chain [(0, true), (1, true), (2, true)] [] rfl hF (fun C hC => ?_);clear hF;refine zM rfl rfl rfl rfl rfl rfl ?_;refine zS1 28 rfl rfl rfl rfl rfl (by intros;go_simp<;>with_reducible rfl) ?_;refine zA rfl rfl rfl rfl rfl rfl ?_;refine hC _ (fun a hF => ?_);clear hC C;refine seq_end ?_;replace hF := hF.k4 3 4 6 7 rfl rfl rfl rfl
      exact hKB (P.length - (i + 1)) _ _ (by omega) ⟨i + 1, by omega, hF, HB, HD⟩
    clear hKB hik
    obtain ⟨bb, oo, hla, d0, d1, d2, d3, d4, d5, d6, d7, d8⟩ := place_at (HP.out.below HB.out) i hlt hlt
    subst hla
    refine wp_block ?_
    refine wp_seq_k (fun K hK => ?_);refine wp_seq_k (fun K hK => ?_)
    by_cases hk : P[i].kind = 2
    rotate_left
    · have hkb : (P[i].kind != 2) = true := by simp [hk]
      refine region_seq (l := [0, 1, 2, 3, 4, 5]) (by kernel_rfl) ?_;refine seq_chain [(0, true), (1, true), (2, true), (3, true), (4, true), (5, true)] [] rfl hF (fun C hC => ?_);clear hF;refine zM rfl rfl rfl rfl rfl rfl ?_;refine zM rfl rfl rfl rfl rfl rfl ?_;refine zS2 30 31 rfl rfl rfl rfl rfl rfl (by intros;go_simp<;>with_reducible rfl) ?_;refine zS1 32 rfl rfl rfl rfl rfl (by intros;go_simp<;>with_reducible rfl) ?_;refine zS1 33 rfl rfl rfl rfl rfl (by intros;go_simp<;>with_reducible rfl) ?_;refine zS1 34 rfl rfl rfl rfl rfl (by intros;go_simp<;>with_reducible rfl) ?_;refine hC _ (fun a hF => ?_);clear hC C;refine seq_end ?_;replace hF := hF.k5 3 4 6 7 35 rfl rfl rfl rfl rfl;refine hK _ _ ?_;clear hK;(try clear K)
      refine cond_yes hF rfl ?_
      refine wp_exit ?_
      obtain ⟨D, q1, q2, q3⟩ := HD.out
      refine hKC _ _ ⟨hF.sub ⟨rfl, rfl, rfl, rfl, trivial⟩, HB, D, q1, q2, fun q hq => ?_⟩
      rw [q3 q hq, HNX.out]
      simp [hk]
    have hkb : (P[i].kind != 2) = false := by simp [hk]
    obtain ⟨j, hj, hjw, hjk, hjl, hjb, hjr⟩ := HC.out.bes i hlt hk
    have hjw2 : P[i].wth = (j : Int) := by rw [hjw]; omega
    refine region_seq (l := [0, 1, 2, 3, 4, 5]) (by kernel_rfl) ?_;refine seq_chain [(0, true), (1, true), (2, true), (3, true), (4, true), (5, true)] [] rfl hF (fun C hC => ?_);clear hF;refine zM rfl rfl rfl rfl rfl rfl ?_;refine zM rfl rfl rfl rfl rfl rfl ?_;refine zS2 30 31 rfl rfl rfl rfl rfl rfl (by intros;go_simp<;>with_reducible rfl) ?_;refine zS1 32 rfl rfl rfl rfl rfl (by intros;go_simp<;>with_reducible rfl) ?_;refine zS1 33 rfl rfl rfl rfl rfl (by intros;go_simp<;>with_reducible rfl) ?_;refine zS1 34 rfl rfl rfl rfl rfl (by intros;go_simp<;>with_reducible rfl) ?_;refine hC _ (fun a hF => ?_);clear hC C;refine seq_end ?_;replace hF := hF.k5 3 4 6 7 35 rfl rfl rfl rfl rfl;refine hK _ _ ?_;clear hK;(try clear K)
    refine cond_no hF rfl ?_
    refine wp_skip ?_
    refine hK _ _ ?_;clear hK;(try clear K)
    clear hkb
    rw [hjw2] at d8
    refine wp_seq_k (fun K hK => ?_);refine region_seq (l := [0, 1, 2, 3, 4, 5]) (by kernel_rfl) ?_;refine seq_chain [(0, true), (1, true), (2, true), (3, true), (4, true), (5, true)] [] rfl hF (fun C hC => ?_);clear hF;refine zM rfl rfl rfl rfl rfl rfl ?_;refine zM rfl rfl rfl rfl rfl rfl ?_;refine zS2 36 37 rfl rfl rfl rfl rfl rfl (by intros;go_simp<;>with_reducible rfl) ?_;refine zS1 38 rfl rfl rfl rfl rfl (by intros;go_simp<;>with_reducible rfl) ?_;refine zS1 39 rfl rfl rfl rfl rfl (by intros;go_simp<;>with_reducible rfl) ?_;refine zA rfl rfl rfl rfl rfl rfl ?_;refine hC _ (fun a hF => ?_);clear hC C;refine seq_end ?_;replace hF := hF.k5 3 4 6 7 8 rfl rfl rfl rfl rfl;refine hK _ _ ?_;clear hK;(try clear K)
    obtain ⟨b2, o2, hla, k0, k1, k2, k3, k4, k5, k6, k7, k8⟩ := place_at (HP.out.below HB.out) j hj hj
    obtain ⟨rfl, rfl⟩ : bb = b2 ∧ oo = o2 := by simpa using hla
    clear hla
    rw [hjk] at k0
    rw [hjl] at k1
    rw [hjb] at k2
    rw [hjr] at k3
    have HND : Hid (∀ q, nmd P (i + 1) q = (nmd P i q || decide (j = q))) := fun q => by
      rw [HNX.out, hjw2]
      have : decide (P[i].kind = 2) = true := decide_eq_true hk
      rw [this, Bool.true_and]
      congr 1
      by_cases e : j = q
      · rw [e]; simp
      · have : ¬ (j : Int) = (q : Int) := by omega
        simp [e, this]
    clear hjw hjw2 hjk hjl hjb hjr HNX d0 d4 d5 d6 d7 d8 k4 k5 k6 k7 k8 hk
    generalize P[i].level = lv at *
    generalize P[i].block = bl at *
    generalize P[i].row = rw' at *
    have e1 : w6.drew.cell? ⟨bb, oo + i * 9 + 1, none⟩ = some (.int .i64 lv) := d1
    have e2 : w6.drew.cell? ⟨bb, oo + i * 9 + 2, none⟩ = some (.int .i64 bl) := d2
    have e3 : w6.drew.cell? ⟨bb, oo + i * 9 + 3, none⟩ = some (.int .i64 rw') := d3
    have f0 : w6.drew.cell? ⟨bb, oo + j * 9, none⟩ = some (.int .i64 1) := k0
    have f1 : w6.drew.cell? ⟨bb, oo + j * 9 + 1, none⟩ = some (.int .i64 lv) := k1
    have f2 : w6.drew.cell? ⟨bb, oo + j * 9 + 2, none⟩ = some (.int .i64 bl) := k2
    have f3 : w6.drew.cell? ⟨bb, oo + j * 9 + 3, none⟩ = some (.int .i64 rw') := k3
    clear d1 d2 d3 k0 k1 k2 k3
    have hj0 : ¬ (j : Int) < 0 := by omega
    have hjn : ¬ ((P.length : Nat) : Int) ≤ (j : Int) := by omega
    have hji : (j : Int) < (P.length : Nat) := by omega
    refine wp_seq_k (fun K hK => ?_);refine wp_seq_k (fun K hK => ?_);refine region_any (by kernel_rfl) ?_;refine any_chain (fuel := 0) [(0, false), (1, false), (2, false), (3, false), (4, false), (5, false), (6, false), (7, false), (8, false), (9, false), (10, false), (11, false), (12, false), (13, true), (14, false), (15, false), (16, false), (17, false), (18, false), (19, false), (20, false), (21, true), (22, false), (23, false), (24, false), (25, false), (26, true), (27, false), (28, false), (29, false), (30, false), (31, false), (32, false), (33, false), (34, true), (35, false), (36, false), (37, false), (38, false), (39, true), (40, false), (41, false), (42, false), (43, false), (44, false), (45, false), (46, false), (47, true), (48, false), (49, false), (50, false), (51, false), (52, true), (53, false), (54, false)] [] rfl (by kernel_rfl) (by kernel_rfl) hF (fun _ _ d _ _ h => by cases d <;> exact h) (fun C hC => ?_);clear hF;refine zM rfl rfl rfl rfl rfl rfl ?_;refine zY1 41 rfl rfl rfl rfl rfl (by intros;go_simp<;>with_reducible rfl) ?_;refine zM rfl rfl rfl rfl rfl rfl ?_;refine zM rfl rfl rfl rfl rfl rfl ?_;refine zM rfl rfl rfl rfl rfl rfl ?_;refine zY1 45 rfl rfl rfl rfl rfl (by intros;go_simp<;>with_reducible rfl) ?_;refine zY2 44 46 rfl rfl rfl rfl rfl rfl (by intros;go_simp<;>with_reducible rfl) ?_;refine zY2 43 47 rfl rfl rfl rfl rfl rfl (by intros;go_simp<;>with_reducible rfl) ?_;refine zM rfl rfl rfl rfl rfl rfl ?_;refine zM rfl rfl rfl rfl rfl rfl ?_;refine zM rfl rfl rfl rfl rfl rfl ?_;refine zY2 50 51 rfl rfl rfl rfl rfl rfl (by intros;go_simp<;>with_reducible rfl) ?_;refine zY1 52 rfl rfl rfl rfl rfl (by intros;go_simp<;>with_reducible rfl) ?_;refine zS1 53 rfl rfl rfl rfl rfl (by intros;go_simp<;>with_reducible rfl) ?_;refine zY1 54 rfl rfl rfl rfl rfl (by intros;go_simp<;>with_reducible rfl) ?_;refine zY2 49 55 rfl rfl rfl rfl rfl rfl (by intros;go_simp<;>with_reducible rfl) ?_;refine zM rfl rfl rfl rfl rfl rfl ?_;refine zM rfl rfl rfl rfl rfl rfl ?_;refine zM rfl rfl rfl rfl rfl rfl ?_;refine zY2 58 59 rfl rfl rfl rfl rfl rfl (by intros;go_simp<;>with_reducible rfl) ?_;refine zY1 60 rfl rfl rfl rfl rfl (by intros;go_simp<;>with_reducible rfl) ?_;refine zS1 61 rfl rfl rfl rfl rfl (by intros;go_simp<;>with_reducible rfl) ?_;refine zM rfl rfl rfl rfl rfl rfl ?_;refine zM rfl rfl rfl rfl rfl rfl ?_;refine zY2 63 64 rfl rfl rfl rfl rfl rfl (by intros;go_simp<;>with_reducible rfl) ?_;refine zY1 65 rfl rfl rfl rfl rfl (by intros;go_simp<;>with_reducible rfl) ?_;refine zS1 66 rfl rfl rfl rfl rfl (by intros;go_simp<;>with_reducible rfl) ?_;refine zY2 62 67 rfl rfl rfl rfl rfl rfl (by intros;go_simp<;>with_reducible rfl) ?_;refine zY2 57 68 rfl rfl rfl rfl rfl rfl (by intros;go_simp<;>with_reducible rfl) ?_;refine zM rfl rfl rfl rfl rfl rfl ?_;refine zM rfl rfl rfl rfl rfl rfl ?_;refine zM rfl rfl rfl rfl rfl rfl ?_;refine zY2 71 72 rfl rfl rfl rfl rfl rfl (by intros;go_simp<;>with_reducible rfl) ?_;refine zY1 73 rfl rfl rfl rfl rfl (by intros;go_simp<;>with_reducible rfl) ?_;refine zS1 74 rfl rfl rfl rfl rfl (by intros;go_simp<;>with_reducible rfl) ?_;refine zM rfl rfl rfl rfl rfl rfl ?_;refine zM rfl rfl rfl rfl rfl rfl ?_;refine zY2 76 77 rfl rfl rfl rfl rfl rfl (by intros;go_simp<;>with_reducible rfl) ?_;refine zY1 78 rfl rfl rfl rfl rfl (by intros;go_simp<;>with_reducible rfl) ?_;refine zS1 79 rfl rfl rfl rfl rfl (by intros;go_simp<;>with_reducible rfl) ?_;refine zY2 75 80 rfl rfl rfl rfl rfl rfl (by intros;go_simp<;>with_reducible rfl) ?_;refine zY2 70 81 rfl rfl rfl rfl rfl rfl (by intros;go_simp<;>with_reducible rfl) ?_;refine zM rfl rfl rfl rfl rfl rfl ?_;refine zM rfl rfl rfl rfl rfl rfl ?_;refine zM rfl rfl rfl rfl rfl rfl ?_;refine zY2 84 85 rfl rfl rfl rfl rfl rfl (by intros;go_simp<;>with_reducible rfl) ?_;refine zY1 86 rfl rfl rfl rfl rfl (by intros;go_simp<;>with_reducible rfl) ?_;refine zS1 87 rfl rfl rfl rfl rfl (by intros;go_simp<;>with_reducible rfl) ?_;refine zM rfl rfl rfl rfl rfl rfl ?_;refine zM rfl rfl rfl rfl rfl rfl ?_;refine zY2 89 90 rfl rfl rfl rfl rfl rfl (by intros;go_simp<;>with_reducible rfl) ?_;refine zY1 91 rfl rfl rfl rfl rfl (by intros;go_simp<;>with_reducible rfl) ?_;refine zS1 92 rfl rfl rfl rfl rfl (by intros;go_simp<;>with_reducible rfl) ?_;refine zY2 88 93 rfl rfl rfl rfl rfl rfl (by intros;go_simp<;>with_reducible rfl) ?_;refine zY2 83 94 rfl rfl rfl rfl rfl rfl (by intros;go_simp<;>with_reducible rfl) ?_;refine hC _ (fun a hF => ?_);clear hC C;refine any_end (by kernel_rfl) ?_;replace hF := hF.k6 3 4 6 7 8 95 rfl rfl rfl rfl rfl rfl;refine hK _ _ ?_;clear hK;(try clear K)
    refine cond_no hF rfl ?_
    refine wp_skip ?_
    refine hK _ _ ?_;clear hK;(try clear K)
    clear e1 e2 e3 f0 f1 f2 f3 hj0 hjn
    obtain ⟨D, q1, q2, q3⟩ := HD.out
    have hb7 : Below w4.heap.size w4 w6.drew := below_d HB.out
    have q1' : BoolRow w6.drew gb 4 D := q1
    generalize w6.drew = w7 at *
    have cj := q1'.cell j (by omega)
    have fj := q1'.free j
    have HFIN := Lib.hid (And.intro (hb7.trans (below_set (o := j) (v := .bool true) HGB.out)) (q1'.set j (by omega) true))
    have HQ := Lib.hid q3
    have HQ2 := Lib.hid q2
    clear hb7 q1 q1' q3 q2 HB HD
    refine region_seq (l := [0, 1, 2, 3]) (by kernel_rfl) ?_;refine seq_chain [(0, true), (1, true), (2, true)] [3] rfl hF (fun C hC => ?_);clear hF;refine zM rfl rfl rfl rfl rfl rfl ?_;refine zM rfl rfl rfl rfl rfl rfl ?_;refine zS2 96 97 rfl rfl rfl rfl rfl rfl (by intros;go_simp<;>with_reducible rfl) ?_;refine hC _ (fun a hF => ?_);clear hC C;refine seq_one ?_;refine zU1 98 rfl rfl hF rfl rfl (by intros;go_simp<;>with_reducible rfl) ?_;clear hF;refine fun a hF => ?_;refine seq_end ?_;replace hF := hF.k4 3 4 6 7 rfl rfl rfl rfl
    refine hKC _ _ ⟨hF, HFIN.out.1, D.set j true, HFIN.out.2, by rw [List.length_set, HQ2.out], fun q hq => ?_⟩
    rw [HND.out, ← HQ.out q hq]
    by_cases e : j = q
    · subst e
      have : j < D.length := by rw [HQ2.out]; exact hq
      simp [bx, List.getD_eq_getElem?_getD, this]
    · simp [bx, List.getD_eq_getElem?_getD, e]
  clear hF HBa HD
  rintro a w6 ⟨hF, HB, HD⟩
  -- the second loop
  refine wp_seq_k (fun KA hKA => ?_);refine wp_seq_k (fun K hK => ?_);refine region_seq (l := [0]) (by kernel_rfl) ?_;refine seq_chain [(0, true)] [] rfl hF (fun C hC => ?_);clear hF;refine zA rfl rfl rfl rfl rfl rfl ?_;refine hC _ (fun a hF => ?_);clear hC C;refine seq_end ?_;replace hF := hF.k4 3 4 6 9 rfl rfl rfl rfl;refine hK _ _ ?_;clear hK;(try clear K)
  refine wp_block ?_
  refine loop_fr (fun q a' w' => ∃ i : Nat, i + q = P.length ∧ FrF 156 [] [(3, .bool true), (4, .slice la P.length c), (6, .slice (some ⟨gb, 0, none⟩) P.length P.length), (9, .int .i64 i)] a' ∧ Hid (Below w4.heap.size w4 w') ∧ Hid (NmdAt w' gb P P.length)) P.length ⟨0, by omega, hF, HB, HD⟩ ?_
  clear hF HB HD
  rintro rk a w7 ⟨i, hik, hF, HB, HD⟩ KB hKB
  refine wp_seq_k (fun K hK => ?_);refine wp_seq_k (fun K hK => ?_)
  by_cases hlt : i < P.length
  rotate_left
  · have hlti : ¬ (i : Int) < (P.length : Nat) := by omega
    refine region_seq (l := [0, 1, 2, 3]) (by kernel_rfl) ?_;refine seq_chain [(0, true), (1, true), (2, true), (3, true)] [] rfl hF (fun C hC => ?_);clear hF;refine zM rfl rfl rfl rfl rfl rfl ?_;refine zM rfl rfl rfl rfl rfl rfl ?_;refine zS1 100 rfl rfl rfl rfl rfl (by intros;go_simp<;>with_reducible rfl) ?_;refine zS2 99 101 rfl rfl rfl rfl rfl rfl (by intros;go_simp<;>with_reducible rfl) ?_;refine hC _ (fun a hF => ?_);clear hC C;refine seq_end ?_;replace hF := hF.k5 3 4 6 9 102 rfl rfl rfl rfl rfl;refine hK _ _ ?_;clear hK;(try clear K)
    refine cond_no hF rfl ?_
    refine wp_exit ?_
    refine hKA _ _ ?_;clear hKA;(try clear KA);refine wp_seq_k (fun K hK => ?_);refine region_seq (l := [0, 1]) (by kernel_rfl) ?_;refine seq_chain [(0, true), (1, true)] [] rfl hF (fun C hC => ?_);clear hF;refine zM rfl rfl rfl rfl rfl rfl ?_;refine zA rfl rfl rfl rfl rfl rfl ?_;refine hC _ (fun a hF => ?_);clear hC C;refine seq_end ?_;replace hF := hF.k1 2 rfl;refine hK _ _ ?_;clear hK;(try clear K);refine wp_ret ?_;(try simp only [then_ret, block_ret, goto_ret]);refine ret_fr (fn := Try.f4) (rs := [.tmp 2]) rfl [_] hF ⟨rfl, trivial⟩ ?_
    exact ⟨rfl, HB4.out.trans (HB.out.mono HB4.out.size)⟩
  have hlti : (i : Int) < (P.length : Nat) := by omega
  refine region_seq (l := [0, 1, 2, 3]) (by kernel_rfl) ?_;refine seq_chain [(0, true), (1, true), (2, true), (3, true)] [] rfl hF (fun C hC => ?_);clear hF;refine zM rfl rfl rfl rfl rfl rfl ?_;refine zM rfl rfl rfl rfl rfl rfl ?_;refine zS1 100 rfl rfl rfl rfl rfl (by intros;go_simp<;>with_reducible rfl) ?_;refine zS2 99 101 rfl rfl rfl rfl rfl rfl (by intros;go_simp<;>with_reducible rfl) ?_;refine hC _ (fun a hF => ?_);clear hC C;refine seq_end ?_;replace hF := hF.k5 3 4 6 9 102 rfl rfl rfl rfl rfl;refine hK _ _ ?_;clear hK;(try clear K)
  refine cond_yes hF rfl ?_
  refine wp_skip ?_
  refine hK _ _ ?_;clear hK;(try clear K);replace hF := hF.k4 3 4 6 9 rfl rfl rfl rfl
  clear hKA
  refine seq_cut (fun a' w' => FrF 156 [] [(3, .bool true), (4, .slice la P.length c), (6, .slice (some ⟨gb, 0, none⟩) P.length P.length), (9, .int .i64 i)] a' ∧ Hid (Below w4.heap.size w4 w') ∧ Hid (NmdAt w' gb P P.length)) (fun KC hKC => ?_) ?_
  rotate_left
  · clear hF HB HD
    rintro a w' ⟨hF, HB, HD⟩
    have hws : IntKind.i64.wrap ((i : Int) + 1) = ((i + 1 : Nat) : Int) := wrap_succ (by omega)
    refine region_seq (l := [0, 1, 2]) (by kernel_rfl) ?_;refine seq_chain [(0, true), (1, true), (2, true)] [] rfl hF (fun C hC => ?_);clear hF;refine zM rfl rfl rfl rfl rfl rfl ?_;refine zS1 103 rfl rfl rfl rfl rfl (by intros;go_simp<;>with_reducible rfl) ?_;refine zA rfl rfl rfl rfl rfl rfl ?_;refine hC _ (fun a hF => ?_);clear hC C;refine seq_end ?_;replace hF := hF.k4 3 4 6 9 rfl rfl rfl rfl
    exact hKB (P.length - (i + 1)) _ _ (by omega) ⟨i + 1, by omega, hF, HB, HD⟩
  clear hKB hik
  obtain ⟨bb, oo, hla, d0, d1, d2, d3, d4, d5, d6, d7, d8⟩ := place_at (HP.out.below HB.out) i hlt hlt
  subst hla
  clear d1 d2 d3 d4 d5 d6 d7
  have HWH := Lib.hid (HC.out.whl i hlt)
  have HOT := Lib.hid (HC.out.oth i hlt)
  obtain ⟨kk, hkk⟩ : ∃ x, P[i].kind = x := ⟨_, rfl⟩
  obtain ⟨ww, hww⟩ : ∃ x, P[i].wth = x := ⟨_, rfl⟩
  rw [hkk] at d0 HWH HOT
  rw [hww] at d8 HWH HOT
  clear hkk hww
  refine wp_block ?_
  refine wp_seq_k (fun K hK => ?_);refine region_seq (l := [0, 1, 2, 3, 4, 5]) (by kernel_rfl) ?_;refine seq_chain [(0, true), (1, true), (2, true), (3, true), (4, true), (5, true)] [] rfl hF (fun C hC => ?_);clear hF;refine zM rfl rfl rfl rfl rfl rfl ?_;refine zM rfl rfl rfl rfl rfl rfl ?_;refine zS2 105 106 rfl rfl rfl rfl rfl rfl (by intros;go_simp<;>with_reducible rfl) ?_;refine zS1 107 rfl rfl rfl rfl rfl (by intros;go_simp<;>with_reducible rfl) ?_;refine zS1 108 rfl rfl rfl rfl rfl (by intros;go_simp<;>with_reducible rfl) ?_;refine zA rfl rfl rfl rfl rfl rfl ?_;refine hC _ (fun a hF => ?_);clear hC C;refine seq_end ?_;replace hF := hF.k5 3 4 6 9 10 rfl rfl rfl rfl rfl;refine hK _ _ ?_;clear hK;(try clear K);refine wp_seq_k (fun K hK => ?_);refine region_seq (l := [0, 1, 2, 3, 4]) (by kernel_rfl) ?_;refine seq_chain [(0, true), (1, true), (2, true), (3, true), (4, true)] [] rfl hF (fun C hC => ?_);clear hF;refine zM rfl rfl rfl rfl rfl rfl ?_;refine zM rfl rfl rfl rfl rfl rfl ?_;refine zS2 110 111 rfl rfl rfl rfl rfl rfl (by intros;go_simp<;>with_reducible rfl) ?_;refine zS1 112 rfl rfl rfl rfl rfl (by intros;go_simp<;>with_reducible rfl) ?_;refine zS1 113 rfl rfl rfl rfl rfl (by intros;go_simp<;>with_reducible rfl) ?_;refine hC _ (fun a hF => ?_);clear hC C;refine seq_end ?_;replace hF := hF.k6 3 4 6 9 10 114 rfl rfl rfl rfl rfl rfl;refine hK _ _ ?_;clear hK;(try clear K)
  clear d0 d8
  refine wp_block ?_
  refine wp_seq_k (fun K hK => ?_)
  by_cases hk2 : kk = 2
  · have hb2 : (kk == 2) = true := by simp [hk2]
    refine region_seq (l := [0, 1]) (by kernel_rfl) ?_;refine seq_chain [(0, true), (1, true)] [] rfl hF (fun C hC => ?_);clear hF;refine zS1 114 rfl rfl rfl rfl rfl (by intros;go_simp<;>with_reducible rfl) ?_;refine zA rfl rfl rfl rfl rfl rfl ?_;refine hC _ (fun a hF => ?_);clear hC C;refine seq_end ?_;replace hF := hF.k7 3 4 6 9 10 114 117 rfl rfl rfl rfl rfl rfl rfl;refine hK _ _ ?_;clear hK;(try clear K)
    refine cond_yes hF rfl ?_
    refine wp_skip ?_
    exact hKC _ _ ⟨hF.sub ⟨rfl, rfl, rfl, rfl, trivial⟩, HB, HD⟩
  have hb2 : (kk == 2) = false := by simp [hk2]
  refine region_seq (l := [0, 1]) (by kernel_rfl) ?_;refine seq_chain [(0, true), (1, true)] [] rfl hF (fun C hC => ?_);clear hF;refine zS1 114 rfl rfl rfl rfl rfl (by intros;go_simp<;>with_reducible rfl) ?_;refine zA rfl rfl rfl rfl rfl rfl ?_;refine hC _ (fun a hF => ?_);clear hC C;refine seq_end ?_;replace hF := hF.k7 3 4 6 9 10 114 117 rfl rfl rfl rfl rfl rfl rfl;refine hK _ _ ?_;clear hK;(try clear K)
  refine cond_no hF rfl ?_
  clear hb2
  refine wp_seq_k (fun K hK => ?_)
  by_cases hk1 : kk = 1
  rotate_left
  · have hb1 : (kk == 1) = false := by simp [hk1]
    have hw1 : ww = -1 := HOT.out hk2 hk1
    refine region_seq (l := [0, 1]) (by kernel_rfl) ?_;refine seq_chain [(0, true), (1, true)] [] rfl hF (fun C hC => ?_);clear hF;refine zS1 114 rfl rfl rfl rfl rfl (by intros;go_simp<;>with_reducible rfl) ?_;refine zA rfl rfl rfl rfl rfl rfl ?_;refine hC _ (fun a hF => ?_);clear hC C;refine seq_end ?_;replace hF := hF.k6 3 4 6 9 10 119 rfl rfl rfl rfl rfl rfl;refine hK _ _ ?_;clear hK;(try clear K)
    refine cond_no hF rfl ?_
    have hb3 : (ww != -1) = false := by simp [hw1]
    clear hb1 hw1
    refine wp_seq_k (fun K hK => ?_);refine region_seq (l := [0, 1]) (by kernel_rfl) ?_;refine seq_chain [(0, true), (1, true)] [] rfl hF (fun C hC => ?_);clear hF;refine zM rfl rfl rfl rfl rfl rfl ?_;refine zS1 115 rfl rfl rfl rfl rfl (by intros;go_simp<;>with_reducible rfl) ?_;refine hC _ (fun a hF => ?_);clear hC C;refine seq_end ?_;replace hF := hF.k5 3 4 6 9 116 rfl rfl rfl rfl rfl;refine hK _ _ ?_;clear hK;(try clear K)
    refine cond_no hF rfl ?_
    refine wp_skip ?_
    exact hKC _ _ ⟨hF.sub ⟨rfl, rfl, rfl, rfl, trivial⟩, HB, HD⟩
  have hb1 : (kk == 1) = true := by simp [hk1]
  refine region_seq (l := [0, 1]) (by kernel_rfl) ?_;refine seq_chain [(0, true), (1, true)] [] rfl hF (fun C hC => ?_);clear hF;refine zS1 114 rfl rfl rfl rfl rfl (by intros;go_simp<;>with_reducible rfl) ?_;refine zA rfl rfl rfl rfl rfl rfl ?_;refine hC _ (fun a hF => ?_);clear hC C;refine seq_end ?_;replace hF := hF.k6 3 4 6 9 10 119 rfl rfl rfl rfl rfl rfl;refine hK _ _ ?_;clear hK;(try clear K)
  refine cond_yes hF rfl ?_
  clear hb1
  obtain ⟨D, q1, q2, q3⟩ := HD.out
  have ci := q1.cell i (by omega)
  rw [q3 i hlt] at ci
  clear q1 q3
  refine wp_seq_k (fun K hK => ?_)
  rcases HWH.out hk1 with ⟨hw1, hno⟩ | ⟨j, hj, hjw, hjk, hjb⟩
  · rw [nmd_no (fun j hj e => by have := hno j hj e; intro e2; exact this (by rw [e2]; omega))] at ci
    subst hw1
    have hn1 : ¬ ((P.length : Nat) : Int) ≤ -1 := by omega
    clear hno hk1 hk2
    refine region_seq (l := [0, 1, 2, 3, 4, 5, 6, 7, 8, 9, 10, 11, 12, 13, 14, 15, 16, 17, 18, 19, 20, 21, 22, 23, 24, 25, 26, 27, 28, 29, 30, 31, 32, 33]) (by kernel_rfl) ?_;refine seq_chain [(0, true), (1, true), (2, true), (3, true), (4, true), (5, true), (6, true), (7, true), (8, true), (9, true), (10, true), (11, true), (12, true), (13, true), (14, true), (15, true), (16, true), (17, true), (18, true), (19, true), (20, true), (21, true), (22, true), (23, true), (24, true), (25, true), (26, true), (27, true), (28, true), (29, true), (30, true), (31, true), (32, true), (33, true)] [] rfl hF (fun C hC => ?_);clear hF;refine zM rfl rfl rfl rfl rfl rfl ?_;refine zM rfl rfl rfl rfl rfl rfl ?_;refine zS2 121 122 rfl rfl rfl rfl rfl rfl (by intros;go_simp<;>with_reducible rfl) ?_;refine zS1 123 rfl rfl rfl rfl rfl (by intros;go_simp<;>with_reducible rfl) ?_;refine zM rfl rfl rfl rfl rfl rfl ?_;refine zS1 125 rfl rfl rfl rfl rfl (by intros;go_simp<;>with_reducible rfl) ?_;refine zS2 124 126 rfl rfl rfl rfl rfl rfl (by intros;go_simp<;>with_reducible rfl) ?_;refine zM rfl rfl rfl rfl rfl rfl ?_;refine zM rfl rfl rfl rfl rfl rfl ?_;refine zM rfl rfl rfl rfl rfl rfl ?_;refine zS1 130 rfl rfl rfl rfl rfl (by intros;go_simp<;>with_reducible rfl) ?_;refine zS2 129 131 rfl rfl rfl rfl rfl rfl (by intros;go_simp<;>with_reducible rfl) ?_;refine zS2 128 132 rfl rfl rfl rfl rfl rfl (by intros;go_simp<;>with_reducible rfl) ?_;refine zM rfl rfl rfl rfl rfl rfl ?_;refine zM rfl rfl rfl rfl rfl rfl ?_;refine zS1 135 rfl rfl rfl rfl rfl (by intros;go_simp<;>with_reducible rfl) ?_;refine zM rfl rfl rfl rfl rfl rfl ?_;refine zX rfl rfl rfl rfl ?_;refine zX rfl rfl rfl rfl ?_;refine zX rfl rfl rfl rfl ?_;refine zX rfl rfl rfl rfl ?_;refine zX rfl rfl rfl rfl ?_;refine zX rfl rfl rfl rfl ?_;refine zX rfl rfl rfl rfl ?_;refine zX rfl rfl rfl rfl ?_;refine zX rfl rfl rfl rfl ?_;refine zX rfl rfl rfl rfl ?_;refine zX rfl rfl rfl rfl ?_;refine zX rfl rfl rfl rfl ?_;refine zX rfl rfl rfl rfl ?_;refine zX rfl rfl rfl rfl ?_;refine zX rfl rfl rfl rfl ?_;refine zS2 137 152 rfl rfl rfl rfl rfl rfl (by intros;go_simp<;>with_reducible rfl) ?_;refine zS2 134 153 rfl rfl rfl rfl rfl rfl (by intros;go_simp<;>with_reducible rfl) ?_;refine hC _ (fun a hF => ?_);clear hC C;refine seq_end ?_;replace hF := hF.k5 3 4 6 9 154 rfl rfl rfl rfl rfl;refine hK _ _ ?_;clear hK;(try clear K)
    refine cond_no hF rfl ?_
    refine wp_skip ?_
    exact hKC _ _ ⟨hF.sub ⟨rfl, rfl, rfl, rfl, trivial⟩, HB, HD⟩
  · have hjb2 : P[j].wth = (i : Int) := by rw [hjb]; omega
    rw [nmd_yes hj hjk hjb2] at ci
    obtain ⟨b2, o2, hla, k0, k1, k2, k3, k4, k5, k6, k7, k8⟩ := place_at (HP.out.below HB.out) j hj hj
    obtain ⟨rfl, rfl⟩ : bb = b2 ∧ oo = o2 := by simpa using hla
    rw [hjk] at k0
    rw [hjb2] at k8
    have hjw2 : ww = (j : Int) := by rw [hjw]; omega
    subst hjw2
    clear hla k1 k2 k3 k4 k5 k6 k7 hjw hjk hjb hjb2 hk1 hk2
    have hn1 : ¬ ((P.length : Nat) : Int) ≤ (j : Int) := by omega
    have hj0 : (0 : Int) ≤ (j : Int) := by omega
    have hji : (j : Int) < (P.length : Nat) := by omega
    refine region_seq (l := [0, 1, 2, 3, 4, 5, 6, 7, 8, 9, 10, 11, 12, 13, 14, 15, 16, 17, 18, 19, 20, 21, 22, 23, 24, 25, 26, 27, 28, 29, 30, 31, 32, 33]) (by kernel_rfl) ?_;refine seq_chain [(0, true), (1, true), (2, true), (3, true), (4, true), (5, true), (6, true), (7, true), (8, true), (9, true), (10, true), (11, true), (12, true), (13, true), (14, true), (15, true), (16, true), (17, true), (18, true), (19, true), (20, true), (21, true), (22, true), (23, true), (24, true), (25, true), (26, true), (27, true), (28, true), (29, true), (30, true), (31, true), (32, true), (33, true)] [] rfl hF (fun C hC => ?_);clear hF;refine zM rfl rfl rfl rfl rfl rfl ?_;refine zM rfl rfl rfl rfl rfl rfl ?_;refine zS2 121 122 rfl rfl rfl rfl rfl rfl (by intros;go_simp<;>with_reducible rfl) ?_;refine zS1 123 rfl rfl rfl rfl rfl (by intros;go_simp<;>with_reducible rfl) ?_;refine zM rfl rfl rfl rfl rfl rfl ?_;refine zS1 125 rfl rfl rfl rfl rfl (by intros;go_simp<;>with_reducible rfl) ?_;refine zS2 124 126 rfl rfl rfl rfl rfl rfl (by intros;go_simp<;>with_reducible rfl) ?_;refine zM rfl rfl rfl rfl rfl rfl ?_;refine zM rfl rfl rfl rfl rfl rfl ?_;refine zM rfl rfl rfl rfl rfl rfl ?_;refine zS1 130 rfl rfl rfl rfl rfl (by intros;go_simp<;>with_reducible rfl) ?_;refine zS2 129 131 rfl rfl rfl rfl rfl rfl (by intros;go_simp<;>with_reducible rfl) ?_;refine zS2 128 132 rfl rfl rfl rfl rfl rfl (by intros;go_simp<;>with_reducible rfl) ?_;refine zM rfl rfl rfl rfl rfl rfl ?_;refine zM rfl rfl rfl rfl rfl rfl ?_;refine zS1 135 rfl rfl rfl rfl rfl (by intros;go_simp<;>with_reducible rfl) ?_;refine zM rfl rfl rfl rfl rfl rfl ?_;refine zM rfl rfl rfl rfl rfl rfl ?_;refine zM rfl rfl rfl rfl rfl rfl ?_;refine zS2 138 139 rfl rfl rfl rfl rfl rfl (by intros;go_simp<;>with_reducible rfl) ?_;refine zS1 140 rfl rfl rfl rfl rfl (by intros;go_simp<;>with_reducible rfl) ?_;refine zS1 141 rfl rfl rfl rfl rfl (by intros;go_simp<;>with_reducible rfl) ?_;refine zS1 142 rfl rfl rfl rfl rfl (by intros;go_simp<;>with_reducible rfl) ?_;refine zM rfl rfl rfl rfl rfl rfl ?_;refine zM rfl rfl rfl rfl rfl rfl ?_;refine zM rfl rfl rfl rfl rfl rfl ?_;refine zS2 145 146 rfl rfl rfl rfl rfl rfl (by intros;go_simp<;>with_reducible rfl) ?_;refine zS1 147 rfl rfl rfl rfl rfl (by intros;go_simp<;>with_reducible rfl) ?_;refine zS1 148 rfl rfl rfl rfl rfl (by intros;go_simp<;>with_reducible rfl) ?_;refine zM rfl rfl rfl rfl rfl rfl ?_;refine zS2 149 150 rfl rfl rfl rfl rfl rfl (by intros;go_simp<;>with_reducible rfl) ?_;refine zS2 144 151 rfl rfl rfl rfl rfl rfl (by intros;go_simp<;>with_reducible rfl) ?_;refine zS2 137 152 rfl rfl rfl rfl rfl rfl (by intros;go_simp<;>with_reducible rfl) ?_;refine zS2 134 153 rfl rfl rfl rfl rfl rfl (by intros;go_simp<;>with_reducible rfl) ?_;refine hC _ (fun a hF => ?_);clear hC C;refine seq_end ?_;replace hF := hF.k5 3 4 6 9 154 rfl rfl rfl rfl rfl;refine hK _ _ ?_;clear hK;(try clear K)
    refine cond_no hF rfl ?_
    refine wp_skip ?_
    exact hKC _ _ ⟨hF.sub ⟨rfl, rfl, rfl, rfl, trivial⟩, HB, HD⟩
end Go.Proofs.Ytmcdhggnpfhlmaa
