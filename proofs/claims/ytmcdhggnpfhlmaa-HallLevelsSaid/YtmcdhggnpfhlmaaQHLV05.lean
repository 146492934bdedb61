/- HallLevels: the walk. -/
import Derived.Test.YtmcdhggnpfhlmaaQHCB35
import Derived.Test.YtmcdhggnpfhlmaaQHCB38
import Derived.Test.YtmcdhggnpfhlmaaQHLV03
import Derived.Test.YtmcdhggnpfhlmaaQHLV04

namespace Go.Proofs.Ytmcdhggnpfhlmaa
open Go.RowKit Go.IntWalk
set_option linter.unusedSimpArgs false
set_option linter.unusedVariables false

theorem PlcIn.setLevel {w : World} {g : Nat} {p : PlaceR} (h : PlcIn w g p) (x : Int) : PlcIn (w.setCell ⟨g, 1, none⟩ (.int .i64 x)) g { p with level := x } := by
  unfold PlcIn at *
  simp [World.setCell, Array.getElem?_modify, h]
theorem PlcIn.setWth {w : World} {g : Nat} {p : PlaceR} (h : PlcIn w g p) (x : Int) : PlcIn (w.setCell ⟨g, 8, none⟩ (.int .i64 x)) g { p with wth := x } := by
  unfold PlcIn at *
  simp [World.setCell, Array.getElem?_modify, h]
theorem wth_bound {P : List PlaceR} (hc : CompAt 0 P) (hl : P.length ≤ 4000) {i : Nat} (hi : i < P.length) : -1 ≤ P[i].wth ∧ P[i].wth ≤ 4000 := by
  by_cases h2 : P[i].kind = 2
  · obtain ⟨j, hj, e, _⟩ := hc.bes i hi h2
    omega
  by_cases h1 : P[i].kind = 1
  · rcases hc.whl i hi h1 with ⟨e, _⟩ | ⟨j, hj, e, _⟩ <;> omega
  · have := hc.oth i hi h2 h1
    omega
theorem recs_at1 {α : Type} {k : Nat} {E : Enc α k} {w : World} {b o n : Nat} {l : List α} (h : Recs E w (some ⟨b, o, none⟩) n l) {i : Nat} (hi : i < l.length) : Recs E w (some ⟨b, o + i * k, none⟩) 1 [l[i]] := by
  have hn := h.1
  refine ⟨rfl, fun j hj => ⟨b, o + i * k, rfl, fun q hq => ?_⟩⟩
  obtain ⟨b', o', e, c⟩ := h.2 i (by omega)
  simp only [Option.some.injEq, Addr.mk.injEq, and_true] at e
  obtain ⟨rfl, rfl⟩ := e
  have := c q hq
  have hj0 : j = 0 := by omega
  subst hj0
  rw [rc_eq _ _ hi] at this
  rw [rc_eq _ _ (by simp), Nat.zero_mul, Nat.add_zero, this]
  rfl
/-- The plan with one level alone. -/
def oneH (h : HallR) (a : Option Addr) (c : Nat) (l : LevR) : HallR := ⟨[], h.stage, a, 1, c, [l]⟩

set_option maxRecDepth 100000 in
set_option maxHeartbeats 64000000 in
theorem levels_law (w : World) (h : HallR) (raw : Nat) (hg : HallGot w h) (hraw : raw < 256) :
    Calls Try.prog 7 #[.agg #[.string (bs h.name), .int .i64 h.stage.x, .int .i64 h.stage.y, .slice h.la h.ln h.lc], .int .u8 raw] w fun e w' => e = .returned (.bool true) ∧ Below w.heap.size w w' := by
  have HG := Lib.hid hg
  clear hg
  refine enter_fr (N := 98) [.agg #[.string (bs h.name), .int .i64 h.stage.x, .int .i64 h.stage.y, .slice h.la h.ln h.lc], .int .u8 raw] (Try.func7) rfl Try.ntmps7 (by rfl) (fun a hF => ?_);replace hF := hF.k2 0 1 rfl rfl;refine wp_seq_k (fun K hK => ?_);refine region_seq (l := [0, 1]) (by kernel_rfl) ?_;refine seq_one ?_;refine zE1 0 rfl rfl rfl hF rfl rfl (by intros;go_simp<;>first|with_reducible rfl|(constructor<;>with_reducible rfl)) ?_;clear hF;refine fun a hF => ?_;refine seq_chain [(1, true)] [] rfl hF (fun C hC => ?_);clear hF;refine zA rfl rfl rfl rfl rfl rfl ?_;refine hC _ (fun a hF => ?_);clear hC C;refine seq_end ?_;replace hF := hF.k2 1 2 rfl rfl;refine hK _ _ ?_;clear hK;(try clear K)
  have HX : Hid (HallIn (w.alloc (.cells #[.string (bs h.name), .int .i64 h.stage.x, .int .i64 h.stage.y, .slice h.la h.ln h.lc] 26)) w.heap.size h) := World.alloc_heap_new w _
  have HB1 : Hid (Below w.heap.size w (w.alloc (.cells #[.string (bs h.name), .int .i64 h.stage.x, .int .i64 h.stage.y, .slice h.la h.ln h.lc] 26))) := Joins.below_alloc1 w _
  generalize w.alloc (.cells #[.string (bs h.name), .int .i64 h.stage.x, .int .i64 h.stage.y, .slice h.la h.ln h.lc] 26) = w1 at *
  obtain ⟨gh, hgh⟩ : ∃ g, g = w.heap.size := ⟨_, rfl⟩
  rw [← hgh] at hF HX
  clear hgh
  refine wp_seq_k (fun K hK => ?_);refine region_seq (l := [0, 1]) (by kernel_rfl) ?_;refine seq_one ?_;refine op_call [] rfl rfl hF rfl (by kernel_rfl) trivial (fun K hK => ?_);clear hF
  refine (head_any w1).mono ?_
  rintro e w2 ⟨rfl, hb2⟩
  have HB2 : Hid (Below w.heap.size w w2) := HB1.out.trans (hb2.mono HB1.out.size)
  have HX2 := Lib.hid (HX.out.down hb2)
  clear HX HB1 hb2
  refine hK _ _ (fun a hF => ?_);clear hK K;refine seq_chain [(1, true)] [] rfl hF (fun C hC => ?_);clear hF;refine zA rfl rfl rfl rfl rfl rfl ?_;refine hC _ (fun a hF => ?_);clear hC C;refine seq_end ?_;replace hF := hF.k3 1 2 5 rfl rfl rfl;refine hK _ _ ?_;clear hK;(try clear K)
  obtain ⟨c0, c1, c2, c3⟩ := HX2.out.cells
  have HINH := Lib.hid (HG.out.hin)
  refine wp_seq_k (fun K hK => ?_);refine wp_seq_k (fun K hK => ?_);refine region_seq (l := [0, 1, 2, 3, 4, 5, 6, 7, 8]) (by kernel_rfl) ?_;refine seq_chain [(0, true)] [1, 2, 3, 4, 5, 6, 7, 8] rfl hF (fun C hC => ?_);clear hF;refine zS1 2 rfl rfl rfl rfl rfl (by intros;go_simp<;>with_reducible rfl) ?_;refine hC _ (fun a hF => ?_);clear hC C;refine seq_one ?_;refine op_call [_] rfl rfl hF rfl (by kernel_rfl) ⟨rfl, trivial⟩ (fun K hK => ?_);clear hF
  refine (few_any w2 h (HG.out.hin.below HB2.out) HG.out.reach).mono ?_
  rintro e w3 ⟨b, rfl, hfew, hb3⟩
  have HB3 : Hid (Below w.heap.size w w3) := HB2.out.trans (hb3.mono HB2.out.size)
  have HX3 := Lib.hid (HX2.out.down hb3)
  have HFW := Lib.hid hfew
  clear c0 c1 c2 c3 HX2 HB2 hb3 hfew
  obtain ⟨c0, c1, c2, c3⟩ := HX3.out.cells
  cases b
  · refine hK _ _ (fun a hF => ?_);clear hK K;refine seq_chain [(2, true), (3, true), (4, true), (5, true), (6, true), (7, true), (8, true)] [] rfl hF (fun C hC => ?_);clear hF;refine zS1 17 rfl rfl rfl rfl rfl (by intros;go_simp<;>with_reducible rfl) ?_;refine zM rfl rfl rfl rfl rfl rfl ?_;refine zX rfl rfl rfl rfl ?_;refine zX rfl rfl rfl rfl ?_;refine zX rfl rfl rfl rfl ?_;refine zX rfl rfl rfl rfl ?_;refine zS2 19 23 rfl rfl rfl rfl rfl rfl (by intros;go_simp<;>with_reducible rfl) ?_;refine hC _ (fun a hF => ?_);clear hC C;refine seq_end ?_;replace hF := hF.k4 1 2 5 24 rfl rfl rfl rfl;refine hK _ _ ?_;clear hK;(try clear K)
    refine cond_yes hF rfl ?_
    refine wp_seq_k (fun K hK => ?_);refine region_seq (l := [0, 1]) (by kernel_rfl) ?_;refine seq_chain [(0, true), (1, true)] [] rfl hF (fun C hC => ?_);clear hF;refine zM rfl rfl rfl rfl rfl rfl ?_;refine zA rfl rfl rfl rfl rfl rfl ?_;refine hC _ (fun a hF => ?_);clear hC C;refine seq_end ?_;replace hF := hF.k1 4 rfl;refine hK _ _ ?_;clear hK;(try clear K);refine wp_ret ?_;(try simp only [then_ret, block_ret, goto_ret]);refine ret_fr (fn := Try.f7) (rs := [.tmp 4]) rfl [_] hF ⟨rfl, trivial⟩ ?_
    exact ⟨rfl, HB3.out⟩
  by_cases hz : h.ln = 0
  · have hz1 : (((h.ln : Nat) : Int) == 0) = true := by simp [hz]
    have hz2 : (h.ln == 0) = true := by simp [hz]
    clear hz
    refine hK _ _ (fun a hF => ?_);clear hK K;refine seq_chain [(2, true), (3, true), (4, true), (5, true), (6, true), (7, true), (8, true)] [] rfl hF (fun C hC => ?_);clear hF;refine zS1 17 rfl rfl rfl rfl rfl (by intros;go_simp<;>with_reducible rfl) ?_;refine zM rfl rfl rfl rfl rfl rfl ?_;refine zS1 2 rfl rfl rfl rfl rfl (by intros;go_simp<;>with_reducible rfl) ?_;refine zS1 20 rfl rfl rfl rfl rfl (by intros;go_simp<;>with_reducible rfl) ?_;refine zS1 21 rfl rfl rfl rfl rfl (by intros;go_simp<;>with_reducible rfl) ?_;refine zS1 22 rfl rfl rfl rfl rfl (by intros;go_simp<;>with_reducible rfl) ?_;refine zS2 19 23 rfl rfl rfl rfl rfl rfl (by intros;go_simp<;>with_reducible rfl) ?_;refine hC _ (fun a hF => ?_);clear hC C;refine seq_end ?_;replace hF := hF.k4 1 2 5 24 rfl rfl rfl rfl;refine hK _ _ ?_;clear hK;(try clear K)
    refine cond_yes hF rfl ?_
    refine wp_seq_k (fun K hK => ?_);refine region_seq (l := [0, 1]) (by kernel_rfl) ?_;refine seq_chain [(0, true), (1, true)] [] rfl hF (fun C hC => ?_);clear hF;refine zM rfl rfl rfl rfl rfl rfl ?_;refine zA rfl rfl rfl rfl rfl rfl ?_;refine hC _ (fun a hF => ?_);clear hC C;refine seq_end ?_;replace hF := hF.k1 4 rfl;refine hK _ _ ?_;clear hK;(try clear K);refine wp_ret ?_;(try simp only [then_ret, block_ret, goto_ret]);refine ret_fr (fn := Try.f7) (rs := [.tmp 4]) rfl [_] hF ⟨rfl, trivial⟩ ?_
    exact ⟨rfl, HB3.out⟩
  have hz1 : (((h.ln : Nat) : Int) == 0) = false := by simp [hz]
  have hz2 : (h.ln == 0) = false := by simp [hz]
  refine hK _ _ (fun a hF => ?_);clear hK K;refine seq_chain [(2, true), (3, true), (4, true), (5, true), (6, true), (7, true), (8, true)] [] rfl hF (fun C hC => ?_);clear hF;refine zS1 17 rfl rfl rfl rfl rfl (by intros;go_simp<;>with_reducible rfl) ?_;refine zM rfl rfl rfl rfl rfl rfl ?_;refine zS1 2 rfl rfl rfl rfl rfl (by intros;go_simp<;>with_reducible rfl) ?_;refine zS1 20 rfl rfl rfl rfl rfl (by intros;go_simp<;>with_reducible rfl) ?_;refine zS1 21 rfl rfl rfl rfl rfl (by intros;go_simp<;>with_reducible rfl) ?_;refine zS1 22 rfl rfl rfl rfl rfl (by intros;go_simp<;>with_reducible rfl) ?_;refine zS2 19 23 rfl rfl rfl rfl rfl rfl (by intros;go_simp<;>with_reducible rfl) ?_;refine hC _ (fun a hF => ?_);clear hC C;refine seq_end ?_;replace hF := hF.k4 1 2 5 24 rfl rfl rfl rfl;refine hK _ _ ?_;clear hK;(try clear K)
  refine cond_no hF rfl ?_
  refine wp_skip ?_
  refine hK _ _ ?_;clear hK;(try clear K)
  clear hz1 hz2
  have HSM := Lib.hid (HFW.out rfl).sm
  refine wp_seq_k (fun K hK => ?_);refine region_seq (l := [0, 1, 2, 3, 4, 5, 6]) (by kernel_rfl) ?_;refine seq_chain [(0, true)] [1, 2, 3, 4, 5, 6] rfl hF (fun C hC => ?_);clear hF;refine zS1 2 rfl rfl rfl rfl rfl (by intros;go_simp<;>with_reducible rfl) ?_;refine hC _ (fun a hF => ?_);clear hC C;refine seq_one ?_;refine op_call [_] rfl rfl hF rfl (by kernel_rfl) ⟨rfl, trivial⟩ (fun K hK => ?_);clear hF
  refine (build_any w3 h (HG.out.hin.below HB3.out) HSM.out HG.out.ac).mono ?_
  rintro e w4 ⟨⟨la, n, c, fa, m, d, rfl, hp, hpf⟩, hb4⟩
  have HB4 : Hid (Below w.heap.size w w4) := HB3.out.trans (hb4.mono HB3.out.size)
  have HX4 := Lib.hid (HX3.out.down hb4)
  have HP := Lib.hid hp
  have hn4 : (buildS h).1.length ≤ 4000 := build_len
  clear c0 c1 c2 c3 HX3 HB3 hb4 hp HFW
  obtain rfl : (buildS h).1.length = n := HP.out.1
  have hnf : (buildS h).2.length = m := hpf.1
  clear hpf
  refine hK _ _ (fun a hF => ?_);clear hK K;refine seq_chain [(2, true), (3, true), (4, true), (5, true), (6, true)] [] rfl hF (fun C hC => ?_);clear hF;refine zM rfl rfl rfl rfl rfl rfl ?_;refine zS1 26 rfl rfl rfl rfl rfl (by intros;go_simp<;>with_reducible rfl) ?_;refine zS1 26 rfl rfl rfl rfl rfl (by intros;go_simp<;>with_reducible rfl) ?_;refine zA rfl rfl rfl rfl rfl rfl ?_;refine zA rfl rfl rfl rfl rfl rfl ?_;refine hC _ (fun a hF => ?_);clear hC C;refine seq_end ?_;replace hF := hF.k5 1 2 5 6 7 rfl rfl rfl rfl rfl;refine hK _ _ ?_;clear hK;(try clear K)
  by_cases hf : faultsS h = []
  rotate_left
  · have h2 : 0 < m := by
      rw [← hnf]
      unfold buildS
      rw [if_neg hf]
      exact List.length_pos_iff.2 hf
    have h2i : (0 : Int) < (m : Nat) := by omega
    clear HP hn4 hnf hf
    refine wp_seq_k (fun K hK => ?_);refine wp_seq_k (fun K hK => ?_);refine region_seq (l := [0, 1, 2]) (by kernel_rfl) ?_;refine seq_chain [(0, true), (1, true), (2, true)] [] rfl hF (fun C hC => ?_);clear hF;refine zM rfl rfl rfl rfl rfl rfl ?_;refine zS1 31 rfl rfl rfl rfl rfl (by intros;go_simp<;>with_reducible rfl) ?_;refine zS1 32 rfl rfl rfl rfl rfl (by intros;go_simp<;>with_reducible rfl) ?_;refine hC _ (fun a hF => ?_);clear hC C;refine seq_end ?_;replace hF := hF.k5 1 2 5 6 33 rfl rfl rfl rfl rfl;refine hK _ _ ?_;clear hK;(try clear K)
    refine cond_yes hF rfl ?_
    refine wp_seq_k (fun K hK => ?_);refine region_seq (l := [0, 1]) (by kernel_rfl) ?_;refine seq_chain [(0, true), (1, true)] [] rfl hF (fun C hC => ?_);clear hF;refine zM rfl rfl rfl rfl rfl rfl ?_;refine zA rfl rfl rfl rfl rfl rfl ?_;refine hC _ (fun a hF => ?_);clear hC C;refine seq_end ?_;replace hF := hF.k1 4 rfl;refine hK _ _ ?_;clear hK;(try clear K);refine wp_ret ?_;(try simp only [then_ret, block_ret, goto_ret]);refine ret_fr (fn := Try.f7) (rs := [.tmp 4]) rfl [_] hF ⟨rfl, trivial⟩ ?_
    exact ⟨rfl, HB4.out⟩
  have h2 : m = 0 := by
    rw [← hnf]
    unfold buildS
    rw [if_pos hf]
    rfl
  have h1 : (buildS h).1 = placesS h := by unfold buildS; rw [if_pos hf]
  have HCM := Lib.hid (comp_build h)
  rw [h1] at HCM HP hF hn4
  subst h2
  have HF0 := Lib.hid hf
  clear h1 hnf hf
  refine wp_seq_k (fun K hK => ?_);refine wp_seq_k (fun K hK => ?_);refine region_seq (l := [0, 1, 2]) (by kernel_rfl) ?_;refine seq_chain [(0, true), (1, true), (2, true)] [] rfl hF (fun C hC => ?_);clear hF;refine zM rfl rfl rfl rfl rfl rfl ?_;refine zS1 31 rfl rfl rfl rfl rfl (by intros;go_simp<;>with_reducible rfl) ?_;refine zS1 32 rfl rfl rfl rfl rfl (by intros;go_simp<;>with_reducible rfl) ?_;refine hC _ (fun a hF => ?_);clear hC C;refine seq_end ?_;replace hF := hF.k5 1 2 5 6 33 rfl rfl rfl rfl rfl;refine hK _ _ ?_;clear hK;(try clear K)
  refine cond_no hF rfl ?_
  refine wp_skip ?_
  refine hK _ _ ?_;clear hK;(try clear K)
  obtain ⟨c0, c1, c2, c3⟩ := HX4.out.cells
  have hln := HSM.out.ln
  have hlen : h.levels.length = h.ln := HINH.out.levels.1
  have hk : (raw % h.ln : Nat) < h.ln := Nat.mod_lt _ (by omega)
  have hcv : IntKind.i64.wrap ((raw : Nat) : Int) = (raw : Int) := wrap_in (by omega) (by omega)
  have hke : ((raw : Nat) : Int).tmod ((h.ln : Nat) : Int) = ((raw % h.ln : Nat) : Int) := (Int.ofNat_tmod _ _).symm
  obtain ⟨n, hkk⟩ : ∃ k, k = raw % h.ln := ⟨_, rfl⟩
  rw [← hkk] at hk hke
  clear hkk
  have hlz : ((h.ln : Nat) : Int) ≠ 0 := by omega
  refine wp_seq_k (fun K hK => ?_);refine region_seq (l := [0, 1, 2, 3, 4, 5, 6]) (by kernel_rfl) ?_;refine seq_chain [(0, true), (1, true), (2, true), (3, true), (4, true), (5, true), (6, true)] [] rfl hF (fun C hC => ?_);clear hF;refine zM rfl rfl rfl rfl rfl rfl ?_;refine zS1 35 rfl rfl rfl rfl rfl (by intros;go_simp<;>with_reducible rfl) ?_;refine zS1 2 rfl rfl rfl rfl rfl (by intros;go_simp<;>with_reducible rfl) ?_;refine zS1 37 rfl rfl rfl rfl rfl (by intros;go_simp<;>with_reducible rfl) ?_;refine zS1 38 rfl rfl rfl rfl rfl (by intros;go_simp<;>with_reducible rfl) ?_;refine zS2 36 39 rfl rfl rfl rfl rfl rfl (by intros;go_simp<;>with_reducible rfl) ?_;refine zA rfl rfl rfl rfl rfl rfl ?_;refine hC _ (fun a hF => ?_);clear hC C;refine seq_end ?_;replace hF := hF.k4 2 5 6 8 rfl rfl rfl rfl;refine hK _ _ ?_;clear hK;(try clear K)
  clear hke hlz hcv
  replace hF := hF.k4 2 5 6 8 rfl rfl rfl rfl
  have hnl : n < h.levels.length := by omega
  have hws : IntKind.i64.wrap ((n : Int) + 1) = ((n + 1 : Nat) : Int) := wrap_succ (by omega)
  obtain ⟨bl, ol, hll, l0, l1, l2, l3, l4, l5, l6, l7⟩ := lev_at (HINH.out.below HB4.out).levels n hk hnl
  clear l0 l1 l2 l3 l4 l5 l6 l7
  rw [hll] at c3
  have hlc := HG.out.lc
  have hn1 : n + 1 ≤ h.lc := by omega
  have hn2 : n < h.lc := by omega
  have hn3 : (0 : Int) ≤ (n : Int) + 1 := by omega
  have hn6 : (n : Int) + 1 ≤ (h.lc : Int) := by omega
  have hn4' : ¬ h.lc = n := by omega
  have hn5 : n ≤ n + 1 := by omega
  refine wp_seq_k (fun K hK => ?_);refine region_any (by kernel_rfl) ?_;refine any_chain (fuel := 6) [(0, false), (1, true), (2, false), (3, true), (4, false), (5, false), (6, false), (7, false), (8, false)] [9] rfl (by kernel_rfl) (by kernel_rfl) hF (fun _ _ d _ _ h => by cases d <;> exact h) (fun C hC => ?_);clear hF;refine zY1 2 rfl rfl rfl rfl rfl (by intros;go_simp<;>with_reducible rfl) ?_;refine zS1 42 rfl rfl rfl rfl rfl (by intros;go_simp<;>with_reducible rfl) ?_;refine zY1 2 rfl rfl rfl rfl rfl (by intros;go_simp<;>with_reducible rfl) ?_;refine zS1 44 rfl rfl rfl rfl rfl (by intros;go_simp<;>with_reducible rfl) ?_;refine zM rfl rfl rfl rfl rfl rfl ?_;refine zM rfl rfl rfl rfl rfl rfl ?_;refine zY1 47 rfl rfl rfl rfl rfl (by intros;go_simp<;>with_reducible rfl) ?_;refine zY3 45 46 48 rfl rfl rfl rfl rfl rfl rfl (by intros;go_simp<;>with_reducible rfl) ?_;refine zY2 43 49 rfl rfl rfl rfl rfl rfl (by intros;go_simp<;>with_reducible rfl) ?_;refine hC _ (fun a hF => ?_);clear hC C;refine any_one (n := 9) (fuel := 5) (by kernel_rfl) ?_;refine op_call [_] rfl rfl hF rfl (by kernel_rfl) ⟨rfl, trivial⟩ (fun K hK => ?_);clear hF
  have hIn1 : (oneH h (some ⟨bl, ol + n * 8, none⟩) (h.lc - n) h.levels[n]).In w4.drew := by
    have h1 := (HINH.out.below HB4.out).levels
    rw [hll] at h1
    exact ⟨(recs_at1 h1 hnl).below (below_d (Below.refl w4.heap.size w4)), by show 1 ≤ 9223372036854775807; decide, fun l hl => by
      rw [List.mem_singleton.1 hl]
      exact ((HINH.out.below HB4.out).lev _ (List.getElem_mem hnl)).below (below_d (Below.refl w4.heap.size w4))⟩
  have hSm1 : (oneH h (some ⟨bl, ol + n * 8, none⟩) (h.lc - n) h.levels[n]).Sm := by
    refine ⟨by show 1 ≤ 12; decide, fun l hl => ?_, fun l hl => ?_, fun l hl => ?_⟩ <;> rw [List.mem_singleton.1 hl]
    · exact HSM.out.lev _ (List.getElem_mem hnl)
    · exact HSM.out.rn _ (List.getElem_mem hnl)
    · exact HSM.out.mn _ (List.getElem_mem hnl)
  refine (build_any w4.drew (oneH h (some ⟨bl, ol + n * 8, none⟩) (h.lc - n) h.levels[n]) hIn1 hSm1 (fun l hl => by
    rw [List.mem_singleton.1 hl]
    exact HG.out.ac _ (List.getElem_mem hnl))).mono ?_
  rintro e w6 ⟨⟨la2, n2, k2, fa2, m2, f9, rfl, hp2, hpf2⟩, hb6⟩
  have hf1 : faultsS (oneH h (some ⟨bl, ol + n * 8, none⟩) (h.lc - n) h.levels[n]) = [] := one_level HF0.out hnl rfl rfl
  have HAL : Hid (wantS (placesS h) n (placesS h).length = placesS (oneH h (some ⟨bl, ol + n * 8, none⟩) (h.lc - n) h.levels[n])) := level_alone hnl rfl rfl
  have hq1 : (buildS (oneH h (some ⟨bl, ol + n * 8, none⟩) (h.lc - n) h.levels[n])).1 = placesS (oneH h (some ⟨bl, ol + n * 8, none⟩) (h.lc - n) h.levels[n]) := by unfold buildS; rw [if_pos hf1]
  have hq2 : (buildS (oneH h (some ⟨bl, ol + n * 8, none⟩) (h.lc - n) h.levels[n])).2 = [] := by unfold buildS; rw [if_pos hf1]
  have hq4 : (buildS (oneH h (some ⟨bl, ol + n * 8, none⟩) (h.lc - n) h.levels[n])).1.length ≤ 4000 := build_len
  rw [hq1] at hp2 hq4
  rw [hq2] at hpf2
  generalize placesS (oneH h (some ⟨bl, ol + n * 8, none⟩) (h.lc - n) h.levels[n]) = Q at *
  obtain rfl : Q.length = n2 := hp2.1
  obtain rfl : 0 = m2 := hpf2.1
  have HB46 : Hid (Below w4.heap.size w4 w6) := (below_d (Below.refl w4.heap.size w4)).trans hb6
  have HP6 := Lib.hid (HP.out.below HB46.out)
  have HQ6 := Lib.hid hp2
  have HB6 : Hid (Below w.heap.size w w6) := HB4.out.trans (HB46.out.mono HB4.out.size)
  clear hIn1 hSm1 hf1 hq1 hq2 hp2 hpf2 hb6 hn1 hn2 hn3 hn4' hn5 hn6 hws HB4 HX4 HP HB46 c0 c1 c2 c3 hll hlc hln hlen hk hnl HG HSM HINH HF0
  refine hK _ _ (fun a hF => ?_);clear hK K;refine any_chain (fuel := 0) [(10, false), (11, false), (12, false), (13, false), (14, false)] [] rfl (by kernel_rfl) (by kernel_rfl) hF (fun _ _ d _ _ h => by cases d <;> exact h) (fun C hC => ?_);clear hF;refine zM rfl rfl rfl rfl rfl rfl ?_;refine zY1 41 rfl rfl rfl rfl rfl (by intros;go_simp<;>with_reducible rfl) ?_;refine zY1 41 rfl rfl rfl rfl rfl (by intros;go_simp<;>with_reducible rfl) ?_;refine zA rfl rfl rfl rfl rfl rfl ?_;refine zA rfl rfl rfl rfl rfl rfl ?_;refine hC _ (fun a hF => ?_);clear hC C;refine any_end (by kernel_rfl) ?_;replace hF := hF.k5 5 6 8 9 10 rfl rfl rfl rfl rfl;refine hK _ _ ?_;clear hK;(try clear K)
  generalize placesS h = P at *
  refine wp_seq_k (fun K hK => ?_);refine region_seq (l := [0]) (by kernel_rfl) ?_;refine seq_chain [(0, true)] [] rfl hF (fun C hC => ?_);clear hF;refine zA rfl rfl rfl rfl rfl rfl ?_;refine hC _ (fun a hF => ?_);clear hC C;refine seq_end ?_;replace hF := hF.k6 5 6 8 9 10 11 rfl rfl rfl rfl rfl rfl;refine hK _ _ ?_;clear hK;(try clear K);refine wp_seq_k (fun K hK => ?_);refine region_seq (l := [0]) (by kernel_rfl) ?_;refine seq_chain [(0, true)] [] rfl hF (fun C hC => ?_);clear hF;refine zA rfl rfl rfl rfl rfl rfl ?_;refine hC _ (fun a hF => ?_);clear hC C;refine seq_end ?_;replace hF := hF.k7 5 6 8 9 10 11 12 rfl rfl rfl rfl rfl rfl rfl;refine hK _ _ ?_;clear hK;(try clear K);refine wp_seq_k (fun KA hKA => ?_);refine wp_seq_k (fun K hK => ?_);refine region_seq (l := [0]) (by kernel_rfl) ?_;refine seq_chain [(0, true)] [] rfl hF (fun C hC => ?_);clear hF;refine zA rfl rfl rfl rfl rfl rfl ?_;refine hC _ (fun a hF => ?_);clear hC C;refine seq_end ?_;replace hF := hF.k8 5 6 8 9 10 11 12 13 rfl rfl rfl rfl rfl rfl rfl rfl;refine hK _ _ ?_;clear hK;(try clear K)
  refine wp_block ?_
  refine loop_fr (fun q a' w' => ∃ (i : Nat) (lw : Option Addr) (cw : Nat), i + q = P.length ∧ FrF 98 [] [(5, .bool true), (6, .slice la P.length c), (8, .int .i64 n), (9, .slice la2 Q.length k2), (10, .slice fa2 0 f9), (11, .slice lw (wantS P n i).length cw), (12, .int .i64 (firstI P n i)), (13, .int .i64 i)] a' ∧ Hid (Below w6.heap.size w6 w') ∧ Hid (w'.ownsRow w6.heap.size 35 9 (.slice lw (wantS P n i).length cw) (wantS P n i).length (flat PlaceE (wantS P n i)))) P.length ⟨0, none, 0, by omega, hF, Below.refl _ _, nil_row⟩ ?_
  clear hF
  rintro rk a w7 ⟨i, lw, cw, hik, hF, HB, HW⟩ KB hKB
  refine wp_seq_k (fun K hK => ?_);refine wp_seq_k (fun K hK => ?_)
  by_cases hlt : i < P.length
  rotate_left
  · have hlti : ¬ (i : Int) < (P.length : Nat) := by omega
    refine region_seq (l := [0, 1, 2, 3]) (by kernel_rfl) ?_;refine seq_chain [(0, true), (1, true), (2, true), (3, true)] [] rfl hF (fun C hC => ?_);clear hF;refine zM rfl rfl rfl rfl rfl rfl ?_;refine zM rfl rfl rfl rfl rfl rfl ?_;refine zS1 55 rfl rfl rfl rfl rfl (by intros;go_simp<;>with_reducible rfl) ?_;refine zS2 54 56 rfl rfl rfl rfl rfl rfl (by intros;go_simp<;>with_reducible rfl) ?_;refine hC _ (fun a hF => ?_);clear hC C;refine seq_end ?_;replace hF := hF.k9 5 6 8 9 10 11 12 13 57 rfl rfl rfl rfl rfl rfl rfl rfl rfl;refine hK _ _ ?_;clear hK;(try clear K)
    refine cond_no hF rfl ?_
    refine wp_exit ?_
    refine hKA _ _ ?_;clear hKA;(try clear KA)
    have hie : i = P.length := by omega
    rw [hie, HAL.out] at HW
    rw [hie, HAL.out] at hF
    obtain ⟨la9, lc9, e9, hwr⟩ := OwnRecs.of_row HW.out
    obtain ⟨rfl, _, rfl⟩ : lw = la9 ∧ True ∧ cw = lc9 := by simpa using e9
    have hwr2 := hwr.recs
    clear hwr e9
    refine wp_seq_k (fun K hK => ?_);refine region_seq (l := [0, 1, 2, 3, 4, 5, 6, 7, 8, 9, 10, 11]) (by kernel_rfl) ?_;refine seq_chain [(0, true), (1, true), (2, true), (3, true), (4, true), (5, true), (6, true), (7, true), (8, true)] [9, 10, 11] rfl hF (fun C hC => ?_);clear hF;refine zM rfl rfl rfl rfl rfl rfl ?_;refine zM rfl rfl rfl rfl rfl rfl ?_;refine zM rfl rfl rfl rfl rfl rfl ?_;refine zS1 89 rfl rfl rfl rfl rfl (by intros;go_simp<;>with_reducible rfl) ?_;refine zS1 90 rfl rfl rfl rfl rfl (by intros;go_simp<;>with_reducible rfl) ?_;refine zS2 88 91 rfl rfl rfl rfl rfl rfl (by intros;go_simp<;>with_reducible rfl) ?_;refine zM rfl rfl rfl rfl rfl rfl ?_;refine zM rfl rfl rfl rfl rfl rfl ?_;refine zM rfl rfl rfl rfl rfl rfl ?_;refine hC _ (fun a hF => ?_);clear hC C;refine seq_one ?_;refine op_call [_, _] rfl rfl hF rfl (by kernel_rfl) ⟨rfl, rfl, trivial⟩ (fun K hK => ?_);clear hF
    refine (same_plc w7 la2 lw Q.length k2 Q.length cw Q Q (HQ6.out.below HB.out) hwr2 (by omega) (by omega)).mono ?_
    rintro e w8 ⟨rfl, hb8⟩
    have hdd : decide (Q = Q) = true := decide_eq_true rfl
    rw [hdd]
    have HBE : Hid (Below w.heap.size w w8) := (HB6.out.trans (HB.out.mono HB6.out.size)).trans (hb8.mono (HB6.out.trans (HB.out.mono HB6.out.size)).size)
    clear hb8 hwr2 hdd
    refine hK _ _ (fun a hF => ?_);clear hK K;refine seq_chain [(10, true), (11, true)] [] rfl hF (fun C hC => ?_);clear hF;refine zS2 93 96 rfl rfl rfl rfl rfl rfl (by intros;go_simp<;>with_reducible rfl) ?_;refine zA rfl rfl rfl rfl rfl rfl ?_;refine hC _ (fun a hF => ?_);clear hC C;refine seq_end ?_;replace hF := hF.k1 4 rfl;refine hK _ _ ?_;clear hK;(try clear K);refine wp_ret ?_;(try simp only [then_ret, block_ret, goto_ret]);refine ret_fr (fn := Try.f7) (rs := [.tmp 4]) rfl [_] hF ⟨rfl, trivial⟩ ?_
    exact ⟨rfl, HBE.out⟩
  have hlti : (i : Int) < (P.length : Nat) := by omega
  refine region_seq (l := [0, 1, 2, 3]) (by kernel_rfl) ?_;refine seq_chain [(0, true), (1, true), (2, true), (3, true)] [] rfl hF (fun C hC => ?_);clear hF;refine zM rfl rfl rfl rfl rfl rfl ?_;refine zM rfl rfl rfl rfl rfl rfl ?_;refine zS1 55 rfl rfl rfl rfl rfl (by intros;go_simp<;>with_reducible rfl) ?_;refine zS2 54 56 rfl rfl rfl rfl rfl rfl (by intros;go_simp<;>with_reducible rfl) ?_;refine hC _ (fun a hF => ?_);clear hC C;refine seq_end ?_;replace hF := hF.k9 5 6 8 9 10 11 12 13 57 rfl rfl rfl rfl rfl rfl rfl rfl rfl;refine hK _ _ ?_;clear hK;(try clear K)
  refine cond_yes hF rfl ?_
  refine wp_skip ?_
  refine hK _ _ ?_;clear hK;(try clear K);replace hF := hF.k8 5 6 8 9 10 11 12 13 rfl rfl rfl rfl rfl rfl rfl rfl
  clear hKA HAL HQ6
  refine seq_cut (fun a' w' => ∃ (lw : Option Addr) (cw : Nat), FrF 98 [] [(5, .bool true), (6, .slice la P.length c), (8, .int .i64 n), (9, .slice la2 Q.length k2), (10, .slice fa2 0 f9), (11, .slice lw (wantS P n (i + 1)).length cw), (12, .int .i64 (firstI P n (i + 1))), (13, .int .i64 i)] a' ∧ Hid (Below w6.heap.size w6 w') ∧ Hid (w'.ownsRow w6.heap.size 35 9 (.slice lw (wantS P n (i + 1)).length cw) (wantS P n (i + 1)).length (flat PlaceE (wantS P n (i + 1))))) (fun KC hKC => ?_) ?_
  rotate_left
  · clear hF HB HW
    rintro a w' ⟨lw, cw, hF, HB, HW⟩
    have hws : IntKind.i64.wrap ((i : Int) + 1) = ((i + 1 : Nat) : Int) := wrap_succ (by omega)
    refine region_seq (l := [0, 1, 2]) (by kernel_rfl) ?_;refine seq_chain [(0, true), (1, true), (2, true)] [] rfl hF (fun C hC => ?_);clear hF;refine zM rfl rfl rfl rfl rfl rfl ?_;refine zS1 58 rfl rfl rfl rfl rfl (by intros;go_simp<;>with_reducible rfl) ?_;refine zA rfl rfl rfl rfl rfl rfl ?_;refine hC _ (fun a hF => ?_);clear hC C;refine seq_end ?_;replace hF := hF.k8 5 6 8 9 10 11 12 13 rfl rfl rfl rfl rfl rfl rfl rfl
    exact hKB (P.length - (i + 1)) _ _ (by omega) ⟨i + 1, lw, cw, by omega, hF, HB, HW⟩
  clear hKB hik
  obtain ⟨bb, oo, hla, d0, d1, d2, d3, d4, d5, d6, d7, d8⟩ := place_at (HP6.out.below HB.out) i hlt hlt
  subst hla
  have hwb := wth_bound HCM.out hn4 hlt
  refine wp_block ?_
  refine wp_seq_k (fun K hK => ?_);refine wp_seq_k (fun K hK => ?_)
  by_cases hlev : P[i].level = n
  rotate_left
  · have hne : (P[i].level != (n : Int)) = true := by simp [hlev]
    obtain ⟨e1, e2⟩ := first_skip hlt hlev
    have HE1 := Lib.hid e1
    have HE2 := Lib.hid e2
    clear hlev hwb e1 e2
    refine region_seq (l := [0, 1, 2, 3, 4, 5, 6]) (by kernel_rfl) ?_;refine seq_chain [(0, true), (1, true), (2, true), (3, true), (4, true), (5, true), (6, true)] [] rfl hF (fun C hC => ?_);clear hF;refine zM rfl rfl rfl rfl rfl rfl ?_;refine zM rfl rfl rfl rfl rfl rfl ?_;refine zS2 60 61 rfl rfl rfl rfl rfl rfl (by intros;go_simp<;>with_reducible rfl) ?_;refine zS1 62 rfl rfl rfl rfl rfl (by intros;go_simp<;>with_reducible rfl) ?_;refine zS1 63 rfl rfl rfl rfl rfl (by intros;go_simp<;>with_reducible rfl) ?_;refine zM rfl rfl rfl rfl rfl rfl ?_;refine zS2 64 65 rfl rfl rfl rfl rfl rfl (by intros;go_simp<;>with_reducible rfl) ?_;refine hC _ (fun a hF => ?_);clear hC C;refine seq_end ?_;replace hF := hF.k9 5 6 8 9 10 11 12 13 66 rfl rfl rfl rfl rfl rfl rfl rfl rfl;refine hK _ _ ?_;clear hK;(try clear K)
    refine cond_yes hF rfl ?_
    refine wp_exit ?_
    refine hKC _ _ ⟨lw, cw, ?_, HB, ?_⟩
    · rw [HE1.out, HE2.out]
      exact hF.sub ⟨rfl, rfl, rfl, rfl, rfl, rfl, rfl, rfl, trivial⟩
    · rw [HE2.out]
      exact HW
  have hne : (P[i].level != (n : Int)) = false := by simp [hlev]
  obtain ⟨e1, e2⟩ := first_take hlt hlev
  have HE1 := Lib.hid e1
  have HE2 := Lib.hid e2
  clear e1 e2 hlev
  refine region_seq (l := [0, 1, 2, 3, 4, 5, 6]) (by kernel_rfl) ?_;refine seq_chain [(0, true), (1, true), (2, true), (3, true), (4, true), (5, true), (6, true)] [] rfl hF (fun C hC => ?_);clear hF;refine zM rfl rfl rfl rfl rfl rfl ?_;refine zM rfl rfl rfl rfl rfl rfl ?_;refine zS2 60 61 rfl rfl rfl rfl rfl rfl (by intros;go_simp<;>with_reducible rfl) ?_;refine zS1 62 rfl rfl rfl rfl rfl (by intros;go_simp<;>with_reducible rfl) ?_;refine zS1 63 rfl rfl rfl rfl rfl (by intros;go_simp<;>with_reducible rfl) ?_;refine zM rfl rfl rfl rfl rfl rfl ?_;refine zS2 64 65 rfl rfl rfl rfl rfl rfl (by intros;go_simp<;>with_reducible rfl) ?_;refine hC _ (fun a hF => ?_);clear hC C;refine seq_end ?_;replace hF := hF.k9 5 6 8 9 10 11 12 13 66 rfl rfl rfl rfl rfl rfl rfl rfl rfl;refine hK _ _ ?_;clear hK;(try clear K)
  refine cond_no hF rfl ?_
  refine wp_skip ?_
  refine hK _ _ ?_;clear hK;(try clear K)
  clear hne
  obtain ⟨p, hp⟩ : ∃ p, p = P[i] := ⟨_, rfl⟩
  rw [← hp] at d0 d1 d2 d3 d4 d5 d6 d7 d8 HE2 hwb
  clear hp
  have hfb : -1 ≤ firstI P n (i + 1) ∧ firstI P n (i + 1) ≤ 4000 := by
    have h1 : firstI P n i = -1 ∨ ∃ k : Nat, firstI P n i = k ∧ k ≤ 4000 := by
      unfold firstI
      split
      · refine Or.inr ⟨_, rfl, ?_⟩
        have : firstP P n ≤ P.length := List.findIdx_le_length
        omega
      · exact Or.inl rfl
    rw [HE1.out]
    split
    · omega
    · rcases h1 with h1 | ⟨k, h1, h2⟩ <;> omega
  refine seq_cut (fun a' w' => w' = w7 ∧ FrF 98 [] [(5, .bool true), (6, .slice (some ⟨bb, oo, none⟩) P.length c), (8, .int .i64 n), (9, .slice la2 Q.length k2), (10, .slice fa2 0 f9), (11, .slice lw (wantS P n i).length cw), (12, .int .i64 (firstI P n (i + 1))), (13, .int .i64 i)] a') (fun KD hKD => ?_) ?_
  · refine wp_seq_k (fun K hK => ?_)
    by_cases hf0 : firstI P n i < 0
    · rw [if_pos hf0] at HE1
      refine region_seq (l := [0, 1]) (by kernel_rfl) ?_;refine seq_chain [(0, true), (1, true)] [] rfl hF (fun C hC => ?_);clear hF;refine zM rfl rfl rfl rfl rfl rfl ?_;refine zS1 67 rfl rfl rfl rfl rfl (by intros;go_simp<;>with_reducible rfl) ?_;refine hC _ (fun a hF => ?_);clear hC C;refine seq_end ?_;replace hF := hF.k9 5 6 8 9 10 11 12 13 68 rfl rfl rfl rfl rfl rfl rfl rfl rfl;refine hK _ _ ?_;clear hK;(try clear K)
      refine cond_yes hF rfl ?_
      refine region_seq (l := [0, 1]) (by kernel_rfl) ?_;refine seq_chain [(0, true), (1, true)] [] rfl hF (fun C hC => ?_);clear hF;refine zM rfl rfl rfl rfl rfl rfl ?_;refine zA rfl rfl rfl rfl rfl rfl ?_;refine hC _ (fun a hF => ?_);clear hC C;refine seq_end ?_;replace hF := hF.k8 5 6 8 9 10 11 12 13 rfl rfl rfl rfl rfl rfl rfl rfl
      refine hKD _ _ ⟨rfl, ?_⟩
      rw [HE1.out]
      exact hF
    · rw [if_neg hf0] at HE1
      refine region_seq (l := [0, 1]) (by kernel_rfl) ?_;refine seq_chain [(0, true), (1, true)] [] rfl hF (fun C hC => ?_);clear hF;refine zM rfl rfl rfl rfl rfl rfl ?_;refine zS1 67 rfl rfl rfl rfl rfl (by intros;go_simp<;>with_reducible rfl) ?_;refine hC _ (fun a hF => ?_);clear hC C;refine seq_end ?_;replace hF := hF.k9 5 6 8 9 10 11 12 13 68 rfl rfl rfl rfl rfl rfl rfl rfl rfl;refine hK _ _ ?_;clear hK;(try clear K)
      refine cond_no hF rfl ?_
      refine wp_skip ?_
      refine hKD _ _ ⟨rfl, ?_⟩
      rw [HE1.out]
      exact hF.sub ⟨rfl, rfl, rfl, rfl, rfl, rfl, rfl, rfl, trivial⟩
  clear hF HE1
  rintro a w' ⟨hw', hF⟩
  subst hw'
  generalize firstI P n (i + 1) = f1 at *
  refine wp_seq_k (fun K hK => ?_);refine region_seq (l := [0, 1, 2, 3, 4, 5]) (by kernel_rfl) ?_;refine seq_chain [(0, true), (1, true), (2, true), (3, true)] [4, 5] rfl hF (fun C hC => ?_);clear hF;refine zM rfl rfl rfl rfl rfl rfl ?_;refine zM rfl rfl rfl rfl rfl rfl ?_;refine zS2 70 71 rfl rfl rfl rfl rfl rfl (by intros;go_simp<;>with_reducible rfl) ?_;refine zS1 72 rfl rfl rfl rfl rfl (by intros;go_simp<;>with_reducible rfl) ?_;refine hC _ (fun a hF => ?_);clear hC C;refine seq_one ?_;refine zE0 rfl rfl rfl hF rfl (by intros;go_simp<;>first|with_reducible rfl|(constructor<;>with_reducible rfl)) ?_;clear hF;refine fun a hF => ?_
  have hs0 : (w'.alloc (.cells #[.int .i64 0, .int .i64 0, .int .i64 0, .int .i64 0, .int .i64 0, .int .i64 0, .int .i64 0, .int .i64 0, .int .i64 0] 35)).heap[w'.heap.size]? = some (.cells #[.int .i64 0, .int .i64 0, .int .i64 0, .int .i64 0, .int .i64 0, .int .i64 0, .int .i64 0, .int .i64 0, .int .i64 0] 35 (0, 0)) := World.alloc_heap_new _ _
  have hb1 := Joins.below_alloc1 w' (.cells #[.int .i64 0, .int .i64 0, .int .i64 0, .int .i64 0, .int .i64 0, .int .i64 0, .int .i64 0, .int .i64 0, .int .i64 0] 35)
  generalize w'.alloc (.cells #[.int .i64 0, .int .i64 0, .int .i64 0, .int .i64 0, .int .i64 0, .int .i64 0, .int .i64 0, .int .i64 0, .int .i64 0] 35) = wa at *
  obtain ⟨gp, hgv⟩ : ∃ g, g = w'.heap.size := ⟨_, rfl⟩
  have hgw : w'.heap.size ≤ gp := Nat.le_of_eq hgv.symm
  rw [← hgv] at hF hs0
  clear hgv
  have hSV := run_storeVar_row (P := Try.prog) wa gp 35 35 #[.int .i64 0, .int .i64 0, .int .i64 0, .int .i64 0, .int .i64 0, .int .i64 0, .int .i64 0, .int .i64 0, .int .i64 0] #[.int .i64 p.kind, .int .i64 p.level, .int .i64 p.block, .int .i64 p.row, .int .i64 p.seat, .int .i64 p.x, .int .i64 p.y, .int .i64 p.view, .int .i64 p.wth] hs0 (by kernel_rfl) rfl (by simp [Value.oneCell'])
  have hs2 := setRow_heap wa gp #[.int .i64 0, .int .i64 0, .int .i64 0, .int .i64 0, .int .i64 0, .int .i64 0, .int .i64 0, .int .i64 0, .int .i64 0] #[.int .i64 p.kind, .int .i64 p.level, .int .i64 p.block, .int .i64 p.row, .int .i64 p.seat, .int .i64 p.x, .int .i64 p.y, .int .i64 p.view, .int .i64 p.wth] 35 (0, 0) hs0
  have hb2 : Below w'.heap.size w' (wa.setRow gp #[.int .i64 p.kind, .int .i64 p.level, .int .i64 p.block, .int .i64 p.row, .int .i64 p.seat, .int .i64 p.x, .int .i64 p.y, .int .i64 p.view, .int .i64 p.wth]) := below_setRow hb1 hgw #[.int .i64 p.kind, .int .i64 p.level, .int .i64 p.block, .int .i64 p.row, .int .i64 p.seat, .int .i64 p.x, .int .i64 p.y, .int .i64 p.view, .int .i64 p.wth]
  have HTW := Lib.hid (And.intro hb2 (And.intro hs2 hgw))
  clear hs0 hb1 hs2 hb2 hgw
  refine seq_one ?_;refine op_storev rfl rfl hF rfl rfl rfl rfl hSV ?_;clear hF;refine fun a hF => ?_
  clear hSV
  refine hK _ _ ?_;clear hK;(try clear K)
  generalize wa.setRow gp #[.int .i64 p.kind, .int .i64 p.level, .int .i64 p.block, .int .i64 p.row, .int .i64 p.seat, .int .i64 p.x, .int .i64 p.y, .int .i64 p.view, .int .i64 p.wth] = w8 at *
  have HB8 : Hid (Below w6.heap.size w6 w8) := HB.out.trans (HTW.out.1.mono HB.out.size)
  have HW8 := Lib.hid (row_of_heap HW.out fun b hb => HTW.out.1.block b (HW.out.lt b hb).2)
  have HPI : Hid (PlcIn w8 gp p) := HTW.out.2.1
  have HGP : Hid (w6.heap.size ≤ gp) := Nat.le_trans HB.out.size HTW.out.2.2
  have HNE : Hid (∀ b, (Value.slice lw (wantS P n i).length cw).ownBlock = some b → b ≠ gp) := fun b hb e => by
    have h1 := (HW.out.lt b hb).2
    have h2 := HTW.out.2.2
    omega
  clear HTW HB HW d0 d1 d2 d3 d4 d5 d6 d7 d8
  obtain ⟨q0, q1, q2, q3, q4, q5, q6, q7, q8⟩ := HPI.out.cells
  have f1' := free_var (o := 1) HPI.out
  have HB9 : Hid (Below w6.heap.size w6 (w8.setCell ⟨gp, 1, none⟩ (.int .i64 0))) := HB8.out.trans ((below_set HGP.out))
  have HW9 : Hid ((w8.setCell ⟨gp, 1, none⟩ (.int .i64 0)).ownsRow w6.heap.size 35 9 (.slice lw (wantS P n i).length cw) (wantS P n i).length (flat PlaceE (wantS P n i))) := row_of_heap HW8.out fun b hb => Below.heap_setCell _ _ _ _ (fun e => HNE.out b hb (by simpa using e))
  have HPI9 : Hid (PlcIn (w8.setCell ⟨gp, 1, none⟩ (.int .i64 0)) gp { p with level := 0 }) := HPI.out.setLevel 0
  clear HB8 HW8 HPI
  refine wp_seq_k (fun K hK => ?_);refine region_seq (l := [0, 1]) (by kernel_rfl) ?_;refine seq_chain [(0, true)] [1] rfl hF (fun C hC => ?_);clear hF;refine zS1 14 rfl rfl rfl rfl rfl (by intros;go_simp<;>with_reducible rfl) ?_;refine hC _ (fun a hF => ?_);clear hC C;refine seq_one ?_;refine zU1 74 rfl rfl hF rfl rfl (by intros;go_simp<;>with_reducible rfl) ?_;clear hF;refine fun a hF => ?_
  clear q0 q1 q2 q3 q4 q5 q6 q7 q8 f1'
  refine hK _ _ ?_;clear hK;(try clear K)
  generalize w8.setCell ⟨gp, 1, none⟩ (.int .i64 0) = w9 at *
  refine seq_cut (fun a' w' => FrF 98 [] [(5, .bool true), (6, .slice (some ⟨bb, oo, none⟩) P.length c), (8, .int .i64 n), (9, .slice la2 Q.length k2), (10, .slice fa2 0 f9), (11, .slice lw (wantS P n i).length cw), (12, .int .i64 f1), (13, .int .i64 i), (14, .pointer (some ⟨gp, 0, none⟩))] a' ∧ Hid (Below w6.heap.size w6 w') ∧ Hid (w'.ownsRow w6.heap.size 35 9 (.slice lw (wantS P n i).length cw) (wantS P n i).length (flat PlaceE (wantS P n i))) ∧ Hid (PlcIn w' gp (shiftP f1 p))) (fun KE hKE => ?_) ?_
  · obtain ⟨q0, q1, q2, q3, q4, q5, q6, q7, q8⟩ := HPI9.out.cells
    have q8' : w9.cell? ⟨gp, 8, none⟩ = some (.int .i64 p.wth) := q8
    clear q8
    refine wp_seq_k (fun K hK => ?_)
    by_cases h0 : 0 ≤ p.wth
    · have hsh : shiftP f1 p = { { p with level := 0 } with wth := p.wth - f1 } := by
        unfold shiftP
        rw [if_pos h0]
      refine region_seq (l := [0, 1, 2]) (by kernel_rfl) ?_;refine seq_chain [(0, true), (1, true), (2, true)] [] rfl hF (fun C hC => ?_);clear hF;refine zS1 14 rfl rfl rfl rfl rfl (by intros;go_simp<;>with_reducible rfl) ?_;refine zS1 75 rfl rfl rfl rfl rfl (by intros;go_simp<;>with_reducible rfl) ?_;refine zS1 76 rfl rfl rfl rfl rfl (by intros;go_simp<;>with_reducible rfl) ?_;refine hC _ (fun a hF => ?_);clear hC C;refine seq_end ?_;replace hF := hF.k10 5 6 8 9 10 11 12 13 14 77 rfl rfl rfl rfl rfl rfl rfl rfl rfl rfl;refine hK _ _ ?_;clear hK;(try clear K)
      refine cond_yes hF rfl ?_
      have hws : IntKind.i64.wrap (p.wth - f1) = p.wth - f1 := wrap_in (by omega) (by omega)
      have f8 := free_var (o := 8) HPI9.out
      have HB10 : Hid (Below w6.heap.size w6 (w9.setCell ⟨gp, 8, none⟩ (.int .i64 (p.wth - f1)))) := HB9.out.trans ((below_set HGP.out))
      have HW10 : Hid ((w9.setCell ⟨gp, 8, none⟩ (.int .i64 (p.wth - f1))).ownsRow w6.heap.size 35 9 (.slice lw (wantS P n i).length cw) (wantS P n i).length (flat PlaceE (wantS P n i))) := row_of_heap HW9.out fun b hb => Below.heap_setCell _ _ _ _ (fun e => HNE.out b hb (by simpa using e))
      have HPI10 : Hid (PlcIn (w9.setCell ⟨gp, 8, none⟩ (.int .i64 (p.wth - f1))) gp (shiftP f1 p)) := by
        rw [hsh]
        exact HPI9.out.setWth _
      clear HB9 HW9 HPI9 hsh h0 q0 q1 q2 q3 q4 q5 q6 q7
      refine region_seq (l := [0, 1, 2, 3, 4, 5]) (by kernel_rfl) ?_;refine seq_chain [(0, true), (1, true), (2, true), (3, true), (4, true)] [5] rfl hF (fun C hC => ?_);clear hF;refine zS1 14 rfl rfl rfl rfl rfl (by intros;go_simp<;>with_reducible rfl) ?_;refine zS1 78 rfl rfl rfl rfl rfl (by intros;go_simp<;>with_reducible rfl) ?_;refine zM rfl rfl rfl rfl rfl rfl ?_;refine zS2 79 80 rfl rfl rfl rfl rfl rfl (by intros;go_simp<;>with_reducible rfl) ?_;refine zS1 14 rfl rfl rfl rfl rfl (by intros;go_simp<;>with_reducible rfl) ?_;refine hC _ (fun a hF => ?_);clear hC C;refine seq_one ?_;refine zU2 81 82 rfl rfl hF rfl rfl rfl (by intros;go_simp<;>with_reducible rfl) ?_;clear hF;refine fun a hF => ?_;refine seq_end ?_;replace hF := hF.k9 5 6 8 9 10 11 12 13 14 rfl rfl rfl rfl rfl rfl rfl rfl rfl
      exact hKE _ _ ⟨hF, HB10, HW10, HPI10⟩
    · have hsh : shiftP f1 p = { p with level := 0 } := by
        unfold shiftP
        rw [if_neg h0]
      refine region_seq (l := [0, 1, 2]) (by kernel_rfl) ?_;refine seq_chain [(0, true), (1, true), (2, true)] [] rfl hF (fun C hC => ?_);clear hF;refine zS1 14 rfl rfl rfl rfl rfl (by intros;go_simp<;>with_reducible rfl) ?_;refine zS1 75 rfl rfl rfl rfl rfl (by intros;go_simp<;>with_reducible rfl) ?_;refine zS1 76 rfl rfl rfl rfl rfl (by intros;go_simp<;>with_reducible rfl) ?_;refine hC _ (fun a hF => ?_);clear hC C;refine seq_end ?_;replace hF := hF.k10 5 6 8 9 10 11 12 13 14 77 rfl rfl rfl rfl rfl rfl rfl rfl rfl rfl;refine hK _ _ ?_;clear hK;(try clear K)
      refine cond_no hF rfl ?_
      refine wp_skip ?_
      rw [← hsh] at HPI9
      exact hKE _ _ ⟨hF.sub ⟨rfl, rfl, rfl, rfl, rfl, rfl, rfl, rfl, rfl, trivial⟩, HB9, HW9, HPI9⟩
  clear hF HB9 HW9 HPI9
  rintro a w10 ⟨hF, HB, HW, HPI⟩
  generalize shiftP f1 p = x at *
  obtain ⟨q0, q1, q2, q3, q4, q5, q6, q7, q8⟩ := HPI.out.cells
  have hwl := wantS_len P n i
  refine region_seq (l := [0, 1, 2, 3, 4]) (by kernel_rfl) ?_;refine seq_chain [(0, true), (1, true)] [2, 3, 4] rfl hF (fun C hC => ?_);clear hF;refine zM rfl rfl rfl rfl rfl rfl ?_;refine zS1 14 rfl rfl rfl rfl rfl (by intros;go_simp<;>with_reducible rfl) ?_;refine hC _ (fun a hF => ?_);clear hC C;refine seq_one ?_;refine zE1 84 rfl rfl rfl hF rfl rfl (by intros;go_simp<;>first|with_reducible rfl|(constructor<;>with_reducible rfl)) ?_;clear hF;refine fun a hF => ?_
  have HNR := Lib.hid (recs_alloc PlaceE w10 35 [x] #[.int .i64 x.kind, .int .i64 x.level, .int .i64 x.block, .int .i64 x.row, .int .i64 x.seat, .int .i64 x.x, .int .i64 x.y, .int .i64 x.view, .int .i64 x.wth] rfl)
  have HBa := Lib.hid (Joins.below_alloc1 w10 (.cells #[.int .i64 x.kind, .int .i64 x.level, .int .i64 x.block, .int .i64 x.row, .int .i64 x.seat, .int .i64 x.x, .int .i64 x.y, .int .i64 x.view, .int .i64 x.wth] 35))
  have HB11 : Hid (Below w6.heap.size w6 (w10.alloc (.cells #[.int .i64 x.kind, .int .i64 x.level, .int .i64 x.block, .int .i64 x.row, .int .i64 x.seat, .int .i64 x.x, .int .i64 x.y, .int .i64 x.view, .int .i64 x.wth] 35))) := HB.out.trans (HBa.out.mono HB.out.size)
  have HW11 := Lib.hid (row_of_heap HW.out fun b hb => HBa.out.block b (HW.out.lt b hb).2)
  clear HB HW HPI HBa q0 q1 q2 q3 q4 q5 q6 q7 q8
  generalize w10.alloc (.cells #[.int .i64 x.kind, .int .i64 x.level, .int .i64 x.block, .int .i64 x.row, .int .i64 x.seat, .int .i64 x.x, .int .i64 x.y, .int .i64 x.view, .int .i64 x.wth] 35) = w11 at *
  obtain ⟨v', w12, hAPP, ho, hg, _⟩ := append_recs (E := PlaceE) 29 35 29 Try.underlying29 info_place rfl (by decide) HW11.out (u := .slice (some ⟨w10.heap.size, 0, none⟩) 1 1) ⟨_, _, rfl, HNR.out, fun h => by cases h⟩ (by simp; omega) HB11.out.size
  obtain ⟨la4, lc4, rfl, _⟩ := OwnRecs.of_row ho
  have HB12 : Hid (Below w6.heap.size w6 w12) := HB11.out.grown hg HB11.out.size (fun k hk => (HW11.out.lt k hk).1)
  have HL1 : Hid ((wantS P n i).length + [x].length = (wantS P n (i + 1)).length) := by
    show _ = _
    rw [HE2.out, List.length_append]
  have HW12 : Hid (w12.ownsRow w6.heap.size 35 9 (.slice la4 (wantS P n (i + 1)).length lc4) (wantS P n (i + 1)).length (flat PlaceE (wantS P n (i + 1)))) := by
    rw [← HL1.out, HE2.out]
    exact ho
  clear ho hg HB11 HW11 HNR HE2
  rw [HL1.out] at hAPP
  refine seq_one ?_;refine op_append rfl rfl rfl rfl rfl hF rfl rfl rfl hAPP (fun a hF => ?_);clear hAPP;refine seq_chain [(4, true)] [] rfl hF (fun C hC => ?_);clear hF;refine zA rfl rfl rfl rfl rfl rfl ?_;refine hC _ (fun a hF => ?_);clear hC C;refine seq_end ?_;replace hF := hF.k8 5 6 8 9 10 11 12 13 rfl rfl rfl rfl rfl rfl rfl rfl
  exact hKC _ _ ⟨la4, lc4, hF, HB12, HW12⟩
end Go.Proofs.Ytmcdhggnpfhlmaa
