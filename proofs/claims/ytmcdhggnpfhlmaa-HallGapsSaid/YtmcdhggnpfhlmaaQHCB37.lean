/- hall: foyerref10.Few: the walk. -/
import Derived.Test.YtmcdhggnpfhlmaaQHCB19
import Derived.Test.YtmcdhggnpfhlmaaQHCB24

namespace Go.Proofs.Ytmcdhggnpfhlmaa
open Go.RowKit Go.IntWalk
set_option linter.unusedSimpArgs false
set_option linter.unusedVariables false

def BlkFew (b : BlkR) : Prop := b.rn ≤ 8 ∧ ∀ r ∈ b.rows, r.mn ≤ 70
def LevFew (l : LevR) : Prop := l.bn ≤ 6 ∧ l.sn + l.pn + l.dn + l.an ≤ 60 ∧ ∀ b ∈ l.blocks, BlkFew b
def FewOk (h : HallR) : Prop := h.ln ≤ 12 ∧ ∀ l ∈ h.levels, LevFew l
/-- Go's own bound on lengths. -/
def Reach (h : HallR) : Prop := ∀ l ∈ h.levels, l.sn ≤ 1000000000000000 ∧ l.pn ≤ 1000000000000000 ∧ l.dn ≤ 1000000000000000 ∧ l.an ≤ 1000000000000000
theorem FewOk.sm {h : HallR} (hf : FewOk h) : h.Sm :=
  ⟨hf.1, fun l hl => ⟨(hf.2 l hl).1, (hf.2 l hl).2.1⟩, fun l hl b hb => ((hf.2 l hl).2.2 b hb).1, fun l hl b hb r hr => by have := ((hf.2 l hl).2.2 b hb).2 r hr; omega⟩

set_option maxRecDepth 100000 in
set_option maxHeartbeats 16000000 in
theorem few_any (w : World) (h : HallR) (hh : h.In w) (hre : Reach h) :
    Calls Try.prog 10 #[.agg #[.string (bs h.name), .int .i64 h.stage.x, .int .i64 h.stage.y, .slice h.la h.ln h.lc]] w fun e w' => ∃ b, e = .returned (.bool b) ∧ (b = true → FewOk h) ∧ Below w.heap.size w w' := by
  have HH := Lib.hid hh
  have HRE := Lib.hid hre
  have HLL : Hid (h.levels.length = h.ln) := hh.levels.1
  have hln := hh.ln
  clear hh hre
  refine enter_fr (N := 119) [.agg #[.string (bs h.name), .int .i64 h.stage.x, .int .i64 h.stage.y, .slice h.la h.ln h.lc]] (Try.func10) rfl Try.ntmps10 (by rfl) (fun a hF => ?_);replace hF := hF.kp [0] rfl;refine wp_seq_k (fun K hK => ?_);refine region_seq (l := [0, 1]) (by kernel_rfl) ?_;refine seq_one ?_;refine ze1 0 rfl rfl rfl hF rfl rfl ?_;clear hF;refine fun a hF => ?_;refine seq_ck [1] [] hF fun C hC => ?_;clear hF;refine za rfl rfl rfl ?_;refine hC _ (fun a hF => ?_);clear hC C;refine seq_end ?_;replace hF := hF.kp [1] rfl;refine hK _ _ ?_;clear hK;(try clear K)
  have HX : Hid (HallIn (w.alloc (.cells #[.string (bs h.name), .int .i64 h.stage.x, .int .i64 h.stage.y, .slice h.la h.ln h.lc] 26)) w.heap.size h) := World.alloc_heap_new w _
  have HB : Hid (Below w.heap.size w (w.alloc (.cells #[.string (bs h.name), .int .i64 h.stage.x, .int .i64 h.stage.y, .slice h.la h.ln h.lc] 26))) := Joins.below_alloc1 w _
  generalize w.alloc (.cells #[.string (bs h.name), .int .i64 h.stage.x, .int .i64 h.stage.y, .slice h.la h.ln h.lc] 26) = w1 at *
  obtain ⟨gh, hgh⟩ : ∃ g, g = w.heap.size := ⟨_, rfl⟩
  rw [← hgh] at hF HX
  clear hgh
  obtain ⟨_, _, _, c3⟩ := HX.out.cells
  refine wp_seq_k (fun K hK => ?_);refine wp_seq_k (fun K hK => ?_)
  by_cases h12 : 12 < h.ln
  · have h12i : (12 : Int) < h.ln := by omega
    refine region_sk [0, 1, 2, 3] [] hF fun C hC => ?_;clear hF;refine zs1 1 rfl rfl ?_;refine zs1 9 rfl rfl ?_;refine zs1 10 rfl rfl ?_;refine zs1 11 rfl rfl ?_;refine hC _ (fun a hF => ?_);clear hC C;refine seq_end ?_;replace hF := hF.kp [1, 12] rfl;refine hK _ _ ?_;clear hK;(try clear K)
    refine cond_yes hF rfl ?_
    refine wp_seq_k (fun K hK => ?_);refine region_sk [0] [] hF fun C hC => ?_;clear hF;refine za rfl rfl rfl ?_;refine hC _ (fun a hF => ?_);clear hC C;refine seq_end ?_;replace hF := hF.kp [2] rfl;refine hK _ _ ?_;clear hK;(try clear K);refine wp_ret ?_;(try simp only [then_ret, block_ret, goto_ret]);refine ret_fr (fn := Try.f10) (rs := [.tmp 2]) rfl [_] hF ⟨rfl, trivial⟩ ?_
    exact ⟨false, rfl, (fun e => by cases e), HB.out⟩
  have h12i : ¬ (12 : Int) < h.ln := by omega
  refine region_sk [0, 1, 2, 3] [] hF fun C hC => ?_;clear hF;refine zs1 1 rfl rfl ?_;refine zs1 9 rfl rfl ?_;refine zs1 10 rfl rfl ?_;refine zs1 11 rfl rfl ?_;refine hC _ (fun a hF => ?_);clear hC C;refine seq_end ?_;replace hF := hF.kp [1, 12] rfl;refine hK _ _ ?_;clear hK;(try clear K)
  refine cond_no hF rfl ?_
  refine wp_skip ?_
  refine hK _ _ ?_;clear hK;(try clear K)
  clear h12i c3
  refine wp_seq_k (fun K hK => ?_);refine region_sk [0] [] hF fun C hC => ?_;clear hF;refine za rfl rfl rfl ?_;refine hC _ (fun a hF => ?_);clear hC C;refine seq_end ?_;replace hF := hF.kp [1, 3] rfl;refine hK _ _ ?_;clear hK;(try clear K);refine wp_seq_k (fun KA hKA => ?_);refine wp_seq_k (fun K hK => ?_);refine region_sk [0] [] hF fun C hC => ?_;clear hF;refine za rfl rfl rfl ?_;refine hC _ (fun a hF => ?_);clear hC C;refine seq_end ?_;replace hF := hF.kp [1, 3, 4] rfl;refine hK _ _ ?_;clear hK;(try clear K)
  refine wp_block ?_
  refine loop_fr (fun n a' w' => ∃ (i : Nat) (v : Int), i + n = h.ln ∧ 0 ≤ v ∧ v ≤ i * 60 ∧ FrF 119 [] [(1, .pointer (some ⟨gh, 0, none⟩)), (3, .int .i64 v), (4, .int .i64 i)] a' ∧ Hid (Below w.heap.size w w') ∧ Hid (HallIn w' gh h) ∧ Hid (∀ j (hj : j < h.levels.length), j < i → LevFew h.levels[j])) h.ln ⟨0, 0, by omega, by omega, by omega, hF, HB, HX, fun j _ hj => absurd hj (Nat.not_lt_zero _)⟩ ?_
  clear hF HB HX
  rintro rk a w2 ⟨i, v, hik, hv0, hv1, hF, HB, HX, HP⟩ KB hKB
  obtain ⟨_, _, _, c3⟩ := HX.out.cells
  refine wp_seq_k (fun K hK => ?_);refine wp_seq_k (fun K hK => ?_)
  by_cases hlt : i < h.ln
  rotate_left
  · refine region_sk [0, 1, 2, 3, 4] [] hF fun C hC => ?_;clear hF;refine zm rfl rfl rfl ?_;refine zs1 1 rfl rfl ?_;refine zs1 14 rfl rfl ?_;refine zs1 15 rfl rfl ?_;refine zs2 13 16 rfl rfl rfl ?_;refine hC _ (fun a hF => ?_);clear hC C;refine seq_end ?_;replace hF := hF.kp [1, 3, 4, 17] rfl;refine hK _ _ ?_;clear hK;(try clear K)
    refine cond_no hF rfl ?_
    refine wp_exit ?_
    refine hKA _ _ ?_;clear hKA;(try clear KA)
    clear c3
    have HFW : Hid (FewOk h) := ⟨by omega, fun l hl => by
      obtain ⟨j, hj, rfl⟩ := List.mem_iff_getElem.1 hl
      exact HP.out j hj (by have := HLL.out; omega)⟩
    refine wp_seq_k (fun K hK => ?_);refine region_sk [0, 1, 2] [] hF fun C hC => ?_;clear hF;refine zm rfl rfl rfl ?_;refine zs1 117 rfl rfl ?_;refine za rfl rfl rfl ?_;refine hC _ (fun a hF => ?_);clear hC C;refine seq_end ?_;replace hF := hF.kp [2] rfl;refine hK _ _ ?_;clear hK;(try clear K);refine wp_ret ?_;(try simp only [then_ret, block_ret, goto_ret]);refine ret_fr (fn := Try.f10) (rs := [.tmp 2]) rfl [_] hF ⟨rfl, trivial⟩ ?_
    exact ⟨_, rfl, fun _ => HFW.out, HB.out⟩
  refine region_sk [0, 1, 2, 3, 4] [] hF fun C hC => ?_;clear hF;refine zm rfl rfl rfl ?_;refine zs1 1 rfl rfl ?_;refine zs1 14 rfl rfl ?_;refine zs1 15 rfl rfl ?_;refine zs2 13 16 rfl rfl rfl ?_;refine hC _ (fun a hF => ?_);clear hC C;refine seq_end ?_;replace hF := hF.kp [1, 3, 4, 17] rfl;refine hK _ _ ?_;clear hK;(try clear K)
  refine cond_yes hF rfl ?_
  refine wp_skip ?_
  refine hK _ _ ?_;clear hK;(try clear K)
  clear hKA
  have hil : i < h.levels.length := by rw [HLL.out]; exact hlt
  have hii : (i : Int) < h.ln := by omega
  obtain ⟨bb, oo, hla, d0, d1, d2, d3, d4, d5, d6, d7⟩ := lev_at (HH.out.levels.below HB.out) i hlt hil
  have HPN : Hid (LevFew h.levels[i] → ∀ j (hj : j < h.levels.length), j < i + 1 → LevFew h.levels[j]) := fun hh j hj hji => by
    by_cases e : j = i
    · subst e; exact hh
    · exact HP.out j hj (by omega)
  refine seq_cut (fun a' w' => ∃ v2 : Int, 0 ≤ v2 ∧ v2 ≤ v + 60 ∧ FrF 119 [] [(1, .pointer (some ⟨gh, 0, none⟩)), (3, .int .i64 v2), (4, .int .i64 i)] a' ∧ Hid (Below w.heap.size w w') ∧ Hid (HallIn w' gh h) ∧ Hid (LevFew h.levels[i])) (fun KC hKC => ?_) ?_
  rotate_left
  · clear hF HB HX HP c3 d0 d1 d2 d3 d4 d5 d6 d7 hla
    rintro a w' ⟨v2, hv20, hv21, hF, HB, HX, HO⟩
    have hws : IntKind.i64.wrap ((i : Int) + 1) = ((i + 1 : Nat) : Int) := wrap_succ (by omega)
    refine region_sk [0, 1, 2] [] hF fun C hC => ?_;clear hF;refine zm rfl rfl rfl ?_;refine zs1 18 rfl rfl ?_;refine za rfl rfl rfl ?_;refine hC _ (fun a hF => ?_);clear hC C;refine seq_end ?_;replace hF := hF.kp [1, 3, 4] rfl
    exact hKB (h.ln - (i + 1)) _ _ (by omega) ⟨i + 1, v2, by omega, hv20, by omega, hF, HB, HX, HPN.out HO.out⟩
  clear hKB hik HP HPN
  have hlm : h.levels[i] ∈ h.levels := List.getElem_mem hil
  have HLV := Lib.hid (HH.out.lev _ hlm)
  obtain ⟨r1, r2, r3, r4⟩ := HRE.out _ hlm
  clear hlm
  generalize h.levels[i] = l at *
  refine wp_block ?_
  refine wp_seq_k (fun K hK => ?_);refine region_sk [0, 1, 2, 3, 4] [5, 6] hF fun C hC => ?_;clear hF;refine zs1 1 rfl rfl ?_;refine zs1 20 rfl rfl ?_;refine zm rfl rfl rfl ?_;refine zs2 21 22 rfl rfl rfl ?_;refine zs1 23 rfl rfl ?_;refine hC _ (fun a hF => ?_);clear hC C;refine seq_one ?_;refine ze0 rfl rfl rfl hF rfl ?_;clear hF;refine fun a hF => ?_;refine seq_one ?_;refine zu2 5 24 rfl rfl hF rfl rfl rfl ?_;clear hF;refine fun a hF => ?_;refine seq_end ?_;replace hF := hF.kp [1, 3, 4, 5] rfl;refine hK _ _ ?_;clear hK;(try clear K)
  have HY : Hid (LevIn (w2.alloc (.cells #[.string (bs l.name), .int .i64 l.height, .slice l.ba l.bn l.bc, .slice l.aa l.an l.ac, .slice l.sa l.sn l.sc, .slice l.pa l.pn l.pc, .slice l.da l.dn l.dc, .int .i64 l.at'] 43)) w2.heap.size l) := World.alloc_heap_new w2 _
  have hba := Joins.below_alloc1 w2 (.cells #[.string (bs l.name), .int .i64 l.height, .slice l.ba l.bn l.bc, .slice l.aa l.an l.ac, .slice l.sa l.sn l.sc, .slice l.pa l.pn l.pc, .slice l.da l.dn l.dc, .int .i64 l.at'] 43)
  have HB3 : Hid (Below w.heap.size w (w2.alloc (.cells #[.string (bs l.name), .int .i64 l.height, .slice l.ba l.bn l.bc, .slice l.aa l.an l.ac, .slice l.sa l.sn l.sc, .slice l.pa l.pn l.pc, .slice l.da l.dn l.dc, .int .i64 l.at'] 43))) := HB.out.trans (hba.mono HB.out.size)
  have HX3 := Lib.hid (HX.out.down hba)
  clear HB HX c3 d0 d1 d2 d3 d4 d5 d6 d7 hla hba
  generalize w2.alloc (.cells #[.string (bs l.name), .int .i64 l.height, .slice l.ba l.bn l.bc, .slice l.aa l.an l.ac, .slice l.sa l.sn l.sc, .slice l.pa l.pn l.pc, .slice l.da l.dn l.dc, .int .i64 l.at'] 43) = w3 at *
  obtain ⟨gl, hgl⟩ : ∃ g, g = w2.heap.size := ⟨_, rfl⟩
  rw [← hgl] at hF HY
  clear hgl
  obtain ⟨d0, _, d2, d3, d4, d5, d6, _⟩ := HY.out.cells
  refine wp_seq_k (fun K hK => ?_);refine wp_seq_k (fun K hK => ?_)
  by_cases h6 : 6 < l.bn
  · have h6i : (6 : Int) < l.bn := by omega
    refine region_sk [0, 1, 2, 3, 4, 5, 6, 7, 8, 9, 10, 11, 12, 13, 14, 15, 16, 17, 18, 19, 20, 21, 22, 23, 24, 25, 26, 27] [] hF fun C hC => ?_;clear hF;refine zs1 5 rfl rfl ?_;refine zs1 25 rfl rfl ?_;refine zs1 26 rfl rfl ?_;refine zs1 27 rfl rfl ?_;refine zm rfl rfl rfl ?_;refine zx rfl ?_;refine zx rfl ?_;refine zx rfl ?_;refine zx rfl ?_;refine zx rfl ?_;refine zx rfl ?_;refine zx rfl ?_;refine zx rfl ?_;refine zx rfl ?_;refine zx rfl ?_;refine zx rfl ?_;refine zx rfl ?_;refine zx rfl ?_;refine zx rfl ?_;refine zx rfl ?_;refine zx rfl ?_;refine zs2 29 45 rfl rfl rfl ?_;refine zm rfl rfl rfl ?_;refine zx rfl ?_;refine zx rfl ?_;refine zx rfl ?_;refine zx rfl ?_;refine zs2 47 51 rfl rfl rfl ?_;refine hC _ (fun a hF => ?_);clear hC C;refine seq_end ?_;replace hF := hF.kp [1, 3, 4, 5, 52] rfl;refine hK _ _ ?_;clear hK;(try clear K)
    refine cond_yes hF rfl ?_
    refine wp_seq_k (fun K hK => ?_);refine region_sk [0] [] hF fun C hC => ?_;clear hF;refine za rfl rfl rfl ?_;refine hC _ (fun a hF => ?_);clear hC C;refine seq_end ?_;replace hF := hF.kp [2] rfl;refine hK _ _ ?_;clear hK;(try clear K);refine wp_ret ?_;(try simp only [then_ret, block_ret, goto_ret]);refine ret_fr (fn := Try.f10) (rs := [.tmp 2]) rfl [_] hF ⟨rfl, trivial⟩ ?_
    exact ⟨false, rfl, (fun e => by cases e), HB3.out⟩
  have h6i : ¬ (6 : Int) < l.bn := by omega
  have hw1 : IntKind.i64.wrap ((l.sn : Int) + (l.pn : Int)) = (l.sn : Int) + (l.pn : Int) := wrap_in (by omega) (by omega)
  have hw2 : IntKind.i64.wrap ((l.sn : Int) + (l.pn : Int) + (l.dn : Int)) = (l.sn : Int) + (l.pn : Int) + (l.dn : Int) := wrap_in (by omega) (by omega)
  have hw3 : IntKind.i64.wrap ((l.sn : Int) + (l.pn : Int) + (l.dn : Int) + (l.an : Int)) = (l.sn : Int) + (l.pn : Int) + (l.dn : Int) + (l.an : Int) := wrap_in (by omega) (by omega)
  by_cases h60 : 60 < l.sn + l.pn + l.dn + l.an
  · have h60i : (60 : Int) < (l.sn : Int) + (l.pn : Int) + (l.dn : Int) + (l.an : Int) := by omega
    refine region_sk [0, 1, 2, 3, 4, 5, 6, 7, 8, 9, 10, 11, 12, 13, 14, 15, 16, 17, 18, 19, 20, 21, 22, 23, 24, 25, 26, 27] [] hF fun C hC => ?_;clear hF;refine zs1 5 rfl rfl ?_;refine zs1 25 rfl rfl ?_;refine zs1 26 rfl rfl ?_;refine zs1 27 rfl rfl ?_;refine zm rfl rfl rfl ?_;refine zs1 5 rfl rfl ?_;refine zs1 30 rfl rfl ?_;refine zs1 31 rfl rfl ?_;refine zs1 5 rfl rfl ?_;refine zs1 33 rfl rfl ?_;refine zs1 34 rfl rfl ?_;refine zs2 32 35 rfl rfl rfl ?_;refine zs1 5 rfl rfl ?_;refine zs1 37 rfl rfl ?_;refine zs1 38 rfl rfl ?_;refine zs2 36 39 rfl rfl rfl ?_;refine zs1 5 rfl rfl ?_;refine zs1 41 rfl rfl ?_;refine zs1 42 rfl rfl ?_;refine zs2 40 43 rfl rfl rfl ?_;refine zs1 44 rfl rfl ?_;refine zs2 29 45 rfl rfl rfl ?_;refine zm rfl rfl rfl ?_;refine zx rfl ?_;refine zx rfl ?_;refine zx rfl ?_;refine zx rfl ?_;refine zs2 47 51 rfl rfl rfl ?_;refine hC _ (fun a hF => ?_);clear hC C;refine seq_end ?_;replace hF := hF.kp [1, 3, 4, 5, 52] rfl;refine hK _ _ ?_;clear hK;(try clear K)
    refine cond_yes hF rfl ?_
    refine wp_seq_k (fun K hK => ?_);refine region_sk [0] [] hF fun C hC => ?_;clear hF;refine za rfl rfl rfl ?_;refine hC _ (fun a hF => ?_);clear hC C;refine seq_end ?_;replace hF := hF.kp [2] rfl;refine hK _ _ ?_;clear hK;(try clear K);refine wp_ret ?_;(try simp only [then_ret, block_ret, goto_ret]);refine ret_fr (fn := Try.f10) (rs := [.tmp 2]) rfl [_] hF ⟨rfl, trivial⟩ ?_
    exact ⟨false, rfl, (fun e => by cases e), HB3.out⟩
  have h60i : ¬ (60 : Int) < (l.sn : Int) + (l.pn : Int) + (l.dn : Int) + (l.an : Int) := by omega
  obtain ⟨nz, hnz⟩ : ∃ n, (bs l.name).size = n := ⟨_, rfl⟩
  by_cases h200 : 200 < nz
  · have h200i : (200 : Int) < nz := by omega
    refine region_sk [0, 1, 2, 3, 4, 5, 6, 7, 8, 9, 10, 11, 12, 13, 14, 15, 16, 17, 18, 19, 20, 21, 22, 23, 24, 25, 26, 27] [] hF fun C hC => ?_;clear hF;refine zs1 5 rfl rfl ?_;refine zs1 25 rfl rfl ?_;refine zs1 26 rfl rfl ?_;refine zs1 27 rfl rfl ?_;refine zm rfl rfl rfl ?_;refine zs1 5 rfl rfl ?_;refine zs1 30 rfl rfl ?_;refine zs1 31 rfl rfl ?_;refine zs1 5 rfl rfl ?_;refine zs1 33 rfl rfl ?_;refine zs1 34 rfl rfl ?_;refine zs2 32 35 rfl rfl rfl ?_;refine zs1 5 rfl rfl ?_;refine zs1 37 rfl rfl ?_;refine zs1 38 rfl rfl ?_;refine zs2 36 39 rfl rfl rfl ?_;refine zs1 5 rfl rfl ?_;refine zs1 41 rfl rfl ?_;refine zs1 42 rfl rfl ?_;refine zs2 40 43 rfl rfl rfl ?_;refine zs1 44 rfl rfl ?_;refine zs2 29 45 rfl rfl rfl ?_;refine zm rfl rfl rfl ?_;refine zs1 5 rfl rfl ?_;refine zs1 48 rfl rfl ?_;refine zs1 49 rfl rfl ?_;refine zs1 50 rfl rfl ?_;refine zs2 47 51 rfl rfl rfl ?_;refine hC _ (fun a hF => ?_);clear hC C;refine seq_end ?_;replace hF := hF.kp [1, 3, 4, 5, 52] rfl;refine hK _ _ ?_;clear hK;(try clear K)
    refine cond_yes hF rfl ?_
    refine wp_seq_k (fun K hK => ?_);refine region_sk [0] [] hF fun C hC => ?_;clear hF;refine za rfl rfl rfl ?_;refine hC _ (fun a hF => ?_);clear hC C;refine seq_end ?_;replace hF := hF.kp [2] rfl;refine hK _ _ ?_;clear hK;(try clear K);refine wp_ret ?_;(try simp only [then_ret, block_ret, goto_ret]);refine ret_fr (fn := Try.f10) (rs := [.tmp 2]) rfl [_] hF ⟨rfl, trivial⟩ ?_
    exact ⟨false, rfl, (fun e => by cases e), HB3.out⟩
  have h200i : ¬ (200 : Int) < nz := by omega
  refine region_sk [0, 1, 2, 3, 4, 5, 6, 7, 8, 9, 10, 11, 12, 13, 14, 15, 16, 17, 18, 19, 20, 21, 22, 23, 24, 25, 26, 27] [] hF fun C hC => ?_;clear hF;refine zs1 5 rfl rfl ?_;refine zs1 25 rfl rfl ?_;refine zs1 26 rfl rfl ?_;refine zs1 27 rfl rfl ?_;refine zm rfl rfl rfl ?_;refine zs1 5 rfl rfl ?_;refine zs1 30 rfl rfl ?_;refine zs1 31 rfl rfl ?_;refine zs1 5 rfl rfl ?_;refine zs1 33 rfl rfl ?_;refine zs1 34 rfl rfl ?_;refine zs2 32 35 rfl rfl rfl ?_;refine zs1 5 rfl rfl ?_;refine zs1 37 rfl rfl ?_;refine zs1 38 rfl rfl ?_;refine zs2 36 39 rfl rfl rfl ?_;refine zs1 5 rfl rfl ?_;refine zs1 41 rfl rfl ?_;refine zs1 42 rfl rfl ?_;refine zs2 40 43 rfl rfl rfl ?_;refine zs1 44 rfl rfl ?_;refine zs2 29 45 rfl rfl rfl ?_;refine zm rfl rfl rfl ?_;refine zs1 5 rfl rfl ?_;refine zs1 48 rfl rfl ?_;refine zs1 49 rfl rfl ?_;refine zs1 50 rfl rfl ?_;refine zs2 47 51 rfl rfl rfl ?_;refine hC _ (fun a hF => ?_);clear hC C;refine seq_end ?_;replace hF := hF.kp [1, 3, 4, 5, 52] rfl;refine hK _ _ ?_;clear hK;(try clear K)
  refine cond_no hF rfl ?_
  refine wp_skip ?_
  refine hK _ _ ?_;clear hK;(try clear K)
  clear h6i hw1 hw2 hw3 h60i h200i h200 hnz d0 d2 d3 d4 d5 d6
  replace hF := hF.kp [1, 3, 4, 5] rfl
  -- blocks
  refine seq_cut (fun a' w' => FrF 119 [] [(1, .pointer (some ⟨gh, 0, none⟩)), (3, .int .i64 v), (4, .int .i64 i), (5, .pointer (some ⟨gl, 0, none⟩))] a' ∧ Hid (Below w.heap.size w w') ∧ Hid (HallIn w' gh h) ∧ Hid (LevIn w' gl l) ∧ Hid (∀ b ∈ l.blocks, BlkFew b)) (fun KD hKD => ?_) ?_
  · clear hKC
    refine wp_seq_k (fun K hK => ?_);refine region_sk [0] [] hF fun C hC => ?_;clear hF;refine za rfl rfl rfl ?_;refine hC _ (fun a hF => ?_);clear hC C;refine seq_end ?_;replace hF := hF.kp [1, 3, 4, 5, 6] rfl;refine hK _ _ ?_;clear hK;(try clear K)
    refine wp_block ?_
    refine loop_fr (fun n a' w' => ∃ k : Nat, k + n = l.bn ∧ FrF 119 [] [(1, .pointer (some ⟨gh, 0, none⟩)), (3, .int .i64 v), (4, .int .i64 i), (5, .pointer (some ⟨gl, 0, none⟩)), (6, .int .i64 k)] a' ∧ Hid (Below w.heap.size w w') ∧ Hid (HallIn w' gh h) ∧ Hid (LevIn w' gl l) ∧ Hid (∀ j (hj : j < l.blocks.length), j < k → BlkFew l.blocks[j])) l.bn ⟨0, by omega, hF, HB3, HX3, HY, fun j _ hj => absurd hj (Nat.not_lt_zero _)⟩ ?_
    clear hF HB3 HX3 HY
    rintro rj a w4 ⟨k, hkk, hF, HB, HX, HY, HP⟩ KE hKE
    obtain ⟨_, _, d2, _, _, _, _, _⟩ := HY.out.cells
    refine wp_seq_k (fun K hK => ?_);refine wp_seq_k (fun K hK => ?_)
    by_cases hltk : k < l.bn
    rotate_left
    · refine region_sk [0, 1, 2, 3, 4] [] hF fun C hC => ?_;clear hF;refine zm rfl rfl rfl ?_;refine zs1 5 rfl rfl ?_;refine zs1 54 rfl rfl ?_;refine zs1 55 rfl rfl ?_;refine zs2 53 56 rfl rfl rfl ?_;refine hC _ (fun a hF => ?_);clear hC C;refine seq_end ?_;replace hF := hF.kp [1, 3, 4, 5, 6, 57] rfl;refine hK _ _ ?_;clear hK;(try clear K)
      refine cond_no hF rfl ?_
      refine wp_exit ?_
      refine hKD _ _ ⟨hF.sub ⟨rfl, rfl, rfl, rfl, trivial⟩, HB, HX, HY, fun b hb => ?_⟩
      obtain ⟨j, hj, rfl⟩ := List.mem_iff_getElem.1 hb
      exact HP.out j hj (by have := HLV.out.blocks.1; omega)
    refine region_sk [0, 1, 2, 3, 4] [] hF fun C hC => ?_;clear hF;refine zm rfl rfl rfl ?_;refine zs1 5 rfl rfl ?_;refine zs1 54 rfl rfl ?_;refine zs1 55 rfl rfl ?_;refine zs2 53 56 rfl rfl rfl ?_;refine hC _ (fun a hF => ?_);clear hC C;refine seq_end ?_;replace hF := hF.kp [1, 3, 4, 5, 6, 57] rfl;refine hK _ _ ?_;clear hK;(try clear K)
    refine cond_yes hF rfl ?_
    refine wp_skip ?_
    refine hK _ _ ?_;clear hK;(try clear K);replace hF := hF.kp [1, 3, 4, 5, 6] rfl
    clear hKD
    have hkl : k < l.blocks.length := by rw [HLV.out.blocks.1]; exact hltk
    have hki : (k : Int) < l.bn := by omega
    have HPN : Hid (BlkFew l.blocks[k] → ∀ j (hj : j < l.blocks.length), j < k + 1 → BlkFew l.blocks[j]) := fun hh j hj hji => by
      by_cases e : j = k
      · subst e; exact hh
      · exact HP.out j hj (by omega)
    refine seq_cut (fun a' w' => FrF 119 [] [(1, .pointer (some ⟨gh, 0, none⟩)), (3, .int .i64 v), (4, .int .i64 i), (5, .pointer (some ⟨gl, 0, none⟩)), (6, .int .i64 k)] a' ∧ Hid (Below w.heap.size w w') ∧ Hid (HallIn w' gh h) ∧ Hid (LevIn w' gl l) ∧ Hid (BlkFew l.blocks[k])) (fun KF hKF => ?_) ?_
    rotate_left
    · clear hF HB HX HY HP d2
      rintro a w' ⟨hF, HB, HX, HY, HO⟩
      have hws : IntKind.i64.wrap ((k : Int) + 1) = ((k + 1 : Nat) : Int) := wrap_succ (by omega)
      refine region_sk [0, 1, 2] [] hF fun C hC => ?_;clear hF;refine zm rfl rfl rfl ?_;refine zs1 58 rfl rfl ?_;refine za rfl rfl rfl ?_;refine hC _ (fun a hF => ?_);clear hC C;refine seq_end ?_;replace hF := hF.kp [1, 3, 4, 5, 6] rfl
      exact hKE (l.bn - (k + 1)) _ _ (by omega) ⟨k + 1, by omega, hF, HB, HX, HY, HPN.out HO.out⟩
    clear hKE hkk HP HPN
    obtain ⟨bb, oo, hba, e0, e1, e2⟩ := blk_at (HLV.out.blocks.below HB.out) k hltk hkl
    have HBV := Lib.hid (HLV.out.blk _ (List.getElem_mem hkl))
    have HBA := Lib.hid (fun wx (hb : Below w.heap.size w wx) => blk_at (HLV.out.blocks.below hb) k hltk hkl)
    generalize l.blocks[k] = b at *
    refine wp_block ?_
    refine wp_seq_k (fun K hK => ?_);refine wp_seq_k (fun K hK => ?_)
    by_cases h8 : 8 < b.rn
    · have h8i : (8 : Int) < b.rn := by omega
      refine region_sk [0, 1, 2, 3, 4, 5, 6, 7, 8, 9, 10, 11, 12, 13, 14, 15, 16, 17] [] hF fun C hC => ?_;clear hF;refine zs1 5 rfl rfl ?_;refine zs1 60 rfl rfl ?_;refine zm rfl rfl rfl ?_;refine zs2 61 62 rfl rfl rfl ?_;refine zs1 63 rfl rfl ?_;refine zs1 64 rfl rfl ?_;refine zs1 65 rfl rfl ?_;refine zs1 66 rfl rfl ?_;refine zm rfl rfl rfl ?_;refine zx rfl ?_;refine zx rfl ?_;refine zx rfl ?_;refine zx rfl ?_;refine zx rfl ?_;refine zx rfl ?_;refine zx rfl ?_;refine zx rfl ?_;refine zs2 68 76 rfl rfl rfl ?_;refine hC _ (fun a hF => ?_);clear hC C;refine seq_end ?_;replace hF := hF.kp [1, 3, 4, 5, 6, 77] rfl;refine hK _ _ ?_;clear hK;(try clear K)
      refine cond_yes hF rfl ?_
      refine wp_seq_k (fun K hK => ?_);refine region_sk [0] [] hF fun C hC => ?_;clear hF;refine za rfl rfl rfl ?_;refine hC _ (fun a hF => ?_);clear hC C;refine seq_end ?_;replace hF := hF.kp [2] rfl;refine hK _ _ ?_;clear hK;(try clear K);refine wp_ret ?_;(try simp only [then_ret, block_ret, goto_ret]);refine ret_fr (fn := Try.f10) (rs := [.tmp 2]) rfl [_] hF ⟨rfl, trivial⟩ ?_
      exact ⟨false, rfl, (fun e => by cases e), HB.out⟩
    have h8i : ¬ (8 : Int) < b.rn := by omega
    obtain ⟨nz, hnz⟩ : ∃ n, (bs b.name).size = n := ⟨_, rfl⟩
    by_cases h200 : 200 < nz
    · have h200i : (200 : Int) < nz := by omega
      refine region_sk [0, 1, 2, 3, 4, 5, 6, 7, 8, 9, 10, 11, 12, 13, 14, 15, 16, 17] [] hF fun C hC => ?_;clear hF;refine zs1 5 rfl rfl ?_;refine zs1 60 rfl rfl ?_;refine zm rfl rfl rfl ?_;refine zs2 61 62 rfl rfl rfl ?_;refine zs1 63 rfl rfl ?_;refine zs1 64 rfl rfl ?_;refine zs1 65 rfl rfl ?_;refine zs1 66 rfl rfl ?_;refine zm rfl rfl rfl ?_;refine zs1 5 rfl rfl ?_;refine zs1 69 rfl rfl ?_;refine zm rfl rfl rfl ?_;refine zs2 70 71 rfl rfl rfl ?_;refine zs1 72 rfl rfl ?_;refine zs1 73 rfl rfl ?_;refine zs1 74 rfl rfl ?_;refine zs1 75 rfl rfl ?_;refine zs2 68 76 rfl rfl rfl ?_;refine hC _ (fun a hF => ?_);clear hC C;refine seq_end ?_;replace hF := hF.kp [1, 3, 4, 5, 6, 77] rfl;refine hK _ _ ?_;clear hK;(try clear K)
      refine cond_yes hF rfl ?_
      refine wp_seq_k (fun K hK => ?_);refine region_sk [0] [] hF fun C hC => ?_;clear hF;refine za rfl rfl rfl ?_;refine hC _ (fun a hF => ?_);clear hC C;refine seq_end ?_;replace hF := hF.kp [2] rfl;refine hK _ _ ?_;clear hK;(try clear K);refine wp_ret ?_;(try simp only [then_ret, block_ret, goto_ret]);refine ret_fr (fn := Try.f10) (rs := [.tmp 2]) rfl [_] hF ⟨rfl, trivial⟩ ?_
      exact ⟨false, rfl, (fun e => by cases e), HB.out⟩
    have h200i : ¬ (200 : Int) < nz := by omega
    refine region_sk [0, 1, 2, 3, 4, 5, 6, 7, 8, 9, 10, 11, 12, 13, 14, 15, 16, 17] [] hF fun C hC => ?_;clear hF;refine zs1 5 rfl rfl ?_;refine zs1 60 rfl rfl ?_;refine zm rfl rfl rfl ?_;refine zs2 61 62 rfl rfl rfl ?_;refine zs1 63 rfl rfl ?_;refine zs1 64 rfl rfl ?_;refine zs1 65 rfl rfl ?_;refine zs1 66 rfl rfl ?_;refine zm rfl rfl rfl ?_;refine zs1 5 rfl rfl ?_;refine zs1 69 rfl rfl ?_;refine zm rfl rfl rfl ?_;refine zs2 70 71 rfl rfl rfl ?_;refine zs1 72 rfl rfl ?_;refine zs1 73 rfl rfl ?_;refine zs1 74 rfl rfl ?_;refine zs1 75 rfl rfl ?_;refine zs2 68 76 rfl rfl rfl ?_;refine hC _ (fun a hF => ?_);clear hC C;refine seq_end ?_;replace hF := hF.kp [1, 3, 4, 5, 6, 77] rfl;refine hK _ _ ?_;clear hK;(try clear K)
    refine cond_no hF rfl ?_
    refine wp_skip ?_
    refine hK _ _ ?_;clear hK;(try clear K);replace hF := hF.kp [1, 3, 4, 5, 6] rfl
    clear h8i h200i h200 hnz d2 e0 e1 e2 hba
    refine wp_seq_k (fun K hK => ?_);refine region_sk [0] [] hF fun C hC => ?_;clear hF;refine za rfl rfl rfl ?_;refine hC _ (fun a hF => ?_);clear hC C;refine seq_end ?_;replace hF := hF.kp [1, 3, 4, 5, 6, 7] rfl;refine hK _ _ ?_;clear hK;(try clear K)
    refine wp_block ?_
    refine loop_fr (fun n a' w' => ∃ m : Nat, m + n = b.rn ∧ FrF 119 [] [(1, .pointer (some ⟨gh, 0, none⟩)), (3, .int .i64 v), (4, .int .i64 i), (5, .pointer (some ⟨gl, 0, none⟩)), (6, .int .i64 k), (7, .int .i64 m)] a' ∧ Hid (Below w.heap.size w w') ∧ Hid (HallIn w' gh h) ∧ Hid (LevIn w' gl l) ∧ Hid (∀ j (hj : j < b.rows.length), j < m → b.rows[j].mn ≤ 70)) b.rn ⟨0, by omega, hF, HB, HX, HY, fun j _ hj => absurd hj (Nat.not_lt_zero _)⟩ ?_
    clear hF HB HX HY
    rintro rm a w5 ⟨m, hmk, hF, HB, HX, HY, HP⟩ KG hKG
    obtain ⟨_, _, d2, _, _, _, _, _⟩ := HY.out.cells
    obtain ⟨bb, oo, hba, e0, e1, e2⟩ := HBA.out w5 HB.out
    refine wp_seq_k (fun K hK => ?_);refine wp_seq_k (fun K hK => ?_)
    by_cases hltm : m < b.rn
    rotate_left
    · refine region_sk [0, 1, 2, 3, 4, 5, 6, 7, 8] [] hF fun C hC => ?_;clear hF;refine zm rfl rfl rfl ?_;refine zs1 5 rfl rfl ?_;refine zs1 79 rfl rfl ?_;refine zm rfl rfl rfl ?_;refine zs2 80 81 rfl rfl rfl ?_;refine zs1 82 rfl rfl ?_;refine zs1 83 rfl rfl ?_;refine zs1 84 rfl rfl ?_;refine zs2 78 85 rfl rfl rfl ?_;refine hC _ (fun a hF => ?_);clear hC C;refine seq_end ?_;replace hF := hF.kp [1, 3, 4, 5, 6, 7, 86] rfl;refine hK _ _ ?_;clear hK;(try clear K)
      refine cond_no hF rfl ?_
      refine wp_exit ?_
      refine hKF _ _ ⟨hF.sub ⟨rfl, rfl, rfl, rfl, rfl, trivial⟩, HB, HX, HY, by omega, fun r hr => ?_⟩
      obtain ⟨j, hj, rfl⟩ := List.mem_iff_getElem.1 hr
      exact HP.out j hj (by have := HBV.out.1.1; omega)
    refine region_sk [0, 1, 2, 3, 4, 5, 6, 7, 8] [] hF fun C hC => ?_;clear hF;refine zm rfl rfl rfl ?_;refine zs1 5 rfl rfl ?_;refine zs1 79 rfl rfl ?_;refine zm rfl rfl rfl ?_;refine zs2 80 81 rfl rfl rfl ?_;refine zs1 82 rfl rfl ?_;refine zs1 83 rfl rfl ?_;refine zs1 84 rfl rfl ?_;refine zs2 78 85 rfl rfl rfl ?_;refine hC _ (fun a hF => ?_);clear hC C;refine seq_end ?_;replace hF := hF.kp [1, 3, 4, 5, 6, 7, 86] rfl;refine hK _ _ ?_;clear hK;(try clear K)
    refine cond_yes hF rfl ?_
    refine wp_skip ?_
    refine hK _ _ ?_;clear hK;(try clear K);replace hF := hF.kp [1, 3, 4, 5, 6, 7] rfl
    clear hKF
    have hml : m < b.rows.length := by rw [HBV.out.1.1]; exact hltm
    have hmi : (m : Int) < b.rn := by omega
    have HPN : Hid (b.rows[m].mn ≤ 70 → ∀ j (hj : j < b.rows.length), j < m + 1 → b.rows[j].mn ≤ 70) := fun hh j hj hji => by
      by_cases e : j = m
      · subst e; exact hh
      · exact HP.out j hj (by omega)
    obtain ⟨b2, o2, hra, f0, f1, f2, f3, f4, f5, f6, f7⟩ := row_at (HBV.out.1.below HB.out) m hltm hml
    refine seq_cut (fun a' w' => FrF 119 [] [(1, .pointer (some ⟨gh, 0, none⟩)), (3, .int .i64 v), (4, .int .i64 i), (5, .pointer (some ⟨gl, 0, none⟩)), (6, .int .i64 k), (7, .int .i64 m)] a' ∧ Hid (Below w.heap.size w w') ∧ Hid (HallIn w' gh h) ∧ Hid (LevIn w' gl l) ∧ Hid (b.rows[m].mn ≤ 70)) (fun KI hKI => ?_) ?_
    rotate_left
    · clear hF HB HX HY HP d2 e0 e1 e2 hba f0 f1 f2 f3 f4 f5 f6 f7 hra
      rintro a w' ⟨hF, HB, HX, HY, HO⟩
      have hws : IntKind.i64.wrap ((m : Int) + 1) = ((m + 1 : Nat) : Int) := wrap_succ (by omega)
      refine region_sk [0, 1, 2] [] hF fun C hC => ?_;clear hF;refine zm rfl rfl rfl ?_;refine zs1 87 rfl rfl ?_;refine za rfl rfl rfl ?_;refine hC _ (fun a hF => ?_);clear hC C;refine seq_end ?_;replace hF := hF.kp [1, 3, 4, 5, 6, 7] rfl
      exact hKG (b.rn - (m + 1)) _ _ (by omega) ⟨m + 1, by omega, hF, HB, HX, HY, HPN.out HO.out⟩
    clear hKG hmk HP HPN
    generalize b.rows[m] = r at *
    refine wp_block ?_
    refine wp_seq_k (fun K hK => ?_)
    by_cases h70 : 70 < r.mn
    · have h70i : (70 : Int) < r.mn := by omega
      refine region_sk [0, 1, 2, 3, 4, 5, 6, 7, 8, 9, 10, 11] [] hF fun C hC => ?_;clear hF;refine zs1 5 rfl rfl ?_;refine zs1 89 rfl rfl ?_;refine zm rfl rfl rfl ?_;refine zs2 90 91 rfl rfl rfl ?_;refine zs1 92 rfl rfl ?_;refine zs1 93 rfl rfl ?_;refine zm rfl rfl rfl ?_;refine zs2 94 95 rfl rfl rfl ?_;refine zs1 96 rfl rfl ?_;refine zs1 97 rfl rfl ?_;refine zs1 98 rfl rfl ?_;refine zs1 99 rfl rfl ?_;refine hC _ (fun a hF => ?_);clear hC C;refine seq_end ?_;replace hF := hF.kp [1, 3, 4, 5, 6, 7, 100] rfl;refine hK _ _ ?_;clear hK;(try clear K)
      refine cond_yes hF rfl ?_
      refine wp_seq_k (fun K hK => ?_);refine region_sk [0] [] hF fun C hC => ?_;clear hF;refine za rfl rfl rfl ?_;refine hC _ (fun a hF => ?_);clear hC C;refine seq_end ?_;replace hF := hF.kp [2] rfl;refine hK _ _ ?_;clear hK;(try clear K);refine wp_ret ?_;(try simp only [then_ret, block_ret, goto_ret]);refine ret_fr (fn := Try.f10) (rs := [.tmp 2]) rfl [_] hF ⟨rfl, trivial⟩ ?_
      exact ⟨false, rfl, (fun e => by cases e), HB.out⟩
    have h70i : ¬ (70 : Int) < r.mn := by omega
    refine region_sk [0, 1, 2, 3, 4, 5, 6, 7, 8, 9, 10, 11] [] hF fun C hC => ?_;clear hF;refine zs1 5 rfl rfl ?_;refine zs1 89 rfl rfl ?_;refine zm rfl rfl rfl ?_;refine zs2 90 91 rfl rfl rfl ?_;refine zs1 92 rfl rfl ?_;refine zs1 93 rfl rfl ?_;refine zm rfl rfl rfl ?_;refine zs2 94 95 rfl rfl rfl ?_;refine zs1 96 rfl rfl ?_;refine zs1 97 rfl rfl ?_;refine zs1 98 rfl rfl ?_;refine zs1 99 rfl rfl ?_;refine hC _ (fun a hF => ?_);clear hC C;refine seq_end ?_;replace hF := hF.kp [1, 3, 4, 5, 6, 7, 100] rfl;refine hK _ _ ?_;clear hK;(try clear K)
    refine cond_no hF rfl ?_
    refine wp_skip ?_
    exact hKI _ _ ⟨hF.sub ⟨rfl, rfl, rfl, rfl, rfl, rfl, trivial⟩, HB, HX, HY, by show _ ≤ _; omega⟩
  clear hF HB3 HX3 HY
  rintro a w4 ⟨hF, HB, HX, HY, HBF⟩
  have HLF : Hid (LevFew l) := ⟨by omega, by omega, HBF.out⟩
  clear HBF
  -- areas
  refine wp_seq_k (fun K hK => ?_);refine region_sk [0] [] hF fun C hC => ?_;clear hF;refine za rfl rfl rfl ?_;refine hC _ (fun a hF => ?_);clear hC C;refine seq_end ?_;replace hF := hF.kp [1, 3, 4, 5, 8] rfl;refine hK _ _ ?_;clear hK;(try clear K)
  refine wp_block ?_
  have han : l.an ≤ 60 := by omega
  refine loop_fr (fun n a' w' => ∃ (k : Nat) (v2 : Int), k + n = l.an ∧ 0 ≤ v2 ∧ v2 ≤ v + k ∧ FrF 119 [] [(1, .pointer (some ⟨gh, 0, none⟩)), (3, .int .i64 v2), (4, .int .i64 i), (5, .pointer (some ⟨gl, 0, none⟩)), (8, .int .i64 k)] a' ∧ Hid (Below w.heap.size w w') ∧ Hid (HallIn w' gh h) ∧ Hid (LevIn w' gl l)) l.an ⟨0, v, by omega, hv0, by omega, hF, HB, HX, HY⟩ ?_
  clear hF HB HX HY
  rintro rj a w5 ⟨k, v2, hkk, hv20, hv21, hF, HB, HX, HY⟩ KE hKE
  obtain ⟨_, _, _, d3, _, _, _, _⟩ := HY.out.cells
  refine wp_seq_k (fun K hK => ?_);refine wp_seq_k (fun K hK => ?_)
  by_cases hltk : k < l.an
  rotate_left
  · refine region_sk [0, 1, 2, 3, 4] [] hF fun C hC => ?_;clear hF;refine zm rfl rfl rfl ?_;refine zs1 5 rfl rfl ?_;refine zs1 102 rfl rfl ?_;refine zs1 103 rfl rfl ?_;refine zs2 101 104 rfl rfl rfl ?_;refine hC _ (fun a hF => ?_);clear hC C;refine seq_end ?_;replace hF := hF.kp [1, 3, 4, 5, 8, 105] rfl;refine hK _ _ ?_;clear hK;(try clear K)
    refine cond_no hF rfl ?_
    refine wp_exit ?_
    exact hKC _ _ ⟨v2, hv20, by omega, hF.sub ⟨rfl, rfl, rfl, trivial⟩, HB, HX, HLF⟩
  refine region_sk [0, 1, 2, 3, 4] [] hF fun C hC => ?_;clear hF;refine zm rfl rfl rfl ?_;refine zs1 5 rfl rfl ?_;refine zs1 102 rfl rfl ?_;refine zs1 103 rfl rfl ?_;refine zs2 101 104 rfl rfl rfl ?_;refine hC _ (fun a hF => ?_);clear hC C;refine seq_end ?_;replace hF := hF.kp [1, 3, 4, 5, 8, 105] rfl;refine hK _ _ ?_;clear hK;(try clear K)
  refine cond_yes hF rfl ?_
  refine wp_skip ?_
  refine hK _ _ ?_;clear hK;(try clear K);replace hF := hF.kp [1, 3, 4, 5, 8] rfl
  clear hKC
  have hkl : k < l.areas.length := by rw [HLV.out.areas.1]; exact hltk
  have hki : (k : Int) < l.an := by omega
  obtain ⟨b2, o2, haa, f0, f1, f2, f3, f4, f5, f6⟩ := area_at (HLV.out.areas.below HB.out) k hltk hkl
  refine seq_cut (fun a' w' => ∃ v3 : Int, 0 ≤ v3 ∧ v3 ≤ v2 + 1 ∧ FrF 119 [] [(1, .pointer (some ⟨gh, 0, none⟩)), (3, .int .i64 v3), (4, .int .i64 i), (5, .pointer (some ⟨gl, 0, none⟩)), (8, .int .i64 k)] a' ∧ Hid (Below w.heap.size w w') ∧ Hid (HallIn w' gh h) ∧ Hid (LevIn w' gl l)) (fun KF hKF => ?_) ?_
  rotate_left
  · clear hF HB HX HY d3 f0 f1 f2 f3 f4 f5 f6 haa
    rintro a w' ⟨v3, hv30, hv31, hF, HB, HX, HY⟩
    have hws : IntKind.i64.wrap ((k : Int) + 1) = ((k + 1 : Nat) : Int) := wrap_succ (by omega)
    refine region_sk [0, 1, 2] [] hF fun C hC => ?_;clear hF;refine zm rfl rfl rfl ?_;refine zs1 106 rfl rfl ?_;refine za rfl rfl rfl ?_;refine hC _ (fun a hF => ?_);clear hC C;refine seq_end ?_;replace hF := hF.kp [1, 3, 4, 5, 8] rfl
    exact hKE (l.an - (k + 1)) _ _ (by omega) ⟨k + 1, v3, by omega, hv30, by omega, hF, HB, HX, HY⟩
  clear hKE
  generalize l.areas[k] = ar at *
  refine wp_block ?_
  refine wp_seq_k (fun K hK => ?_)
  by_cases h60h : 60 < ar.holds
  · have hhb : decide (60 < ar.holds) = true := decide_eq_true h60h
    refine region_sk [0, 1, 2, 3, 4, 5, 6] [] hF fun C hC => ?_;clear hF;refine zs1 5 rfl rfl ?_;refine zs1 108 rfl rfl ?_;refine zm rfl rfl rfl ?_;refine zs2 109 110 rfl rfl rfl ?_;refine zs1 111 rfl rfl ?_;refine zs1 112 rfl rfl ?_;refine zs1 113 rfl rfl ?_;refine hC _ (fun a hF => ?_);clear hC C;refine seq_end ?_;replace hF := hF.kp [1, 3, 4, 5, 8, 114] rfl;refine hK _ _ ?_;clear hK;(try clear K)
    refine cond_yes hF rfl ?_
    clear hhb f0 f1 f2 f3 f4 f5 f6 haa d3
    have hws : IntKind.i64.wrap (v2 + 1) = v2 + 1 := wrap_in (by omega) (by omega)
    refine region_sk [0, 1, 2] [] hF fun C hC => ?_;clear hF;refine zm rfl rfl rfl ?_;refine zs1 115 rfl rfl ?_;refine za rfl rfl rfl ?_;refine hC _ (fun a hF => ?_);clear hC C;refine seq_end ?_;replace hF := hF.kp [1, 3, 4, 5, 8] rfl
    exact hKF _ _ ⟨v2 + 1, by omega, by omega, hF, HB, HX, HY⟩
  have hhb : decide (60 < ar.holds) = false := decide_eq_false h60h
  refine region_sk [0, 1, 2, 3, 4, 5, 6] [] hF fun C hC => ?_;clear hF;refine zs1 5 rfl rfl ?_;refine zs1 108 rfl rfl ?_;refine zm rfl rfl rfl ?_;refine zs2 109 110 rfl rfl rfl ?_;refine zs1 111 rfl rfl ?_;refine zs1 112 rfl rfl ?_;refine zs1 113 rfl rfl ?_;refine hC _ (fun a hF => ?_);clear hC C;refine seq_end ?_;replace hF := hF.kp [1, 3, 4, 5, 8, 114] rfl;refine hK _ _ ?_;clear hK;(try clear K)
  refine cond_no hF rfl ?_
  refine wp_skip ?_
  exact hKF _ _ ⟨v2, hv20, by omega, hF.sub ⟨rfl, rfl, rfl, rfl, rfl, trivial⟩, HB, HX, HY⟩
end Go.Proofs.Ytmcdhggnpfhlmaa
