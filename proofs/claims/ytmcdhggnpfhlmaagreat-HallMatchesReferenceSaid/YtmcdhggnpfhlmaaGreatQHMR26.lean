/- hall: foyerref10.Few: the walk; What an argument's reading gives the walks of halls. -/
import Derived.Test.YtmcdhggnpfhlmaaGreatQHMR11
import Derived.Test.YtmcdhggnpfhlmaaGreatQHMR15
import Derived.Test.YtmcdhggnpfhlmaaGreatQHMR25
import Derived.Test.YtmcdhggnpfhlmaaGreatRows
import Derived.ProofKit
import Derived.OpenShut
import Derived.ChangeOld
import Derived.Below
import Derived.Deep.SlicePairs
import Derived.Deep.Slices
import Derived.Lib.SmallJoins
import Derived.ChangeMaps5
import Derived.SizedLaws

set_option linter.unusedVariables false
set_option linter.unusedSimpArgs false
namespace Go.Proofs.YtmcdhggnpfhlmaaGreat
open Go.RowKit Go.IntWalk
set_option linter.unusedSimpArgs false
set_option linter.unusedVariables false

def BlkFew (b : BlkR) : Prop := b.rn ≤ 8 ∧ ∀ r ∈ b.rows, r.mn ≤ 70
def LevFew (l : LevR) : Prop := l.bn ≤ 6 ∧ l.sn + l.pn + l.dn + l.an ≤ 60 ∧ ∀ b ∈ l.blocks, BlkFew b
def FewOk (h : HallR) : Prop := h.ln ≤ 12 ∧ ∀ l ∈ h.levels, LevFew l
/-- Go's own bound on lengths. -/
def Reach (h : HallR) : Prop := ∀ l ∈ h.levels, l.sn ≤ 1000000000000000 ∧ l.pn ≤ 1000000000000000 ∧ l.dn ≤ 1000000000000000 ∧ l.an ≤ 1000000000000000
theorem FewOk.sm {h : HallR} (hf : FewOk h) : h.Sm :=
 ⟨hf.1, fun l hl => ⟨(hf.2 l hl).1, (hf.2 l hl).2.1⟩, fun l hl b hb => ((hf.2 l hl).2.2 b hb).1, fun l hl b hb r hr => by have := ((hf.2 l hl).2.2 b hb).2 r hr; omega⟩

set_option maxRecDepth 100000 in
set_option maxHeartbeats 16000000 in
theorem few_any (w : World) (h : HallR) (hh : h.In w) (hre : Reach h) :
  Calls Tryz.prog 5 #[.agg #[.string (bs h.name), .int .i64 h.stage.x, .int .i64 h.stage.y, .slice h.la h.ln h.lc]] w fun e w' => ∃ b, e = .returned (.bool b) ∧ (b = true → FewOk h) ∧ Below w.heap.size w w' := by
 have HH := Lib.hid hh
 have HRE := Lib.hid hre
 have HLL : Hid (h.levels.length = h.ln) := hh.levels.1
 have hln := hh.ln
 clear hh hre
 refine enter_fr (N := 119) [.agg #[.string (bs h.name), .int .i64 h.stage.x, .int .i64 h.stage.y, .slice h.la h.ln h.lc]] (Tryz.func5) rfl Tryz.ntmps5 (by rfl) (fun a hF => ?_);replace hF := hF.kp [0] rfl;refine wp_seq_k (fun K hK => ?_);refine region_seq (l := [0, 1]) (by kernel_rfl) ?_;refine seq_one ?_;revert hF;refine qe1 fun a hF => ?_;revert hF;refine zre 1 [2] [1] fun a hF => ?_;refine hK _ _ ?_;clear hK
 have HX : Hid (HallIn (w.alloc (.cells #[.string (bs h.name), .int .i64 h.stage.x, .int .i64 h.stage.y, .slice h.la h.ln h.lc] 26)) w.heap.size h) := World.alloc_heap_new w _
 have HB : Hid (Below w.heap.size w (w.alloc (.cells #[.string (bs h.name), .int .i64 h.stage.x, .int .i64 h.stage.y, .slice h.la h.ln h.lc] 26))) := Joins.below_alloc1 w _
 generalize w.alloc (.cells #[.string (bs h.name), .int .i64 h.stage.x, .int .i64 h.stage.y, .slice h.la h.ln h.lc] 26) = w1 at *
 obtain ⟨gh, hgh⟩ : ∃ g, g = w.heap.size := ⟨_, rfl⟩
 rw [← hgh] at hF HX
 clear hgh
 obtain ⟨_, _, _, c3⟩ := HX.out.cells
 refine wp_seq_k (fun K hK => ?_)
 by_cases h12 : 12 < h.ln
 ·
  have h12i : (12 : Int) < h.ln := by omega
  revert hF;refine zrs [4, 4, 4, 4] [1, 12] fun a hF => ?_
  refine cond_yes hF rfl ?_
  revert hF;refine zrs [2] [2] fun a hF => ?_;refine wp_ret ?_;(try simp only [then_ret, block_ret, goto_ret]);revert hF;refine zq ?_
  exact ⟨false, rfl, (fun e => by cases e), HB.out⟩
 have h12i : ¬ (12 : Int) < h.ln := by omega
 revert hF;refine zrs [4, 4, 4, 4] [1, 12] fun a hF => ?_
 refine cond_no hF rfl ?_
 refine wp_skip ?_
 refine hK _ _ ?_;clear hK
 clear h12i c3
 revert hF;refine zrs [2] [1, 3] fun a hF => ?_;refine wp_seq_k (fun KA hKA => ?_);revert hF;refine zrs [2] [1, 3, 4] fun a hF => ?_
 refine wp_block ?_
 refine loop_fr (fun n a' w' => ∃ (i : Nat) (v : Int), i + n = h.ln ∧ 0 ≤ v ∧ v ≤ i * 60 ∧ FrF 119 [] [(1, .pointer (some ⟨gh, 0, none⟩)), (3, .int .i64 v), (4, .int .i64 i)] a' ∧ Hid (Below w.heap.size w w') ∧ Hid (HallIn w' gh h) ∧ Hid (∀ j (hj : j < h.levels.length), j < i → LevFew h.levels[j])) h.ln ⟨0, 0, by omega, by omega, by omega, hF, HB, HX, fun j _ hj => absurd hj (Nat.not_lt_zero _)⟩ ?_
 clear hF HB HX
 rintro rk a w2 ⟨i, v, hik, hv0, hv1, hF, HB, HX, HP⟩ KB hKB
 obtain ⟨_, _, _, c3⟩ := HX.out.cells
 refine wp_seq_k (fun K hK => ?_)
 by_cases hlt : i < h.ln
 rotate_left
 ·
  revert hF;refine zrs [1, 4, 4, 4, 5] [1, 3, 4, 17] fun a hF => ?_
  refine cond_no hF rfl ?_
  refine wp_exit ?_
  refine hKA _ _ ?_;clear hKA
  clear c3
  have HFW : Hid (FewOk h) := ⟨by omega, fun l hl => by
   obtain ⟨j, hj, rfl⟩ := List.mem_iff_getElem.1 hl
   exact HP.out j hj (by have := HLL.out; omega)⟩
  revert hF;refine zrs [1, 4, 2] [2] fun a hF => ?_;refine wp_ret ?_;(try simp only [then_ret, block_ret, goto_ret]);revert hF;refine zq ?_
  exact ⟨_, rfl, fun _ => HFW.out, HB.out⟩
 revert hF;refine zrs [1, 4, 4, 4, 5] [1, 3, 4, 17] fun a hF => ?_
 refine cond_yes hF rfl ?_
 refine wp_skip ?_
 refine hK _ _ ?_;clear hK
 clear hKA
 have hil : i < h.levels.length := by rw [HLL.out]; exact hlt
 have hii : (i : Int) < h.ln := by omega
 obtain ⟨bb, oo, hla, d0, d1, d2, d3, d4, d5, d6, d7⟩ := lev_at (HH.out.levels.below HB.out) i hlt hil
 have HPN : Hid (LevFew h.levels[i] → ∀ j (hj : j < h.levels.length), j < i + 1 → LevFew h.levels[j]) := fun hh j hj hji => by
  by_cases e : j = i
  ·
   subst e; exact hh
  ·
   exact HP.out j hj (by omega)
 refine seq_cut (fun a' w' => ∃ v2 : Int, 0 ≤ v2 ∧ v2 ≤ v + 60 ∧ FrF 119 [] [(1, .pointer (some ⟨gh, 0, none⟩)), (3, .int .i64 v2), (4, .int .i64 i)] a' ∧ Hid (Below w.heap.size w w') ∧ Hid (HallIn w' gh h) ∧ Hid (LevFew h.levels[i])) (fun KC hKC => ?_) ?_
 rotate_left
 ·
  clear hF HB HX HP c3 d0 d1 d2 d3 d4 d5 d6 d7 hla
  rintro a w' ⟨v2, hv20, hv21, hF, HB, HX, HO⟩
  have hws : IntKind.i64.wrap ((i : Int) + 1) = ((i + 1 : Nat) : Int) := wrap_succ (by omega)
  revert hF;refine zrg [1, 4, 2] [1, 3, 4] fun a hF => ?_
  exact hKB (h.ln - (i + 1)) _ _ (by omega) ⟨i + 1, v2, by omega, hv20, by omega, hF, HB, HX, HPN.out HO.out⟩
 clear hKB hik HP HPN
 have hlm : h.levels[i] ∈ h.levels := List.getElem_mem hil
 have HLV := Lib.hid (HH.out.lev _ hlm)
 obtain ⟨r1, r2, r3, r4⟩ := HRE.out _ hlm
 clear hlm
 generalize h.levels[i] = l at *
 refine wp_block ?_
 refine wp_seq_k (fun K hK => ?_);revert hF;refine zrp [4, 4, 1, 5, 4] [5, 6] fun a hF => ?_;refine seq_one ?_;revert hF;refine qe0 fun a hF => ?_;refine seq_one ?_;revert hF;refine qu2 fun a hF => ?_;refine seq_end ?_;replace hF := hF.kp [1, 3, 4, 5] rfl;refine hK _ _ ?_;clear hK
 have HY : Hid (LevIn (w2.alloc (.cells #[.string (bs l.name), .int .i64 l.height, .slice l.ba l.bn l.bc, .slice l.aa l.an l.ac, .slice l.sa l.sn l.sc, .slice l.pa l.pn l.pc, .slice l.da l.dn l.dc, .int .i64 l.at'] 32)) w2.heap.size l) := World.alloc_heap_new w2 _
 have hba := Joins.below_alloc1 w2 (.cells #[.string (bs l.name), .int .i64 l.height, .slice l.ba l.bn l.bc, .slice l.aa l.an l.ac, .slice l.sa l.sn l.sc, .slice l.pa l.pn l.pc, .slice l.da l.dn l.dc, .int .i64 l.at'] 32)
 have HB3 : Hid (Below w.heap.size w (w2.alloc (.cells #[.string (bs l.name), .int .i64 l.height, .slice l.ba l.bn l.bc, .slice l.aa l.an l.ac, .slice l.sa l.sn l.sc, .slice l.pa l.pn l.pc, .slice l.da l.dn l.dc, .int .i64 l.at'] 32))) := HB.out.trans (hba.mono HB.out.size)
 have HX3 := Lib.hid (HX.out.down hba)
 clear HB HX c3 d0 d1 d2 d3 d4 d5 d6 d7 hla hba
 generalize w2.alloc (.cells #[.string (bs l.name), .int .i64 l.height, .slice l.ba l.bn l.bc, .slice l.aa l.an l.ac, .slice l.sa l.sn l.sc, .slice l.pa l.pn l.pc, .slice l.da l.dn l.dc, .int .i64 l.at'] 32) = w3 at *
 obtain ⟨gl, hgl⟩ : ∃ g, g = w2.heap.size := ⟨_, rfl⟩
 rw [← hgl] at hF HY
 clear hgl
 obtain ⟨d0, _, d2, d3, d4, d5, d6, _⟩ := HY.out.cells
 refine wp_seq_k (fun K hK => ?_)
 by_cases h6 : 6 < l.bn
 ·
  have h6i : (6 : Int) < l.bn := by omega
  revert hF;refine zrs [4, 4, 4, 4, 1, 0, 0, 0, 0, 0, 0, 0, 0, 0, 0, 0, 0, 0, 0, 0, 0, 5, 1, 0, 0, 0, 0, 5] [1, 3, 4, 5, 52] fun a hF => ?_
  refine cond_yes hF rfl ?_
  revert hF;refine zrs [2] [2] fun a hF => ?_;refine wp_ret ?_;(try simp only [then_ret, block_ret, goto_ret]);revert hF;refine zq ?_
  exact ⟨false, rfl, (fun e => by cases e), HB3.out⟩
 have h6i : ¬ (6 : Int) < l.bn := by omega
 have hw1 : IntKind.i64.wrap ((l.sn : Int) + (l.pn : Int)) = (l.sn : Int) + (l.pn : Int) := wrap_in (by omega) (by omega)
 have hw2 : IntKind.i64.wrap ((l.sn : Int) + (l.pn : Int) + (l.dn : Int)) = (l.sn : Int) + (l.pn : Int) + (l.dn : Int) := wrap_in (by omega) (by omega)
 have hw3 : IntKind.i64.wrap ((l.sn : Int) + (l.pn : Int) + (l.dn : Int) + (l.an : Int)) = (l.sn : Int) + (l.pn : Int) + (l.dn : Int) + (l.an : Int) := wrap_in (by omega) (by omega)
 by_cases h60 : 60 < l.sn + l.pn + l.dn + l.an
 ·
  have h60i : (60 : Int) < (l.sn : Int) + (l.pn : Int) + (l.dn : Int) + (l.an : Int) := by omega
  revert hF;refine zrs [4, 4, 4, 4, 1, 4, 4, 4, 4, 4, 4, 5, 4, 4, 4, 5, 4, 4, 4, 5, 4, 5, 1, 0, 0, 0, 0, 5] [1, 3, 4, 5, 52] fun a hF => ?_
  refine cond_yes hF rfl ?_
  revert hF;refine zrs [2] [2] fun a hF => ?_;refine wp_ret ?_;(try simp only [then_ret, block_ret, goto_ret]);revert hF;refine zq ?_
  exact ⟨false, rfl, (fun e => by cases e), HB3.out⟩
 have h60i : ¬ (60 : Int) < (l.sn : Int) + (l.pn : Int) + (l.dn : Int) + (l.an : Int) := by omega
 obtain ⟨nz, hnz⟩ : ∃ n, (bs l.name).size = n := ⟨_, rfl⟩
 by_cases h200 : 200 < nz
 ·
  have h200i : (200 : Int) < nz := by omega
  revert hF;refine zrs [4, 4, 4, 4, 1, 4, 4, 4, 4, 4, 4, 5, 4, 4, 4, 5, 4, 4, 4, 5, 4, 5, 1, 4, 4, 4, 4, 5] [1, 3, 4, 5, 52] fun a hF => ?_
  refine cond_yes hF rfl ?_
  revert hF;refine zrs [2] [2] fun a hF => ?_;refine wp_ret ?_;(try simp only [then_ret, block_ret, goto_ret]);revert hF;refine zq ?_
  exact ⟨false, rfl, (fun e => by cases e), HB3.out⟩
 have h200i : ¬ (200 : Int) < nz := by omega
 revert hF;refine zrs [4, 4, 4, 4, 1, 4, 4, 4, 4, 4, 4, 5, 4, 4, 4, 5, 4, 4, 4, 5, 4, 5, 1, 4, 4, 4, 4, 5] [1, 3, 4, 5, 52] fun a hF => ?_
 refine cond_no hF rfl ?_
 refine wp_skip ?_
 refine hK _ _ ?_;clear hK
 clear h6i hw1 hw2 hw3 h60i h200i h200 hnz d0 d2 d3 d4 d5 d6
 replace hF := hF.kp [1, 3, 4, 5] rfl
 -- blocks
 refine seq_cut (fun a' w' => FrF 119 [] [(1, .pointer (some ⟨gh, 0, none⟩)), (3, .int .i64 v), (4, .int .i64 i), (5, .pointer (some ⟨gl, 0, none⟩))] a' ∧ Hid (Below w.heap.size w w') ∧ Hid (HallIn w' gh h) ∧ Hid (LevIn w' gl l) ∧ Hid (∀ b ∈ l.blocks, BlkFew b)) (fun KD hKD => ?_) ?_
 ·
  clear hKC
  revert hF;refine zrs [2] [1, 3, 4, 5, 6] fun a hF => ?_
  refine wp_block ?_
  refine loop_fr (fun n a' w' => ∃ k : Nat, k + n = l.bn ∧ FrF 119 [] [(1, .pointer (some ⟨gh, 0, none⟩)), (3, .int .i64 v), (4, .int .i64 i), (5, .pointer (some ⟨gl, 0, none⟩)), (6, .int .i64 k)] a' ∧ Hid (Below w.heap.size w w') ∧ Hid (HallIn w' gh h) ∧ Hid (LevIn w' gl l) ∧ Hid (∀ j (hj : j < l.blocks.length), j < k → BlkFew l.blocks[j])) l.bn ⟨0, by omega, hF, HB3, HX3, HY, fun j _ hj => absurd hj (Nat.not_lt_zero _)⟩ ?_
  clear hF HB3 HX3 HY
  rintro rj a w4 ⟨k, hkk, hF, HB, HX, HY, HP⟩ KE hKE
  obtain ⟨_, _, d2, _, _, _, _, _⟩ := HY.out.cells
  refine wp_seq_k (fun K hK => ?_)
  by_cases hltk : k < l.bn
  rotate_left
  ·
   revert hF;refine zrs [1, 4, 4, 4, 5] [1, 3, 4, 5, 6, 57] fun a hF => ?_
   refine cond_no hF rfl ?_
   refine wp_exit ?_
   refine hKD _ _ ⟨hF.sub ⟨rfl, rfl, rfl, rfl, trivial⟩, HB, HX, HY, fun b hb => ?_⟩
   obtain ⟨j, hj, rfl⟩ := List.mem_iff_getElem.1 hb
   exact HP.out j hj (by have := HLV.out.blocks.1; omega)
  revert hF;refine zrs [1, 4, 4, 4, 5] [1, 3, 4, 5, 6, 57] fun a hF => ?_
  refine cond_yes hF rfl ?_
  refine wp_skip ?_
  refine hK _ _ ?_;clear hK;replace hF := hF.kp [1, 3, 4, 5, 6] rfl
  clear hKD
  have hkl : k < l.blocks.length := by rw [HLV.out.blocks.1]; exact hltk
  have hki : (k : Int) < l.bn := by omega
  have HPN : Hid (BlkFew l.blocks[k] → ∀ j (hj : j < l.blocks.length), j < k + 1 → BlkFew l.blocks[j]) := fun hh j hj hji => by
   by_cases e : j = k
   ·
    subst e; exact hh
   ·
    exact HP.out j hj (by omega)
  refine seq_cut (fun a' w' => FrF 119 [] [(1, .pointer (some ⟨gh, 0, none⟩)), (3, .int .i64 v), (4, .int .i64 i), (5, .pointer (some ⟨gl, 0, none⟩)), (6, .int .i64 k)] a' ∧ Hid (Below w.heap.size w w') ∧ Hid (HallIn w' gh h) ∧ Hid (LevIn w' gl l) ∧ Hid (BlkFew l.blocks[k])) (fun KF hKF => ?_) ?_
  rotate_left
  ·
   clear hF HB HX HY HP d2
   rintro a w' ⟨hF, HB, HX, HY, HO⟩
   have hws : IntKind.i64.wrap ((k : Int) + 1) = ((k + 1 : Nat) : Int) := wrap_succ (by omega)
   revert hF;refine zrg [1, 4, 2] [1, 3, 4, 5, 6] fun a hF => ?_
   exact hKE (l.bn - (k + 1)) _ _ (by omega) ⟨k + 1, by omega, hF, HB, HX, HY, HPN.out HO.out⟩
  clear hKE hkk HP HPN
  obtain ⟨bb, oo, hba, e0, e1, e2⟩ := blk_at (HLV.out.blocks.below HB.out) k hltk hkl
  have HBV := Lib.hid (HLV.out.blk _ (List.getElem_mem hkl))
  have HBA := Lib.hid (fun wx (hb : Below w.heap.size w wx) => blk_at (HLV.out.blocks.below hb) k hltk hkl)
  generalize l.blocks[k] = b at *
  refine wp_block ?_
  refine wp_seq_k (fun K hK => ?_)
  by_cases h8 : 8 < b.rn
  ·
   have h8i : (8 : Int) < b.rn := by omega
   revert hF;refine zrs [4, 4, 1, 5, 4, 4, 4, 4, 1, 0, 0, 0, 0, 0, 0, 0, 0, 5] [1, 3, 4, 5, 6, 77] fun a hF => ?_
   refine cond_yes hF rfl ?_
   revert hF;refine zrs [2] [2] fun a hF => ?_;refine wp_ret ?_;(try simp only [then_ret, block_ret, goto_ret]);revert hF;refine zq ?_
   exact ⟨false, rfl, (fun e => by cases e), HB.out⟩
  have h8i : ¬ (8 : Int) < b.rn := by omega
  obtain ⟨nz, hnz⟩ : ∃ n, (bs b.name).size = n := ⟨_, rfl⟩
  by_cases h200 : 200 < nz
  ·
   have h200i : (200 : Int) < nz := by omega
   revert hF;refine zrs [4, 4, 1, 5, 4, 4, 4, 4, 1, 4, 4, 1, 5, 4, 4, 4, 4, 5] [1, 3, 4, 5, 6, 77] fun a hF => ?_
   refine cond_yes hF rfl ?_
   revert hF;refine zrs [2] [2] fun a hF => ?_;refine wp_ret ?_;(try simp only [then_ret, block_ret, goto_ret]);revert hF;refine zq ?_
   exact ⟨false, rfl, (fun e => by cases e), HB.out⟩
  have h200i : ¬ (200 : Int) < nz := by omega
  revert hF;refine zrs [4, 4, 1, 5, 4, 4, 4, 4, 1, 4, 4, 1, 5, 4, 4, 4, 4, 5] [1, 3, 4, 5, 6, 77] fun a hF => ?_
  refine cond_no hF rfl ?_
  refine wp_skip ?_
  refine hK _ _ ?_;clear hK;replace hF := hF.kp [1, 3, 4, 5, 6] rfl
  clear h8i h200i h200 hnz d2 e0 e1 e2 hba
  revert hF;refine zrs [2] [1, 3, 4, 5, 6, 7] fun a hF => ?_
  refine wp_block ?_
  refine loop_fr (fun n a' w' => ∃ m : Nat, m + n = b.rn ∧ FrF 119 [] [(1, .pointer (some ⟨gh, 0, none⟩)), (3, .int .i64 v), (4, .int .i64 i), (5, .pointer (some ⟨gl, 0, none⟩)), (6, .int .i64 k), (7, .int .i64 m)] a' ∧ Hid (Below w.heap.size w w') ∧ Hid (HallIn w' gh h) ∧ Hid (LevIn w' gl l) ∧ Hid (∀ j (hj : j < b.rows.length), j < m → b.rows[j].mn ≤ 70)) b.rn ⟨0, by omega, hF, HB, HX, HY, fun j _ hj => absurd hj (Nat.not_lt_zero _)⟩ ?_
  clear hF HB HX HY
  rintro rm a w5 ⟨m, hmk, hF, HB, HX, HY, HP⟩ KG hKG
  obtain ⟨_, _, d2, _, _, _, _, _⟩ := HY.out.cells
  obtain ⟨bb, oo, hba, e0, e1, e2⟩ := HBA.out w5 HB.out
  refine wp_seq_k (fun K hK => ?_)
  by_cases hltm : m < b.rn
  rotate_left
  ·
   revert hF;refine zrs [1, 4, 4, 1, 5, 4, 4, 4, 5] [1, 3, 4, 5, 6, 7, 86] fun a hF => ?_
   refine cond_no hF rfl ?_
   refine wp_exit ?_
   refine hKF _ _ ⟨hF.sub ⟨rfl, rfl, rfl, rfl, rfl, trivial⟩, HB, HX, HY, by omega, fun r hr => ?_⟩
   obtain ⟨j, hj, rfl⟩ := List.mem_iff_getElem.1 hr
   exact HP.out j hj (by have := HBV.out.1.1; omega)
  revert hF;refine zrs [1, 4, 4, 1, 5, 4, 4, 4, 5] [1, 3, 4, 5, 6, 7, 86] fun a hF => ?_
  refine cond_yes hF rfl ?_
  refine wp_skip ?_
  refine hK _ _ ?_;clear hK;replace hF := hF.kp [1, 3, 4, 5, 6, 7] rfl
  clear hKF
  have hml : m < b.rows.length := by rw [HBV.out.1.1]; exact hltm
  have hmi : (m : Int) < b.rn := by omega
  have HPN : Hid (b.rows[m].mn ≤ 70 → ∀ j (hj : j < b.rows.length), j < m + 1 → b.rows[j].mn ≤ 70) := fun hh j hj hji => by
   by_cases e : j = m
   ·
    subst e; exact hh
   ·
    exact HP.out j hj (by omega)
  obtain ⟨b2, o2, hra, f0, f1, f2, f3, f4, f5, f6, f7⟩ := row_at (HBV.out.1.below HB.out) m hltm hml
  refine seq_cut (fun a' w' => FrF 119 [] [(1, .pointer (some ⟨gh, 0, none⟩)), (3, .int .i64 v), (4, .int .i64 i), (5, .pointer (some ⟨gl, 0, none⟩)), (6, .int .i64 k), (7, .int .i64 m)] a' ∧ Hid (Below w.heap.size w w') ∧ Hid (HallIn w' gh h) ∧ Hid (LevIn w' gl l) ∧ Hid (b.rows[m].mn ≤ 70)) (fun KI hKI => ?_) ?_
  rotate_left
  ·
   clear hF HB HX HY HP d2 e0 e1 e2 hba f0 f1 f2 f3 f4 f5 f6 f7 hra
   rintro a w' ⟨hF, HB, HX, HY, HO⟩
   have hws : IntKind.i64.wrap ((m : Int) + 1) = ((m + 1 : Nat) : Int) := wrap_succ (by omega)
   revert hF;refine zrg [1, 4, 2] [1, 3, 4, 5, 6, 7] fun a hF => ?_
   exact hKG (b.rn - (m + 1)) _ _ (by omega) ⟨m + 1, by omega, hF, HB, HX, HY, HPN.out HO.out⟩
  clear hKG hmk HP HPN
  generalize b.rows[m] = r at *
  refine wp_block ?_
  by_cases h70 : 70 < r.mn
  ·
   have h70i : (70 : Int) < r.mn := by omega
   revert hF;refine zrs [4, 4, 1, 5, 4, 4, 1, 5, 4, 4, 4, 4] [1, 3, 4, 5, 6, 7, 100] fun a hF => ?_
   refine cond_yes hF rfl ?_
   revert hF;refine zrs [2] [2] fun a hF => ?_;refine wp_ret ?_;(try simp only [then_ret, block_ret, goto_ret]);revert hF;refine zq ?_
   exact ⟨false, rfl, (fun e => by cases e), HB.out⟩
  have h70i : ¬ (70 : Int) < r.mn := by omega
  revert hF;refine zrs [4, 4, 1, 5, 4, 4, 1, 5, 4, 4, 4, 4] [1, 3, 4, 5, 6, 7, 100] fun a hF => ?_
  refine cond_no hF rfl ?_
  refine wp_skip ?_
  exact hKI _ _ ⟨hF.sub ⟨rfl, rfl, rfl, rfl, rfl, rfl, trivial⟩, HB, HX, HY, by show _ ≤ _; omega⟩
 clear hF HB3 HX3 HY
 rintro a w4 ⟨hF, HB, HX, HY, HBF⟩
 have HLF : Hid (LevFew l) := ⟨by omega, by omega, HBF.out⟩
 clear HBF
 -- areas
 revert hF;refine zrs [2] [1, 3, 4, 5, 8] fun a hF => ?_
 refine wp_block ?_
 have han : l.an ≤ 60 := by omega
 refine loop_fr (fun n a' w' => ∃ (k : Nat) (v2 : Int), k + n = l.an ∧ 0 ≤ v2 ∧ v2 ≤ v + k ∧ FrF 119 [] [(1, .pointer (some ⟨gh, 0, none⟩)), (3, .int .i64 v2), (4, .int .i64 i), (5, .pointer (some ⟨gl, 0, none⟩)), (8, .int .i64 k)] a' ∧ Hid (Below w.heap.size w w') ∧ Hid (HallIn w' gh h) ∧ Hid (LevIn w' gl l)) l.an ⟨0, v, by omega, hv0, by omega, hF, HB, HX, HY⟩ ?_
 clear hF HB HX HY
 rintro rj a w5 ⟨k, v2, hkk, hv20, hv21, hF, HB, HX, HY⟩ KE hKE
 obtain ⟨_, _, _, d3, _, _, _, _⟩ := HY.out.cells
 refine wp_seq_k (fun K hK => ?_)
 by_cases hltk : k < l.an
 rotate_left
 ·
  revert hF;refine zrs [1, 4, 4, 4, 5] [1, 3, 4, 5, 8, 105] fun a hF => ?_
  refine cond_no hF rfl ?_
  refine wp_exit ?_
  exact hKC _ _ ⟨v2, hv20, by omega, hF.sub ⟨rfl, rfl, rfl, trivial⟩, HB, HX, HLF⟩
 revert hF;refine zrs [1, 4, 4, 4, 5] [1, 3, 4, 5, 8, 105] fun a hF => ?_
 refine cond_yes hF rfl ?_
 refine wp_skip ?_
 refine hK _ _ ?_;clear hK;replace hF := hF.kp [1, 3, 4, 5, 8] rfl
 clear hKC
 have hkl : k < l.areas.length := by rw [HLV.out.areas.1]; exact hltk
 have hki : (k : Int) < l.an := by omega
 obtain ⟨b2, o2, haa, f0, f1, f2, f3, f4, f5, f6⟩ := area_at (HLV.out.areas.below HB.out) k hltk hkl
 refine seq_cut (fun a' w' => ∃ v3 : Int, 0 ≤ v3 ∧ v3 ≤ v2 + 1 ∧ FrF 119 [] [(1, .pointer (some ⟨gh, 0, none⟩)), (3, .int .i64 v3), (4, .int .i64 i), (5, .pointer (some ⟨gl, 0, none⟩)), (8, .int .i64 k)] a' ∧ Hid (Below w.heap.size w w') ∧ Hid (HallIn w' gh h) ∧ Hid (LevIn w' gl l)) (fun KF hKF => ?_) ?_
 rotate_left
 ·
  clear hF HB HX HY d3 f0 f1 f2 f3 f4 f5 f6 haa
  rintro a w' ⟨v3, hv30, hv31, hF, HB, HX, HY⟩
  have hws : IntKind.i64.wrap ((k : Int) + 1) = ((k + 1 : Nat) : Int) := wrap_succ (by omega)
  revert hF;refine zrg [1, 4, 2] [1, 3, 4, 5, 8] fun a hF => ?_
  exact hKE (l.an - (k + 1)) _ _ (by omega) ⟨k + 1, v3, by omega, hv30, by omega, hF, HB, HX, HY⟩
 clear hKE
 generalize l.areas[k] = ar at *
 refine wp_block ?_
 by_cases h60h : 60 < ar.holds
 ·
  have hhb : decide (60 < ar.holds) = true := decide_eq_true h60h
  revert hF;refine zrs [4, 4, 1, 5, 4, 4, 4] [1, 3, 4, 5, 8, 114] fun a hF => ?_
  refine cond_yes hF rfl ?_
  clear hhb f0 f1 f2 f3 f4 f5 f6 haa d3
  have hws : IntKind.i64.wrap (v2 + 1) = v2 + 1 := wrap_in (by omega) (by omega)
  revert hF;refine zrg [1, 4, 2] [1, 3, 4, 5, 8] fun a hF => ?_
  exact hKF _ _ ⟨v2 + 1, by omega, by omega, hF, HB, HX, HY⟩
 have hhb : decide (60 < ar.holds) = false := decide_eq_false h60h
 revert hF;refine zrs [4, 4, 1, 5, 4, 4, 4] [1, 3, 4, 5, 8, 114] fun a hF => ?_
 refine cond_no hF rfl ?_
 refine wp_skip ?_
 exact hKF _ _ ⟨v2, hv20, by omega, hF.sub ⟨rfl, rfl, rfl, rfl, rfl, trivial⟩, HB, HX, HY⟩
end Go.Proofs.YtmcdhggnpfhlmaaGreat

namespace Go.Proofs.YtmcdhggnpfhlmaaGreat
open Go.ChangeShapes Go.WideShapes Go.ChangeAt Go.RowKit Go.Deep Go.Joins Go.IntWalk
set_option linter.unusedSimpArgs false

section
variable {H : Type} {enc : TypeId × Value → H} {w : World} {base : Nat} {held : Bool}

theorem add_whole (b o k : Nat) : (⟨b, o, none⟩ : Addr).add k = ⟨b, o + k, none⟩ := by
 unfold Addr.add; split
 ·
  subst_vars; rfl
 ·
  rfl
theorem whole_of {b o : Nat} {s} {v : Value} (h : w.cell? ((Addr.mk b o s).add 0) = some v) : s = none := by
 simpa [Addr.add] using World.cell?_spot h

/-- What the form grants of a datum's room. -/
def Room (P : Program) (t : TypeId) (d : DataW H) : Prop := ∀ n ∈ d.weights P t, n ≤ reachBytes

theorem weights_mem_all {P : Program} {e : TypeId} : ∀ {ds : List (DataW H)} {d : DataW H}, d ∈ ds → ∀ n ∈ d.weights P e, n ∈ DataW.weightsAll P e ds
 | y :: ds, d, h, n, hn => by
  simp only [DataW.weightsAll, List.mem_append]
  rcases List.mem_cons.1 h with rfl | h
  ·
   exact Or.inl hn
  ·
   exact Or.inr (weights_mem_all h n hn)

theorem recs_room {α : Type} {k : Nat} [Inhabited α] (E : Enc α k) {ts te : TypeId} {bytes : Nat} (ht : Tryz.prog.underlying ts = some (.slice te)) (hk : Tryz.prog.cellsOf te = k) (hby : Tryz.prog.bytesOf te = bytes) (p : α → Prop)
  (hcell : ∀ (fuel : Nat) (cs : List Value) (x : DataW H × List MemPlace), DataW.trod enc Tryz.prog w base (fun _ => true) held fuel te cs = some x → Room Tryz.prog te x.1 → ∃ a, cs = E.cells a ∧ p a)
  {fuel : Nat} {v : Value} {x : DataW H × List MemPlace} (h : DataW.trod enc Tryz.prog w base (fun _ => true) held fuel ts [v] = some x) (hw : Room Tryz.prog ts x.1) :
  ∃ (ra : Option Addr) (n c : Nat) (l : List α), v = .slice ra n c ∧ n ≤ 9223372036854775807 ∧ n * bytes ≤ 140737488351232 ∧ n ≤ c ∧ Recs E w ra n l ∧ (ra = none → c = 0) ∧ ∀ a ∈ l, p a := by
 rcases open_slice ht h with ⟨hcs, _⟩ | ⟨a, len, cap, m, fu, D, P0, hcs, _, hl, hm, hmm, hxx, hx⟩
 ·
  simp at hcs
  subst hcs
  exact ⟨none, 0, 0, [], rfl, by omega, by omega, by omega, Recs.none _, fun _ => rfl, fun i hi => by cases hi⟩
 ·
  simp at hcs
  subst hcs
  simp only [if_true] at hmm
  subst hmm
  obtain ⟨b, o, s⟩ := a
  unfold maxLen at hm
  rw [hk] at hx
  rw [hxx] at hw
  unfold Room at hw
  simp only [DataW.weights, ht, List.mem_cons, List.mem_append] at hw
  have hsz := hw _ (Or.inl rfl)
  rw [hby, List.length_map, List.length_range] at hsz
  have hsz2 : len * bytes ≤ 140737488351232 := by
   have h2 : len * bytes ≤ (len + ((List.range (m - len)).map fun j => D (len + j)).length) * bytes := Nat.mul_le_mul_right _ (by omega)
   unfold reachBytes at hsz
   omega
  obtain ⟨F, hF⟩ := choose_lt (α := α) (p := fun i q => w.cells? base ((Addr.mk b o s).add (i * k)) k = some (E.cells q) ∧ p q) (n := len) (fun i hi => by
   obtain ⟨cs', h1, h2⟩ := hx i (by omega)
   obtain ⟨q, rfl, h3⟩ := hcell _ _ _ h2 (fun n hn => hw n (Or.inr (Or.inl (weights_mem_all (List.mem_map.2 ⟨i, List.mem_range.2 hi, rfl⟩) n hn))))
   exact ⟨q, h1, h3⟩)
  have hlen : ((List.range len).map F).length = len := by simp
  have hget : ∀ i (hi : i < len), ((List.range len).map F)[i]'(by rw [hlen]; exact hi) = F i := fun i hi => by simp
  refine ⟨some ⟨b, o, s⟩, len, m, (List.range len).map F, rfl, by omega, hsz2, hl, ⟨hlen, fun i hi => ?_⟩, (fun e => by cases e), fun q hq => ?_⟩
  ·
   have hs : s = none := by
    obtain ⟨_, _, hc⟩ := World.cells?_some (hF 0 (by omega)).1
    have := hc 0 (by have := E.pos; omega)
    have h0 : 0 < (E.cells (F 0)).length := by rw [E.len]; exact E.pos
    rw [add_add, List.getElem?_eq_getElem h0, Nat.zero_mul, Nat.add_zero] at this
    exact whole_of this
   subst hs
   refine ⟨b, o, rfl, fun j hj => ?_⟩
   obtain ⟨_, _, hc⟩ := World.cells?_some (hF i hi).1
   have := hc j hj
   have hj' : j < (E.cells (F i)).length := by rw [E.len]; exact hj
   rw [add_add, add_whole, List.getElem?_eq_getElem hj'] at this
   rw [Nat.add_assoc, this, rc_eq _ _ (by rw [hlen]; exact hi), hget i hi, List.getD_eq_getElem?_getD, List.getElem?_eq_getElem hj']
   rfl
  ·
   obtain ⟨i, hi, rfl⟩ := List.mem_map.mp hq
   exact (hF i (List.mem_range.mp hi)).2

/-- The fields of a struct, each with its room. -/
theorem fields_room {t : TypeId} {fs : Array Field} {fuel : Nat} {cs : List Value} {x : DataW H × List MemPlace} (ht : Tryz.prog.underlying t = some (.struct fs)) (h : DataW.trod enc Tryz.prog w base (fun _ => true) held fuel t cs = some x) (hw : Room Tryz.prog t x.1) :
  cs.length = Tryz.prog.cellsOf t ∧ ∃ n, ∀ (i : Nat) (f : Field), fs[i]? = some f → ∃ y, DataW.trod enc Tryz.prog w base (fun _ => true) held n f.type ((cs.drop f.offset).take (Tryz.prog.cellsOf f.type)) = some y ∧ Room Tryz.prog f.type y.1 := by
 obtain ⟨xs, n, _, rfl, hl, hlen, hf⟩ := DataW.trod_struct ht h
 refine ⟨hl, n, fun i f hi => ?_⟩
 have hil : i < xs.length := by
  rw [hlen]
  exact (Array.getElem?_eq_some_iff.1 hi).1
 have h1 := hf i f hi
 rw [List.getElem?_eq_getElem hil] at h1
 refine ⟨xs[i], h1, fun m hm => hw m ?_⟩
 simp only [DataW.weights, ht]
 refine DataW.weights_mem_each (j := i) (t := f.type) (d := xs[i].1) ?_ ?_ m hm
 ·
  rw [List.getElem?_map, Array.getElem?_toList, hi]
  rfl
 ·
  rw [List.getElem?_map, List.getElem?_eq_getElem hil]
  rfl

theorem take_at {cs : List Value} {o : Nat} {c : Value} (h : cs[o]? = some c) : (cs.drop o).take 1 = [c] := by
 obtain ⟨ho, e⟩ := List.getElem?_eq_some_iff.1 h
 rw [List.drop_eq_getElem_cons ho, e]
 rfl
theorem sub_field {o k : Nat} {ty : TypeId} {cs zs : List Value} (h : (cs.drop o).take (Tryz.prog.cellsOf ty) = zs) (hc : Tryz.prog.cellsOf ty = k) : (cs.drop o).take k = zs := by
 rw [← hc]
 exact h
theorem int_field {n o : Nat} {ty : TypeId} {cs : List Value} {c : Value} {y : DataW H × List MemPlace} (h : DataW.trod enc Tryz.prog w base (fun _ => true) held n ty ((cs.drop o).take (Tryz.prog.cellsOf ty)) = some y) (ht : Tryz.prog.underlying ty = some (.int .i64)) (hc : Tryz.prog.cellsOf ty = 1) (hg : cs[o]? = some c) : ∃ k, c = .int .i64 k ∧ (Lit.int .i64 k).wf = true := by
 rw [hc, take_at hg] at h
 obtain ⟨k, e, _, hw⟩ := DataW.trod_int ht h
 simp only [List.cons.injEq, and_true] at e
 exact ⟨k, e, hw⟩
theorem str_field {n o : Nat} {ty : TypeId} {cs : List Value} {c : Value} {y : DataW H × List MemPlace} (h : DataW.trod enc Tryz.prog w base (fun _ => true) held n ty ((cs.drop o).take (Tryz.prog.cellsOf ty)) = some y) (ht : Tryz.prog.underlying ty = some .string) (hc : Tryz.prog.cellsOf ty = 1) (hg : cs[o]? = some c) : ∃ s : List UInt8, c = .string (bs s) := by
 rw [hc, take_at hg] at h
 obtain ⟨t, e, _⟩ := DataW.trod_string ht h
 simp only [List.cons.injEq, and_true] at e
 exact ⟨t.data.toList, by rw [e, ← bs_of]⟩
/-- How long a text of an argument may be. -/
abbrev NB : Nat := 140737488351232
theorem str_room {n o : Nat} {ty : TypeId} {cs : List Value} {c : Value} {y : DataW H × List MemPlace} (h : DataW.trod enc Tryz.prog w base (fun _ => true) held n ty ((cs.drop o).take (Tryz.prog.cellsOf ty)) = some y) (hw : Room Tryz.prog ty y.1) (ht : Tryz.prog.underlying ty = some .string) (hc : Tryz.prog.cellsOf ty = 1) (hg : cs[o]? = some c) : ∃ s : List UInt8, c = .string (bs s) ∧ s.length ≤ NB := by
 rw [hc, take_at hg] at h
 obtain ⟨t, e, e2, _⟩ := DataW.trod_string ht h
 simp only [List.cons.injEq, and_true] at e
 refine ⟨t.data.toList, by rw [e, ← bs_of], ?_⟩
 rw [e2] at hw
 have := hw t.data.toList.length (by simp [DataW.weights])
 unfold reachBytes at this
 exact this
theorem one_field {n o : Nat} {ty : TypeId} {cs : List Value} {c : Value} {y : DataW H × List MemPlace} (h : DataW.trod enc Tryz.prog w base (fun _ => true) held n ty ((cs.drop o).take (Tryz.prog.cellsOf ty)) = some y) (hc : Tryz.prog.cellsOf ty = 1) (hg : cs[o]? = some c) : DataW.trod enc Tryz.prog w base (fun _ => true) held n ty [c] = some y := by
 rw [hc, take_at hg] at h
 exact h

instance : Inhabited MarkR := ⟨⟨0, 0, 0⟩⟩
instance : Inhabited BoxR := ⟨⟨0, 0, 0, 0⟩⟩
instance : Inhabited PntR := ⟨⟨0, 0⟩⟩
instance : Inhabited AreaR := ⟨⟨[], default, 0, 0⟩⟩
instance : Inhabited RowR := ⟨⟨[], 0, 0, 0, 0, 0, none, 0, 0, [], 0⟩⟩
instance : Inhabited BlkR := ⟨⟨[], none, 0, 0, [], 0⟩⟩
instance : Inhabited LevR := ⟨⟨[], 0, none, 0, 0, [], none, 0, 0, [], none, 0, 0, [], none, 0, 0, [], none, 0, 0, [], 0⟩⟩

theorem wf_le {n : Int} (h : (Lit.int .i64 n).wf = true) : n ≤ 9223372036854775807 := by
 have h2 : (decide (-9223372036854775808 ≤ n) && decide (n ≤ 9223372036854775807)) = true := h
 rw [Bool.and_eq_true] at h2
 exact of_decide_eq_true h2.2

set_option maxRecDepth 100000
theorem mark_cells (fuel : Nat) (cs : List Value) (x : DataW H × List MemPlace) (h : DataW.trod enc Tryz.prog w base (fun _ => true) held fuel 46 cs = some x) (hw : Room Tryz.prog 46 x.1) :
  ∃ m : MarkR, cs = MarkE.cells m ∧ (Lit.int .i64 m.seat).wf = true ∧ (Lit.int .i64 m.wth).wf = true := by
 obtain ⟨hl, n, hf⟩ := fields_room Tryz.underlying46 h hw
 rw [show Tryz.prog.cellsOf 46 = 3 from by kernel_rfl] at hl
 match cs, hl with
 | [c0, c1, c2], _ =>
  obtain ⟨y0, h0, _⟩ := hf 0 _ rfl
  obtain ⟨y1, h1, _⟩ := hf 1 _ rfl
  obtain ⟨y2, h2, _⟩ := hf 2 _ rfl
  obtain ⟨k0, e0, w0⟩ := int_field h0 (by kernel_rfl) (by kernel_rfl) rfl
  obtain ⟨k1, e1, w1⟩ := int_field h1 (by kernel_rfl) (by kernel_rfl) rfl
  obtain ⟨k2, e2, w2⟩ := int_field h2 (by kernel_rfl) (by kernel_rfl) rfl
  subst e0 e1 e2
  exact ⟨⟨k0, k1, k2⟩, rfl, w1, w2⟩
theorem box_cells (fuel : Nat) (cs : List Value) (x : DataW H × List MemPlace) (h : DataW.trod enc Tryz.prog w base (fun _ => true) held fuel 59 cs = some x) (hw : Room Tryz.prog 59 x.1) :
  ∃ m : BoxR, cs = BoxE.cells m ∧ True := by
 obtain ⟨hl, n, hf⟩ := fields_room Tryz.underlying59 h hw
 rw [show Tryz.prog.cellsOf 59 = 4 from by kernel_rfl] at hl
 match cs, hl with
 | [c0, c1, c2, c3], _ =>
  obtain ⟨y0, h0, _⟩ := hf 0 _ rfl
  obtain ⟨y1, h1, _⟩ := hf 1 _ rfl
  obtain ⟨y2, h2, _⟩ := hf 2 _ rfl
  obtain ⟨y3, h3, _⟩ := hf 3 _ rfl
  obtain ⟨k0, e0, w0⟩ := int_field h0 (by kernel_rfl) (by kernel_rfl) rfl
  obtain ⟨k1, e1, w1⟩ := int_field h1 (by kernel_rfl) (by kernel_rfl) rfl
  obtain ⟨k2, e2, w2⟩ := int_field h2 (by kernel_rfl) (by kernel_rfl) rfl
  obtain ⟨k3, e3, w3⟩ := int_field h3 (by kernel_rfl) (by kernel_rfl) rfl
  subst e0 e1 e2 e3
  exact ⟨⟨k0, k1, k2, k3⟩, rfl, trivial⟩
theorem pnt_cells (fuel : Nat) (cs : List Value) (x : DataW H × List MemPlace) (h : DataW.trod enc Tryz.prog w base (fun _ => true) held fuel 23 cs = some x) (hw : Room Tryz.prog 23 x.1) :
  ∃ m : PntR, cs = PntE.cells m ∧ True := by
 obtain ⟨hl, n, hf⟩ := fields_room Tryz.underlying23 h hw
 rw [show Tryz.prog.cellsOf 23 = 2 from by kernel_rfl] at hl
 match cs, hl with
 | [c0, c1], _ =>
  obtain ⟨y0, h0, _⟩ := hf 0 _ rfl
  obtain ⟨y1, h1, _⟩ := hf 1 _ rfl
  obtain ⟨k0, e0, w0⟩ := int_field h0 (by kernel_rfl) (by kernel_rfl) rfl
  obtain ⟨k1, e1, w1⟩ := int_field h1 (by kernel_rfl) (by kernel_rfl) rfl
  subst e0 e1
  exact ⟨⟨k0, k1⟩, rfl, trivial⟩
theorem area_cells (fuel : Nat) (cs : List Value) (x : DataW H × List MemPlace) (h : DataW.trod enc Tryz.prog w base (fun _ => true) held fuel 61 cs = some x) (hw : Room Tryz.prog 61 x.1) :
  ∃ m : AreaR, cs = AreaE.cells m ∧ m.name.length ≤ NB := by
 obtain ⟨hl, n, hf⟩ := fields_room Tryz.underlying61 h hw
 rw [show Tryz.prog.cellsOf 61 = 7 from by kernel_rfl] at hl
 match cs, hl with
 | [c0, c1, c2, c3, c4, c5, c6], _ =>
  obtain ⟨y0, h0, r0⟩ := hf 0 _ rfl
  obtain ⟨y1, h1, r1⟩ := hf 1 _ rfl
  obtain ⟨y2, h2, _⟩ := hf 2 _ rfl
  obtain ⟨y3, h3, _⟩ := hf 3 _ rfl
  obtain ⟨s0, e0, n0⟩ := str_room h0 r0 (by kernel_rfl) (by kernel_rfl) rfl
  obtain ⟨bx, e1, _⟩ := box_cells _ _ _ h1 r1
  have e1' : [c1, c2, c3, c4] = BoxE.cells bx := sub_field (ty := 59) (k := 4) (o := 1) (cs := [c0, c1, c2, c3, c4, c5, c6]) e1 (by kernel_rfl)
  obtain ⟨k2, e2, _⟩ := int_field h2 (by kernel_rfl) (by kernel_rfl) rfl
  obtain ⟨k3, e3, _⟩ := int_field h3 (by kernel_rfl) (by kernel_rfl) rfl
  obtain ⟨b0, b1, b2, b3⟩ := bx
  have e1'' : [c1, c2, c3, c4] = [.int .i64 b0, .int .i64 b1, .int .i64 b2, .int .i64 b3] := e1'
  simp only [List.cons.injEq, and_true] at e1''
  obtain ⟨q1, q2, q3, q4⟩ := e1''
  subst e0 q1 q2 q3 q4 e2 e3
  exact ⟨⟨s0, ⟨b0, b1, b2, b3⟩, k2, k3⟩, rfl, n0⟩
theorem row_cells (fuel : Nat) (cs : List Value) (x : DataW H × List MemPlace) (h : DataW.trod enc Tryz.prog w base (fun _ => true) held fuel 49 cs = some x) (hw : Room Tryz.prog 49 x.1) :
  ∃ r : RowR, cs = RowE.cells r ∧ r.In w ∧ r.name.length ≤ NB := by
 obtain ⟨hl, n, hf⟩ := fields_room Tryz.underlying49 h hw
 rw [show Tryz.prog.cellsOf 49 = 8 from by kernel_rfl] at hl
 match cs, hl with
 | [c0, c1, c2, c3, c4, c5, c6, c7], _ =>
  obtain ⟨y0, h0, r0⟩ := hf 0 _ rfl
  obtain ⟨y1, h1, _⟩ := hf 1 _ rfl
  obtain ⟨y2, h2, _⟩ := hf 2 _ rfl
  obtain ⟨y3, h3, _⟩ := hf 3 _ rfl
  obtain ⟨y4, h4, _⟩ := hf 4 _ rfl
  obtain ⟨y5, h5, _⟩ := hf 5 _ rfl
  obtain ⟨y6, h6, r6⟩ := hf 6 _ rfl
  obtain ⟨y7, h7, _⟩ := hf 7 _ rfl
  obtain ⟨s0, e0, n0⟩ := str_room h0 r0 (by kernel_rfl) (by kernel_rfl) rfl
  obtain ⟨k1, e1, _⟩ := int_field h1 (by kernel_rfl) (by kernel_rfl) rfl
  obtain ⟨k2, e2, _⟩ := int_field h2 (by kernel_rfl) (by kernel_rfl) rfl
  obtain ⟨k3, e3, _⟩ := int_field h3 (by kernel_rfl) (by kernel_rfl) rfl
  obtain ⟨k4, e4, _⟩ := int_field h4 (by kernel_rfl) (by kernel_rfl) rfl
  obtain ⟨k5, e5, w5⟩ := int_field h5 (by kernel_rfl) (by kernel_rfl) rfl
  obtain ⟨k7, e7, _⟩ := int_field h7 (by kernel_rfl) (by kernel_rfl) rfl
  obtain ⟨ra, rn, rc', l, e6, hn, _, _, hR, h0', hp⟩ := recs_room MarkE (bytes := 24) Tryz.underlying47 (by kernel_rfl) (by kernel_rfl) (fun m => (Lit.int .i64 m.seat).wf = true ∧ (Lit.int .i64 m.wth).wf = true) mark_cells (one_field h6 (by kernel_rfl) rfl) r6
  subst e0 e1 e2 e3 e4 e5 e6 e7
  exact ⟨⟨s0, k1, k2, k3, k4, k5, ra, rn, rc', l, k7⟩, rfl, ⟨hR, hn, h0', wf_le w5, hp⟩, n0⟩
/-- The names of a block, a level. -/
def BlkNm (b : BlkR) : Prop := b.name.length ≤ NB ∧ (∀ r ∈ b.rows, r.name.length ≤ NB) ∧ (b.ra = none → b.rc = 0)
def LevNm (l : LevR) : Prop := l.name.length ≤ NB ∧ (∀ b ∈ l.blocks, BlkNm b) ∧ ∀ a ∈ l.areas, a.name.length ≤ NB
theorem blk_cells (fuel : Nat) (cs : List Value) (x : DataW H × List MemPlace) (h : DataW.trod enc Tryz.prog w base (fun _ => true) held fuel 57 cs = some x) (hw : Room Tryz.prog 57 x.1) :
  ∃ b : BlkR, cs = BlkE.cells b ∧ b.In w ∧ BlkNm b := by
 obtain ⟨hl, n, hf⟩ := fields_room Tryz.underlying57 h hw
 rw [show Tryz.prog.cellsOf 57 = 3 from by kernel_rfl] at hl
 match cs, hl with
 | [c0, c1, c2], _ =>
  obtain ⟨y0, h0, r0⟩ := hf 0 _ rfl
  obtain ⟨y1, h1, r1⟩ := hf 1 _ rfl
  obtain ⟨y2, h2, _⟩ := hf 2 _ rfl
  obtain ⟨s0, e0, n0⟩ := str_room h0 r0 (by kernel_rfl) (by kernel_rfl) rfl
  obtain ⟨k2, e2, _⟩ := int_field h2 (by kernel_rfl) (by kernel_rfl) rfl
  obtain ⟨ra, rn, rc', l, e1, hn, _, _, hR, h0', hp⟩ := recs_room RowE (bytes := 88) Tryz.underlying50 (by kernel_rfl) (by kernel_rfl) (fun r => r.In w ∧ r.name.length ≤ NB) row_cells (one_field h1 (by kernel_rfl) rfl) r1
  subst e0 e1 e2
  exact ⟨⟨s0, ra, rn, rc', l, k2⟩, rfl, ⟨hR, hn, fun r hr => (hp r hr).1⟩, n0, fun r hr => (hp r hr).2, h0'⟩
/-- What holds of an argument's level. -/
def LevGot (w : World) (l : LevR) : Prop := l.In w ∧ l.an ≤ l.ac ∧ l.sn ≤ 1000000000000000 ∧ l.pn ≤ 1000000000000000 ∧ l.dn ≤ 1000000000000000 ∧ l.an ≤ 1000000000000000
theorem lev_cells (fuel : Nat) (cs : List Value) (x : DataW H × List MemPlace) (h : DataW.trod enc Tryz.prog w base (fun _ => true) held fuel 32 cs = some x) (hw : Room Tryz.prog 32 x.1) :
  ∃ l : LevR, cs = LevE.cells l ∧ LevGot w l ∧ LevNm l := by
 obtain ⟨hl, n, hf⟩ := fields_room Tryz.underlying32 h hw
 rw [show Tryz.prog.cellsOf 32 = 8 from by kernel_rfl] at hl
 match cs, hl with
 | [c0, c1, c2, c3, c4, c5, c6, c7], _ =>
  obtain ⟨y0, h0, r0⟩ := hf 0 _ rfl
  obtain ⟨y1, h1, _⟩ := hf 1 _ rfl
  obtain ⟨y2, h2, r2⟩ := hf 2 _ rfl
  obtain ⟨y3, h3, r3⟩ := hf 3 _ rfl
  obtain ⟨y4, h4, r4⟩ := hf 4 _ rfl
  obtain ⟨y5, h5, r5⟩ := hf 5 _ rfl
  obtain ⟨y6, h6, r6⟩ := hf 6 _ rfl
  obtain ⟨y7, h7, _⟩ := hf 7 _ rfl
  obtain ⟨s0, e0, n0⟩ := str_room h0 r0 (by kernel_rfl) (by kernel_rfl) rfl
  obtain ⟨k1, e1, _⟩ := int_field h1 (by kernel_rfl) (by kernel_rfl) rfl
  obtain ⟨k7, e7, _⟩ := int_field h7 (by kernel_rfl) (by kernel_rfl) rfl
  obtain ⟨a2, n2, q2, l2, e2, m2, _, _, R2, _, P2⟩ := recs_room BlkE (bytes := 48) Tryz.underlying27 (by kernel_rfl) (by kernel_rfl) (fun b => b.In w ∧ BlkNm b) blk_cells (one_field h2 (by kernel_rfl) rfl) r2
  obtain ⟨a3, n3, q3, l3, e3, m3, z3, ac3, R3, _, P3⟩ := recs_room AreaE (bytes := 64) Tryz.underlying28 (by kernel_rfl) (by kernel_rfl) (fun a => a.name.length ≤ NB) area_cells (one_field h3 (by kernel_rfl) rfl) r3
  obtain ⟨a4, n4, q4, l4, e4, m4, z4, _, R4, c4', _⟩ := recs_room BoxE (bytes := 32) Tryz.underlying29 (by kernel_rfl) (by kernel_rfl) (fun _ => True) box_cells (one_field h4 (by kernel_rfl) rfl) r4
  obtain ⟨a5, n5, q5, l5, e5, m5, z5, _, R5, c5', _⟩ := recs_room BoxE (bytes := 32) Tryz.underlying29 (by kernel_rfl) (by kernel_rfl) (fun _ => True) box_cells (one_field h5 (by kernel_rfl) rfl) r5
  obtain ⟨a6, n6, q6, l6, e6, m6, z6, _, R6, c6', _⟩ := recs_room PntE (bytes := 16) Tryz.underlying30 (by kernel_rfl) (by kernel_rfl) (fun _ => True) pnt_cells (one_field h6 (by kernel_rfl) rfl) r6
  subst e0 e1 e2 e3 e4 e5 e6 e7
  exact ⟨⟨s0, k1, a2, n2, q2, l2, a3, n3, q3, l3, a4, n4, q4, l4, a5, n5, q5, l5, a6, n6, q6, l6, k7⟩, rfl, ⟨⟨R2, m2, fun b hb => (P2 b hb).1, R3, m3, R4, m4, R5, m5, R6, m6, c4', c5', c6'⟩, ac3, by show n4 ≤ _; omega, by show n5 ≤ _; omega, by show n6 ≤ _; omega, by show n3 ≤ _; omega⟩, n0, fun b hb => (P2 b hb).2, P3⟩

/-- What holds of an argument's hall. -/
structure HallGot (w : World) (h : HallR) : Prop where
 hin : h.In w
 ac : ∀ l ∈ h.levels, l.an ≤ l.ac
 reach : Reach h
 lc : h.ln ≤ h.lc
 nm : ∀ l ∈ h.levels, LevNm l
theorem hall_cells (fuel : Nat) (cs : List Value) (x : DataW H × List MemPlace) (h : DataW.trod enc Tryz.prog w base (fun _ => true) held fuel 26 cs = some x) (hw : Room Tryz.prog 26 x.1) :
  ∃ q : HallR, cs = [.string (bs q.name), .int .i64 q.stage.x, .int .i64 q.stage.y, .slice q.la q.ln q.lc] ∧ HallGot w q := by
 obtain ⟨hl, n, hf⟩ := fields_room Tryz.underlying26 h hw
 rw [show Tryz.prog.cellsOf 26 = 4 from by kernel_rfl] at hl
 match cs, hl with
 | [c0, c1, c2, c3], _ =>
  obtain ⟨y0, h0, _⟩ := hf 0 _ rfl
  obtain ⟨y1, h1, r1⟩ := hf 1 _ rfl
  obtain ⟨y2, h2, r2⟩ := hf 2 _ rfl
  obtain ⟨s0, e0⟩ := str_field h0 (by kernel_rfl) (by kernel_rfl) rfl
  obtain ⟨pt, e1, _⟩ := pnt_cells _ _ _ h1 r1
  obtain ⟨b0, b1⟩ := pt
  have e1' : [c1, c2] = [.int .i64 b0, .int .i64 b1] := sub_field (ty := 23) (k := 2) (o := 1) (cs := [c0, c1, c2, c3]) e1 (by kernel_rfl)
  simp only [List.cons.injEq, and_true] at e1'
  obtain ⟨q1, q2⟩ := e1'
  obtain ⟨a3, n3, q3, l3, e3, m3, _, z3, R3, _, P3⟩ := recs_room LevE (bytes := 152) Tryz.underlying24 (by kernel_rfl) (by kernel_rfl) (fun l => LevGot w l ∧ LevNm l) lev_cells (one_field h2 (by kernel_rfl) rfl) r2
  subst e0 q1 q2 e3
  exact ⟨⟨s0, ⟨b0, b1⟩, a3, n3, q3, l3⟩, rfl, ⟨R3, m3, fun l hl => (P3 l hl).1.1⟩, fun l hl => (P3 l hl).1.2.1, fun l hl => (P3 l hl).1.2.2, z3, fun l hl => (P3 l hl).2⟩


theorem hall_arg {r : Go.Reach} {b0 : Nat} {v : Value} {d : DataW H} {p : List MemPlace} (hv : Value.okWide Tryz.prog w r b0 26 v)
  (h : DataW.Trod enc Tryz.prog w base (fun _ => true) held 26 v d p) {ts : List TypeId} {ds : List (DataW H)} (hw : (DataW.weightsEach Tryz.prog ts ds).all (· ≤ reachBytes) = true) {j : Nat} (ht : ts[j]? = some 26) (hd : ds[j]? = some d) :
  ∃ q : HallR, v = .agg #[.string (bs q.name), .int .i64 q.stage.x, .int .i64 q.stage.y, .slice q.la q.ln q.lc] ∧ HallGot w q := by
 obtain ⟨cs, rfl, hsz⟩ := okWide_struct Tryz.underlying26 hv
 obtain ⟨fuel, hf⟩ := h
 obtain ⟨q, hc, hg⟩ := hall_cells _ _ _ hf (fun n hn => by
  have := List.all_eq_true.1 hw n (DataW.weights_mem_each ht hd n hn)
  simpa using this)
 refine ⟨q, ?_, hg⟩
 obtain ⟨l⟩ := cs
 have : l = [.string (bs q.name), .int .i64 q.stage.x, .int .i64 q.stage.y, .slice q.la q.ln q.lc] := by simpa [Value.cells] using hc
 subst this
 rfl
theorem room_of {v : Value} {t : TypeId} {d : DataW H} {p : List MemPlace} (h : DataW.Trod enc Tryz.prog w base (fun _ => true) held t v d p) {ts : List TypeId} {ds : List (DataW H)} (hw : (DataW.weightsEach Tryz.prog ts ds).all (· ≤ reachBytes) = true) {j : Nat} (ht : ts[j]? = some t) (hd : ds[j]? = some d) :
  ∃ fuel, DataW.trod enc Tryz.prog w base (fun _ => true) held fuel t v.cells.toList = some (d, p) ∧ Room Tryz.prog t d := by
 obtain ⟨fuel, hf⟩ := h
 exact ⟨fuel, hf, fun n hn => by
  have := List.all_eq_true.1 hw n (DataW.weights_mem_each ht hd n hn)
  simpa using this⟩
theorem level_arg {r : Go.Reach} {b0 : Nat} {v : Value} {d : DataW H} {p : List MemPlace} (hv : Value.okWide Tryz.prog w r b0 32 v)
  (h : DataW.Trod enc Tryz.prog w base (fun _ => true) held 32 v d p) {ts : List TypeId} {ds : List (DataW H)} (hw : (DataW.weightsEach Tryz.prog ts ds).all (· ≤ reachBytes) = true) {j : Nat} (ht : ts[j]? = some 32) (hd : ds[j]? = some d) :
  ∃ l : LevR, v = .agg #[.string (bs l.name), .int .i64 l.height, .slice l.ba l.bn l.bc, .slice l.aa l.an l.ac, .slice l.sa l.sn l.sc, .slice l.pa l.pn l.pc, .slice l.da l.dn l.dc, .int .i64 l.at'] ∧ LevGot w l := by
 obtain ⟨cs, rfl, hsz⟩ := okWide_struct Tryz.underlying32 hv
 obtain ⟨fuel, hf, hr⟩ := room_of h hw ht hd
 obtain ⟨q, hc, hg, _⟩ := lev_cells _ _ _ hf hr
 refine ⟨q, ?_, hg⟩
 obtain ⟨l⟩ := cs
 have : l = LevE.cells q := by simpa [Value.cells] using hc
 subst this
 rfl
end
end Go.Proofs.YtmcdhggnpfhlmaaGreat
