/- hall: the faults of single things, one after the other: plain; hall: the checker's walk; Frames by what is known of their slots: a result that lies in a variable; hall: mark. -/
import Derived.Test.YtmcdhggnpfhlmaaGreatQHMR01
import Derived.Test.YtmcdhggnpfhlmaaGreatQHMR09

set_option linter.unusedVariables false
set_option linter.unusedSimpArgs false
namespace Go.Proofs.YtmcdhggnpfhlmaaGreat

/-- What the first k give. -/
def atF {α β : Type} (xs : List α) (f : α × Nat → List β) (k : Nat) : List β := (List.range k).flatMap fun j => ((xs[j]?).map fun x => f (x, j)).getD []
theorem atF_zero {α β : Type} (xs : List α) (f : α × Nat → List β) : atF xs f 0 = [] := rfl
theorem atF_next {α β : Type} {xs : List α} (f : α × Nat → List β) {k : Nat} (h : k < xs.length) : atF xs f (k + 1) = atF xs f k ++ f (xs[k], k) := by
 unfold atF
 rw [List.range_succ, List.flatMap_append]
 simp [h]
theorem zip_range {α β : Type} (f : α × Nat → List β) : ∀ (xs : List α) (s : Nat), (xs.zipIdx s).flatMap f = (List.range xs.length).flatMap fun j => ((xs[j]?).map fun x => f (x, s + j)).getD []
 | [], s => rfl
 | x :: xs, s => by
  rw [List.zipIdx_cons, List.flatMap_cons, zip_range f xs (s + 1), List.length_cons, List.range_succ_eq_map, List.flatMap_cons, List.flatMap_map]
  simp only [List.getElem?_cons_zero, Option.map_some, Option.getD_some, List.getElem?_cons_succ, Nat.add_zero]
  congr 1
  congr 1
  funext j
  rw [show s + 1 + j = s + (j + 1) from by omega]
theorem atF_all {α β : Type} (xs : List α) (f : α × Nat → List β) : atF xs f xs.length = xs.zipIdx.flatMap f := by
 rw [zip_range f xs 0]
 unfold atF
 simp only [Nat.zero_add]
theorem atF_len {α β : Type} {xs : List α} {f : α × Nat → List β} {c : Nat} (hf : ∀ x ∈ xs, ∀ j, (f (x, j)).length ≤ c) : ∀ k, (atF xs f k).length ≤ k * c
 | 0 => Nat.zero_le _
 | k + 1 => by
  have ih := atF_len hf k
  unfold atF at *
  rw [List.range_succ, List.flatMap_append, List.length_append]
  have : (List.flatMap (fun j => ((xs[j]?).map fun x => f (x, j)).getD []) [k]).length ≤ c := by
   simp only [List.flatMap_cons, List.flatMap_nil, List.append_nil]
   by_cases h : k < xs.length
   ·
    simp only [List.getElem?_eq_getElem h, Option.map_some, Option.getD_some]
    exact hf _ (List.getElem_mem h) k
   ·
    simp [List.getElem?_eq_none (Nat.le_of_not_lt h)]
  rw [Nat.add_mul]
  omega

def fR (b : BlkR) : RowR × Nat → List FaultR := fun rk => rowFault b.rows rk.2 rk.1
def fB (l : LevR) : BlkR × Nat → List FaultR := fun bi => blockFault l.blocks bi.2 bi.1 ++ bi.1.rows.zipIdx.flatMap (fR bi.1)
def fA (l : LevR) : AreaR × Nat → List FaultR := fun ai => areaFault l ai.2 ai.1
def fL (h : HallR) : LevR × Nat → List FaultR := fun ln => levelFault h.levels ln.2 ln.1 ++ ln.1.blocks.zipIdx.flatMap (fB ln.1) ++ ln.1.areas.zipIdx.flatMap (fA ln.1)
theorem single_eq (h : HallR) : singleS h = atF h.levels (fL h) h.levels.length := by
 rw [atF_all]
 rfl

/-- A plan that is small enough. -/
structure HallR.Sm (h : HallR) : Prop where
 ln : h.ln ≤ 12
 lev : ∀ l ∈ h.levels, l.Sm
 rn : ∀ l ∈ h.levels, ∀ b ∈ l.blocks, b.rn ≤ 8
 mn : ∀ l ∈ h.levels, ∀ b ∈ l.blocks, ∀ r ∈ b.rows, r.mn ≤ 1000

theorem levelFault_len (ls : List LevR) (n : Nat) (l : LevR) : (levelFault ls n l).length ≤ 1 := by
 unfold levelFault
 dsimp only
 repeat' split
 all_goals simp
theorem blockFault_len (bs : List BlkR) (n : Nat) (b : BlkR) : (blockFault bs n b).length ≤ 1 := by
 unfold blockFault
 dsimp only
 repeat' split
 all_goals simp
theorem areaFault_len (l : LevR) (n : Nat) (a : AreaR) : (areaFault l n a).length ≤ 1 := by
 unfold areaFault
 dsimp only
 repeat' split
 all_goals simp
theorem rowFault_len (rs : List RowR) (n : Nat) (r : RowR) : (rowFault rs n r).length ≤ 1 := by
 unfold rowFault
 dsimp only
 repeat' split
 all_goals simp
theorem fB_len {l : LevR} {b : BlkR} (hb : b.rows.length ≤ 8) (j : Nat) : (fB l (b, j)).length ≤ 9 := by
 unfold fB
 rw [List.length_append, ← atF_all]
 have h1 := blockFault_len l.blocks j b
 have h2 := atF_len (xs := b.rows) (f := fR b) (c := 1) (fun x _ j => rowFault_len _ _ _) b.rows.length
 dsimp only at *
 omega
theorem fL_len {h : HallR} {l : LevR} (h1 : l.blocks.length ≤ 6) (h2 : l.areas.length ≤ 60) (h3 : ∀ b ∈ l.blocks, b.rows.length ≤ 8) (j : Nat) : (fL h (l, j)).length ≤ 200 := by
 unfold fL
 dsimp only
 rw [List.length_append, List.length_append, ← atF_all, ← atF_all]
 have e1 := levelFault_len h.levels j l
 have e2 := atF_len (xs := l.blocks) (f := fB l) (c := 9) (fun x hx j => fB_len (h3 x hx) j) l.blocks.length
 have e3 := atF_len (xs := l.areas) (f := fA l) (c := 1) (fun x _ j => areaFault_len _ _ _) l.areas.length
 omega
end Go.Proofs.YtmcdhggnpfhlmaaGreat

namespace Go.Proofs.YtmcdhggnpfhlmaaGreat
open Go.RowKit Go.IntWalk
set_option linter.unusedSimpArgs false
set_option linter.unusedVariables false

theorem LevIn.tupd {S : TypeId → Prop} {w w' : World} {g : Nat} {l : LevR} (h : LevIn w g l) (ht : TUpd S w w') (hS : ¬ S 32) : LevIn w' g l := ht.keep h hS
theorem BlkIn.tupd {S : TypeId → Prop} {w w' : World} {g : Nat} {b : BlkR} (h : BlkIn w g b) (ht : TUpd S w w') (hS : ¬ S 57) : BlkIn w' g b := ht.keep h hS
theorem chk_lev : ¬ ChkT 32 := by unfold ChkT; decide
theorem chk_blk : ¬ ChkT 57 := by unfold ChkT; decide

set_option maxRecDepth 100000 in
set_option maxHeartbeats 40000000 in
theorem walk_any (w0 : World) (h : HallR) (g : Nat) (w : World) (L : List FaultR) (hc : Chk w0 h g w L) (hL : L.length ≤ 700000) (hi : h.In w0) (hsm : h.Sm) :
  Calls Tryz.prog 13 #[.pointer (some ⟨g, 0, none⟩), .func (.func 14) #[.pointer (some ⟨g, 0, none⟩)] #[], .func (.func 15) #[.pointer (some ⟨g, 0, none⟩)] #[], .func (.func 16) #[.pointer (some ⟨g, 0, none⟩)] #[], .func (.func 17) #[.pointer (some ⟨g, 0, none⟩)] #[]] w fun en w' => en = .returned (.tuple #[]) ∧ Chk w0 h g w' (L ++ singleS h) ∧ TUpd ChkT w w' := by
 have HC0 := Lib.hid hc
 have HI := Lib.hid hi
 have HSM := Lib.hid hsm
 have HLL := Lib.hid hi.levels.1
 have hln : h.ln ≤ 12 := hsm.ln
 have c3 := hc.cell3
 have HLB : Hid (∀ l ∈ h.levels, l.blocks.length = l.bn ∧ l.areas.length = l.an ∧ l.bn ≤ 6 ∧ l.an ≤ 60 ∧ ∀ b ∈ l.blocks, b.rows.length = b.rn ∧ b.rn ≤ 8) := fun l hl => by
  have h1 := hi.lev l hl
  have h2 := hsm.lev l hl
  have h3 := h2.rest
  exact ⟨h1.blocks.1, h1.areas.1, h2.b, by omega, fun b hb => ⟨(h1.blk b hb).1.1, hsm.rn l hl b hb⟩⟩
 have HA : Hid (∀ i, (atF h.levels (fL h) i).length ≤ i * 200) := atF_len fun l hl j => by
  obtain ⟨e1, e2, e3, e4, e5⟩ := HLB.out l hl
  exact fL_len (by omega) (by omega) (fun b hb => by have := e5 b hb; omega) j
 clear hc hi hsm
 refine enter_fr (N := 67) [.pointer (some ⟨g, 0, none⟩), .func (.func 14) #[.pointer (some ⟨g, 0, none⟩)] #[], .func (.func 15) #[.pointer (some ⟨g, 0, none⟩)] #[], .func (.func 16) #[.pointer (some ⟨g, 0, none⟩)] #[], .func (.func 17) #[.pointer (some ⟨g, 0, none⟩)] #[]] (Tryz.func13) rfl Tryz.ntmps13 (by rfl) (fun a hF => ?_);replace hF := hF.kp [0, 1, 2, 3, 4] rfl;revert hF;refine zrs [1, 4, 4, 4, 4, 4, 1] [1, 2, 3, 4, 20, 21, 22] fun a hF => ?_
 refine wp_block ?_
 refine loop_fr (fun n a' w' => ∃ i : Nat, i + n = h.ln ∧ FrF 67 [] [(1, .func (.func 14) #[.pointer (some ⟨g, 0, none⟩)] #[]), (2, .func (.func 15) #[.pointer (some ⟨g, 0, none⟩)] #[]), (3, .func (.func 16) #[.pointer (some ⟨g, 0, none⟩)] #[]), (4, .func (.func 17) #[.pointer (some ⟨g, 0, none⟩)] #[]), (20, .slice h.la h.ln h.lc), (21, .int .i64 h.ln), (22, .int .i64 i)] a' ∧ Hid (Chk w0 h g w' (L ++ atF h.levels (fL h) i)) ∧ Hid (TUpd ChkT w w')) h.ln ⟨0, by omega, hF, by rw [atF_zero, List.append_nil]; exact HC0, TUpd.refl _ _⟩ ?_
 clear hF HC0 c3
 rintro rk a wr ⟨i, hik, hF, HC, HT⟩ KB hKB
 by_cases hlt : i < h.ln
 rotate_left
 ·
  revert hF;refine zrs [5] [1, 2, 3, 4, 20, 21, 22, 23] fun a hF => ?_;refine wp_seq_k (fun K hK => ?_)
  refine cond_no hF rfl ?_
  refine wp_exit ?_
  (try simp only [then_exit, block_exit, block_norm, goto_norm, ↓reduceIte, Nat.reduceEqDiff]);refine end_fr (fn := Tryz.f13) (rs := []) rfl [] hF trivial ?_
  have hie : i = h.levels.length := by rw [HLL.out]; omega
  refine ⟨rfl, ?_, HT.out⟩
  rw [single_eq, ← hie]
  exact HC.out
 revert hF;refine zrs [5] [1, 2, 3, 4, 20, 21, 22, 23] fun a hF => ?_;refine wp_seq_k (fun K hK => ?_)
 refine cond_yes hF rfl ?_
 refine wp_skip ?_
 refine hK _ _ ?_;clear hK;replace hF := hF.kp [1, 2, 3, 4, 20, 21, 22] rfl
 have hil : i < h.levels.length := by rw [HLL.out]; exact hlt
 have hii : (i : Int) < h.ln := by omega
 have HAN := Lib.hid (atF_next (fL h) hil)
 have HAI := Lib.hid (HA.out i)
 obtain ⟨bb, oo, hla, c0, c1, c2, c3, c4, c5, c6, c7⟩ := lev_at (HI.out.levels.below HC.out.below) i hlt hil
 refine seq_cut (fun a' w' => FrF 67 [] [(1, .func (.func 14) #[.pointer (some ⟨g, 0, none⟩)] #[]), (2, .func (.func 15) #[.pointer (some ⟨g, 0, none⟩)] #[]), (3, .func (.func 16) #[.pointer (some ⟨g, 0, none⟩)] #[]), (4, .func (.func 17) #[.pointer (some ⟨g, 0, none⟩)] #[]), (20, .slice h.la h.ln h.lc), (21, .int .i64 h.ln), (22, .int .i64 i)] a' ∧ Hid (Chk w0 h g w' (L ++ atF h.levels (fL h) (i + 1))) ∧ Hid (TUpd ChkT w w')) (fun KC hKC => ?_) ?_
 rotate_left
 ·
  clear hF HC HT c0 c1 c2 c3 c4 c5 c6 c7 hla
  rintro a w' ⟨hF, HC, HT⟩
  have hws : IntKind.i64.wrap ((i : Int) + 1) = ((i + 1 : Nat) : Int) := wrap_succ (by omega)
  revert hF;refine zrg [4, 1] [1, 2, 3, 4, 20, 21, 22] fun a hF => ?_
  exact hKB (h.ln - (i + 1)) _ _ (by omega) ⟨i + 1, by omega, hF, HC, HT⟩
 clear hKB hik
 have hlm : h.levels[i] ∈ h.levels := List.getElem_mem hil
 have HLV := Lib.hid (HI.out.lev _ hlm)
 have HLS := Lib.hid (HLB.out _ hlm)
 have HLSM := Lib.hid (HSM.out.lev _ hlm)
 have HMN := Lib.hid (HSM.out.mn _ hlm)
 have HLE : Hid (h.levels[i]? = some h.levels[i]) := List.getElem?_eq_getElem hil
 have HLA : Hid (∀ wx, Chk w0 h g wx (L ++ atF h.levels (fL h) i) → Calls Tryz.prog 14 #[.pointer (some ⟨g, 0, none⟩), .int .i64 i] wx fun en w' => en = .returned (.tuple #[]) ∧ Chk w0 h g w' (L ++ atF h.levels (fL h) i ++ levelFault h.levels i h.levels[i]) ∧ TUpd ChkT wx w') := fun wx hc => level_any w0 h g wx _ i hc (by have := HAI.out; rw [List.length_append]; omega) HI.out hil HLSM.out
 clear HLSM hlm
 generalize h.levels[i] = l at *
 refine wp_block ?_
 refine wp_seq_k (fun K hK => ?_);revert hF;refine zrp [1, 5, 4] [3, 4, 5] fun a hF => ?_;refine seq_one ?_;revert hF;refine qe0 fun a hF => ?_;revert hF;refine zrc 4 [2] [5] fun a hF => ?_;refine seq_one ?_;revert hF;refine qu2 fun a hF => ?_;refine seq_end ?_;replace hF := hF.kp [1, 2, 3, 4, 10, 11, 20, 21, 22] rfl;refine hK _ _ ?_;clear hK
 have HX : Hid (LevIn (wr.alloc (.cells #[.string (bs l.name), .int .i64 l.height, .slice l.ba l.bn l.bc, .slice l.aa l.an l.ac, .slice l.sa l.sn l.sc, .slice l.pa l.pn l.pc, .slice l.da l.dn l.dc, .int .i64 l.at'] 32)) wr.heap.size l) := World.alloc_heap_new wr _
 have HBa := Lib.hid (Joins.below_alloc1 wr (.cells #[.string (bs l.name), .int .i64 l.height, .slice l.ba l.bn l.bc, .slice l.aa l.an l.ac, .slice l.sa l.sn l.sc, .slice l.pa l.pn l.pc, .slice l.da l.dn l.dc, .int .i64 l.at'] 32))
 have HC2 := Lib.hid (HC.out.down HBa.out)
 have HT2 : Hid (TUpd ChkT w (wr.alloc (.cells #[.string (bs l.name), .int .i64 l.height, .slice l.ba l.bn l.bc, .slice l.aa l.an l.ac, .slice l.sa l.sn l.sc, .slice l.pa l.pn l.pc, .slice l.da l.dn l.dc, .int .i64 l.at'] 32))) := HT.out.trans (TUpd.of_below HBa.out)
 clear HC HT HBa c0 c1 c2 c3 c4 c5 c6 c7 hla
 generalize wr.alloc (.cells #[.string (bs l.name), .int .i64 l.height, .slice l.ba l.bn l.bc, .slice l.aa l.an l.ac, .slice l.sa l.sn l.sc, .slice l.pa l.pn l.pc, .slice l.da l.dn l.dc, .int .i64 l.at'] 32) = w2 at *
 obtain ⟨gl, hgl⟩ : ∃ gl, gl = wr.heap.size := ⟨_, rfl⟩
 rw [← hgl] at hF HX
 clear hgl
 refine wp_seq_k (fun K hK => ?_);revert hF;refine zrp [1, 1] [2] fun a hF => ?_;refine seq_one ?_;refine op_callv [_] _ _ rfl rfl hF rfl rfl (by first | assumption | kernel_rfl) ⟨rfl, trivial⟩ (fun K hK => ?_);clear hF
 refine (HLA.out w2 HC2.out).mono ?_
 rintro en w3 ⟨rfl, hc3, ht3⟩
 have HC3 := Lib.hid hc3
 have HT3 : Hid (TUpd ChkT w w3) := HT2.out.trans ht3
 have HX3 := Lib.hid (HX.out.tupd ht3 chk_lev)
 clear hc3 ht3 HC2 HT2 HX HLA
 refine hK _ _ (fun a hF => ?_);clear hK K;refine seq_end ?_;replace hF := hF.kp [1, 2, 3, 4, 10, 11, 20, 21, 22] rfl;refine hK _ _ ?_;clear hK
 have HLN1 : Hid ((levelFault h.levels i l).length ≤ 1) := levelFault_len _ _ _
 have hbn : l.bn ≤ 6 := HLS.out.2.2.1
 have han : l.an ≤ 60 := HLS.out.2.2.2.1
 have HAB : Hid (∀ j, (atF l.blocks (fB l) j).length ≤ j * 9) := atF_len fun b hb j => by
  obtain ⟨e1, e2, e3, e4, e5⟩ := HLS.out
  exact fB_len (by have := e5 b hb; omega) j
 refine seq_cut (fun a' w' => FrF 67 [] [(1, .func (.func 14) #[.pointer (some ⟨g, 0, none⟩)] #[]), (2, .func (.func 15) #[.pointer (some ⟨g, 0, none⟩)] #[]), (3, .func (.func 16) #[.pointer (some ⟨g, 0, none⟩)] #[]), (4, .func (.func 17) #[.pointer (some ⟨g, 0, none⟩)] #[]), (10, .int .i64 i), (11, .pointer (some ⟨gl, 0, none⟩)), (20, .slice h.la h.ln h.lc), (21, .int .i64 h.ln), (22, .int .i64 i)] a' ∧ Hid (Chk w0 h g w' (L ++ atF h.levels (fL h) i ++ levelFault h.levels i l ++ atF l.blocks (fB l) (l.blocks.length))) ∧ Hid (TUpd ChkT w w') ∧ Hid (LevIn w' gl l)) (fun KD hKD => ?_) ?_
 ·
  clear hKC
  obtain ⟨d0, d1, d2, d3, d4, d5, d6, d7⟩ := HX3.out.cells
  revert hF;refine zrs [4, 4, 4, 1] [1, 2, 3, 4, 10, 11, 20, 21, 22, 31, 32, 33] fun a hF => ?_
  refine wp_block ?_
  refine loop_fr (fun n a' w' => ∃ j : Nat, j + n = l.bn ∧ FrF 67 [] [(1, .func (.func 14) #[.pointer (some ⟨g, 0, none⟩)] #[]), (2, .func (.func 15) #[.pointer (some ⟨g, 0, none⟩)] #[]), (3, .func (.func 16) #[.pointer (some ⟨g, 0, none⟩)] #[]), (4, .func (.func 17) #[.pointer (some ⟨g, 0, none⟩)] #[]), (10, .int .i64 i), (11, .pointer (some ⟨gl, 0, none⟩)), (20, .slice h.la h.ln h.lc), (21, .int .i64 h.ln), (22, .int .i64 i), (31, .slice l.ba l.bn l.bc), (32, .int .i64 l.bn), (33, .int .i64 j)] a' ∧ Hid (Chk w0 h g w' (L ++ atF h.levels (fL h) i ++ levelFault h.levels i l ++ atF l.blocks (fB l) (j))) ∧ Hid (TUpd ChkT w w') ∧ Hid (LevIn w' gl l)) l.bn ⟨0, by omega, hF, by rw [atF_zero, List.append_nil]; exact HC3, HT3, HX3⟩ ?_
  clear hF HC3 HT3 HX3 d0 d1 d2 d3 d4 d5 d6 d7
  rintro rj a w4 ⟨j, hjk, hF, HC, HT, HX⟩ KE hKE
  by_cases hltj : j < l.bn
  rotate_left
  ·
   revert hF;refine zrs [5] [1, 2, 3, 4, 10, 11, 20, 21, 22, 31, 32, 33, 34] fun a hF => ?_;refine wp_seq_k (fun K hK => ?_)
   refine cond_no hF rfl ?_
   refine wp_exit ?_
   have hje : l.blocks.length = j := by rw [HLS.out.1]; omega
   rw [hje] at hKD
   exact hKD _ _ ⟨hF.sub ⟨rfl, rfl, rfl, rfl, rfl, rfl, rfl, rfl, rfl, trivial⟩, HC, HT, HX⟩
  revert hF;refine zrs [5] [1, 2, 3, 4, 10, 11, 20, 21, 22, 31, 32, 33, 34] fun a hF => ?_;refine wp_seq_k (fun K hK => ?_)
  refine cond_yes hF rfl ?_
  refine wp_skip ?_
  refine hK _ _ ?_;clear hK;replace hF := hF.kp [1, 2, 3, 4, 10, 11, 20, 21, 22, 31, 32, 33] rfl
  clear hKD
  have hjl : j < l.blocks.length := by rw [HLS.out.1]; exact hltj
  have hji : (j : Int) < l.bn := by omega
  have HAN2 := Lib.hid (atF_next (fB l) hjl)
  have HABJ := Lib.hid (HAB.out j)
  obtain ⟨bb, oo, hba, c0, c1, c2⟩ := blk_at (HLV.out.blocks.below HC.out.below) j hltj hjl
  refine seq_cut (fun a' w' => FrF 67 [] [(1, .func (.func 14) #[.pointer (some ⟨g, 0, none⟩)] #[]), (2, .func (.func 15) #[.pointer (some ⟨g, 0, none⟩)] #[]), (3, .func (.func 16) #[.pointer (some ⟨g, 0, none⟩)] #[]), (4, .func (.func 17) #[.pointer (some ⟨g, 0, none⟩)] #[]), (10, .int .i64 i), (11, .pointer (some ⟨gl, 0, none⟩)), (20, .slice h.la h.ln h.lc), (21, .int .i64 h.ln), (22, .int .i64 i), (31, .slice l.ba l.bn l.bc), (32, .int .i64 l.bn), (33, .int .i64 j)] a' ∧ Hid (Chk w0 h g w' (L ++ atF h.levels (fL h) i ++ levelFault h.levels i l ++ atF l.blocks (fB l) (j + 1))) ∧ Hid (TUpd ChkT w w') ∧ Hid (LevIn w' gl l)) (fun KF hKF => ?_) ?_
  rotate_left
  ·
   clear hF HC HT HX c0 c1 c2 hba
   rintro a w' ⟨hF, HC, HT, HX⟩
   have hws : IntKind.i64.wrap ((j : Int) + 1) = ((j + 1 : Nat) : Int) := wrap_succ (by omega)
   revert hF;refine zrg [4, 1] [1, 2, 3, 4, 10, 11, 20, 21, 22, 31, 32, 33] fun a hF => ?_
   exact hKE (l.bn - (j + 1)) _ _ (by omega) ⟨j + 1, by omega, hF, HC, HT, HX⟩
  clear hKE hjk
  have hbm : l.blocks[j] ∈ l.blocks := List.getElem_mem hjl
  have HBV := Lib.hid (HLV.out.blk _ hbm)
  have HBS := Lib.hid (HLS.out.2.2.2.2 _ hbm)
  have HMNB := Lib.hid (HMN.out _ hbm)
  have HBE : Hid (l.blocks[j]? = some l.blocks[j]) := List.getElem?_eq_getElem hjl
  have HBA : Hid (∀ wx, Chk w0 h g wx (L ++ atF h.levels (fL h) i ++ levelFault h.levels i l ++ atF l.blocks (fB l) (j)) → Calls Tryz.prog 15 #[.pointer (some ⟨g, 0, none⟩), .int .i64 i, .int .i64 j] wx fun en w' => en = .returned (.tuple #[]) ∧ Chk w0 h g w' (L ++ atF h.levels (fL h) i ++ levelFault h.levels i l ++ atF l.blocks (fB l) (j) ++ blockFault l.blocks j l.blocks[j]) ∧ TUpd ChkT wx w') := fun wx hc => block_any w0 h g wx _ i j hc (by have := HAI.out; have := HLN1.out; have := HABJ.out; simp only [List.length_append]; omega) HI.out l HLE.out hjl
  have HBL1 : Hid ((blockFault l.blocks j l.blocks[j]).length ≤ 1) := blockFault_len _ _ _
  clear hbm
  generalize l.blocks[j] = b at *
  refine wp_block ?_
  refine wp_seq_k (fun K hK => ?_);revert hF;refine zrp [1, 5, 4] [3, 4, 5] fun a hF => ?_;refine seq_one ?_;revert hF;refine qe0 fun a hF => ?_;revert hF;refine zrc 4 [2] [5] fun a hF => ?_;refine seq_one ?_;revert hF;refine qu2 fun a hF => ?_;refine seq_end ?_;replace hF := hF.kp [1, 2, 3, 4, 10, 11, 12, 13, 20, 21, 22, 31, 32, 33] rfl;refine hK _ _ ?_;clear hK
  have HY : Hid (BlkIn (w4.alloc (.cells #[.string (bs b.name), .slice b.ra b.rn b.rc, .int .i64 b.at'] 57)) w4.heap.size b) := World.alloc_heap_new w4 _
  have HBa := Lib.hid (Joins.below_alloc1 w4 (.cells #[.string (bs b.name), .slice b.ra b.rn b.rc, .int .i64 b.at'] 57))
  have HC5 := Lib.hid (HC.out.down HBa.out)
  have HT5 : Hid (TUpd ChkT w (w4.alloc (.cells #[.string (bs b.name), .slice b.ra b.rn b.rc, .int .i64 b.at'] 57))) := HT.out.trans (TUpd.of_below HBa.out)
  have HX5 := Lib.hid (HX.out.down HBa.out)
  clear HC HT HX HBa c0 c1 c2 hba
  generalize w4.alloc (.cells #[.string (bs b.name), .slice b.ra b.rn b.rc, .int .i64 b.at'] 57) = w5 at *
  obtain ⟨gb, hgb⟩ : ∃ gb, gb = w4.heap.size := ⟨_, rfl⟩
  rw [← hgb] at hF HY
  clear hgb
  refine wp_seq_k (fun K hK => ?_);revert hF;refine zrp [1, 1, 1] [3] fun a hF => ?_;refine seq_one ?_;refine op_callv [_, _] _ _ rfl rfl hF rfl rfl (by first | assumption | kernel_rfl) ⟨rfl, rfl, trivial⟩ (fun K hK => ?_);clear hF
  refine (HBA.out w5 HC5.out).mono ?_
  rintro en w6 ⟨rfl, hc6, ht6⟩
  have HC6 := Lib.hid hc6
  have HT6 : Hid (TUpd ChkT w w6) := HT5.out.trans ht6
  have HX6 := Lib.hid (HX5.out.tupd ht6 chk_lev)
  have HY6 := Lib.hid (HY.out.tupd ht6 chk_blk)
  clear hc6 ht6 HC5 HT5 HX5 HY HBA
  refine hK _ _ (fun a hF => ?_);clear hK K;refine seq_end ?_;replace hF := hF.kp [1, 2, 3, 4, 10, 11, 12, 13, 20, 21, 22, 31, 32, 33] rfl;refine hK _ _ ?_;clear hK
  obtain ⟨d0, d1, d2⟩ := HY6.out.cells
  have HAR : Hid (∀ k, (atF b.rows (fR b) k).length ≤ k * 1) := atF_len fun r _ k => rowFault_len _ _ _
  have hrn : b.rn ≤ 8 := HBS.out.2
  revert hF;refine zrs [4, 4, 4, 1] [1, 2, 3, 4, 10, 11, 12, 20, 21, 22, 31, 32, 33, 44, 45] fun a hF => ?_
  refine wp_block ?_
  refine loop_fr (fun n a' w' => ∃ k : Nat, k + n = b.rn ∧ FrF 67 [] [(1, .func (.func 14) #[.pointer (some ⟨g, 0, none⟩)] #[]), (2, .func (.func 15) #[.pointer (some ⟨g, 0, none⟩)] #[]), (3, .func (.func 16) #[.pointer (some ⟨g, 0, none⟩)] #[]), (4, .func (.func 17) #[.pointer (some ⟨g, 0, none⟩)] #[]), (10, .int .i64 i), (11, .pointer (some ⟨gl, 0, none⟩)), (12, .int .i64 j), (20, .slice h.la h.ln h.lc), (21, .int .i64 h.ln), (22, .int .i64 i), (31, .slice l.ba l.bn l.bc), (32, .int .i64 l.bn), (33, .int .i64 j), (44, .int .i64 b.rn), (45, .int .i64 k)] a' ∧ Hid (Chk w0 h g w' (L ++ atF h.levels (fL h) i ++ levelFault h.levels i l ++ atF l.blocks (fB l) (j) ++ blockFault l.blocks j b ++ atF b.rows (fR b) (k))) ∧ Hid (TUpd ChkT w w') ∧ Hid (LevIn w' gl l)) b.rn ⟨0, by omega, hF, by rw [atF_zero, List.append_nil]; exact HC6, HT6, HX6⟩ ?_
  clear hF HC6 HT6 HX6 HY6 d0 d1 d2
  rintro rq a w7 ⟨k, hkk, hF, HC, HT, HX⟩ KG hKG
  by_cases hltk : k < b.rn
  rotate_left
  ·
   revert hF;refine zrs [5] [1, 2, 3, 4, 10, 11, 12, 20, 21, 22, 31, 32, 33, 44, 45, 46] fun a hF => ?_;refine wp_seq_k (fun K hK => ?_)
   refine cond_no hF rfl ?_
   refine wp_exit ?_
   have hke : k = b.rows.length := by rw [HBS.out.1]; omega
   refine hKF _ _ ⟨hF.sub ⟨rfl, rfl, rfl, rfl, rfl, rfl, rfl, rfl, rfl, rfl, rfl, rfl, trivial⟩, ?_, HT, HX⟩
   rw [HAN2.out]
   have := HC.out
   rw [hke, atF_all] at this
   show Chk w0 h g w7 _
   simpa only [fB, List.append_assoc] using this
  revert hF;refine zrs [5] [1, 2, 3, 4, 10, 11, 12, 20, 21, 22, 31, 32, 33, 44, 45, 46] fun a hF => ?_;refine wp_seq_k (fun K hK => ?_)
  refine cond_yes hF rfl ?_
  refine wp_skip ?_
  refine hK _ _ ?_;clear hK;replace hF := hF.kp [1, 2, 3, 4, 10, 11, 12, 20, 21, 22, 31, 32, 33, 44, 45] rfl
  clear hKF
  have hkl : k < b.rows.length := by rw [HBS.out.1]; exact hltk
  have HAN3 := Lib.hid (atF_next (fR b) hkl)
  have HARK := Lib.hid (HAR.out k)
  refine seq_cut (fun a' w' => FrF 67 [] [(1, .func (.func 14) #[.pointer (some ⟨g, 0, none⟩)] #[]), (2, .func (.func 15) #[.pointer (some ⟨g, 0, none⟩)] #[]), (3, .func (.func 16) #[.pointer (some ⟨g, 0, none⟩)] #[]), (4, .func (.func 17) #[.pointer (some ⟨g, 0, none⟩)] #[]), (10, .int .i64 i), (11, .pointer (some ⟨gl, 0, none⟩)), (12, .int .i64 j), (20, .slice h.la h.ln h.lc), (21, .int .i64 h.ln), (22, .int .i64 i), (31, .slice l.ba l.bn l.bc), (32, .int .i64 l.bn), (33, .int .i64 j), (44, .int .i64 b.rn), (45, .int .i64 k)] a' ∧ Hid (Chk w0 h g w' (L ++ atF h.levels (fL h) i ++ levelFault h.levels i l ++ atF l.blocks (fB l) (j) ++ blockFault l.blocks j b ++ atF b.rows (fR b) (k + 1))) ∧ Hid (TUpd ChkT w w') ∧ Hid (LevIn w' gl l)) (fun KH hKH => ?_) ?_
  rotate_left
  ·
   clear hF HC HT HX
   rintro a w' ⟨hF, HC, HT, HX⟩
   have hws : IntKind.i64.wrap ((k : Int) + 1) = ((k + 1 : Nat) : Int) := wrap_succ (by omega)
   revert hF;refine zrg [4, 1] [1, 2, 3, 4, 10, 11, 12, 20, 21, 22, 31, 32, 33, 44, 45] fun a hF => ?_
   exact hKG (b.rn - (k + 1)) _ _ (by omega) ⟨k + 1, by omega, hF, HC, HT, HX⟩
  clear hKG hkk
  refine wp_block ?_
  revert hF;refine zrs [1, 2] [1, 2, 3, 4, 10, 11, 12, 14, 20, 21, 22, 31, 32, 33, 44, 45] fun a hF => ?_;revert hF;refine zrp [1, 1, 1, 1] [4] fun a hF => ?_;refine seq_one ?_;refine op_callv [_, _, _] _ _ rfl rfl hF rfl rfl (by first | assumption | kernel_rfl) ⟨rfl, rfl, rfl, trivial⟩ (fun K hK => ?_);clear hF
  refine (row_any w0 h g w7 _ i j k HC.out (by have := HAI.out; have := HLN1.out; have := HABJ.out; have := HBL1.out; have := HARK.out; simp only [List.length_append]; omega) HI.out l HLE.out b HBE.out b.rows[k] (List.getElem?_eq_getElem hkl) (HMNB.out _ (List.getElem_mem hkl))).mono ?_
  rintro en w8 ⟨rfl, hc8, ht8⟩
  have HC8 := Lib.hid hc8
  clear hc8
  refine hK _ _ (fun a hF => ?_);clear hK K;refine seq_end ?_;replace hF := hF.kp [1, 2, 3, 4, 10, 11, 12, 20, 21, 22, 31, 32, 33, 44, 45] rfl
  refine hKH _ _ ⟨hF, ?_, HT.out.trans ht8, HX.out.tupd ht8 chk_lev⟩
  rw [HAN3.out]
  show Chk w0 h g w8 _
  have := HC8.out
  simpa only [fR, List.append_assoc] using this
 clear hF HC3 HT3 HX3
 rintro a w4 ⟨hF, HC, HT, HX⟩
 rw [atF_all] at HC
 have HZL : Hid ((l.blocks.zipIdx.flatMap (fB l)).length ≤ 54) := by
  have := HAB.out l.blocks.length
  rw [atF_all] at this
  have h2 := HLS.out.1
  show _ ≤ _
  omega
 obtain ⟨d0, d1, d2, d3, d4, d5, d6, d7⟩ := HX.out.cells
 have HAA : Hid (∀ q, (atF l.areas (fA l) q).length ≤ q * 1) := atF_len fun a _ q => areaFault_len _ _ _
 revert hF;refine zrs [4, 4, 4, 1] [1, 2, 3, 4, 10, 20, 21, 22, 57, 58] fun a hF => ?_
 refine wp_block ?_
 refine loop_fr (fun n a' w' => ∃ q : Nat, q + n = l.an ∧ FrF 67 [] [(1, .func (.func 14) #[.pointer (some ⟨g, 0, none⟩)] #[]), (2, .func (.func 15) #[.pointer (some ⟨g, 0, none⟩)] #[]), (3, .func (.func 16) #[.pointer (some ⟨g, 0, none⟩)] #[]), (4, .func (.func 17) #[.pointer (some ⟨g, 0, none⟩)] #[]), (10, .int .i64 i), (20, .slice h.la h.ln h.lc), (21, .int .i64 h.ln), (22, .int .i64 i), (57, .int .i64 l.an), (58, .int .i64 q)] a' ∧ Hid (Chk w0 h g w' (L ++ atF h.levels (fL h) i ++ levelFault h.levels i l ++ l.blocks.zipIdx.flatMap (fB l) ++ atF l.areas (fA l) (q))) ∧ Hid (TUpd ChkT w w')) l.an ⟨0, by omega, hF, by rw [atF_zero, List.append_nil]; exact HC, HT⟩ ?_
 clear hF HC HT HX d0 d1 d2 d3 d4 d5 d6 d7
 rintro rq a w5 ⟨q, hqk, hF, HC, HT⟩ KE hKE
 by_cases hltq : q < l.an
 rotate_left
 ·
  revert hF;refine zrs [5] [1, 2, 3, 4, 10, 20, 21, 22, 57, 58, 59] fun a hF => ?_;refine wp_seq_k (fun K hK => ?_)
  refine cond_no hF rfl ?_
  refine wp_exit ?_
  have hqe : q = l.areas.length := by rw [HLS.out.2.1]; omega
  refine hKC _ _ ⟨hF.sub ⟨rfl, rfl, rfl, rfl, rfl, rfl, rfl, trivial⟩, ?_, HT⟩
  rw [HAN.out]
  have := HC.out
  rw [hqe, atF_all] at this
  show Chk w0 h g w5 _
  simpa only [fL, List.append_assoc] using this
 revert hF;refine zrs [5] [1, 2, 3, 4, 10, 20, 21, 22, 57, 58, 59] fun a hF => ?_;refine wp_seq_k (fun K hK => ?_)
 refine cond_yes hF rfl ?_
 refine wp_skip ?_
 refine hK _ _ ?_;clear hK;replace hF := hF.kp [1, 2, 3, 4, 10, 20, 21, 22, 57, 58] rfl
 clear hKC
 have hql : q < l.areas.length := by rw [HLS.out.2.1]; exact hltq
 have HAN4 := Lib.hid (atF_next (fA l) hql)
 have HAAQ := Lib.hid (HAA.out q)
 refine seq_cut (fun a' w' => FrF 67 [] [(1, .func (.func 14) #[.pointer (some ⟨g, 0, none⟩)] #[]), (2, .func (.func 15) #[.pointer (some ⟨g, 0, none⟩)] #[]), (3, .func (.func 16) #[.pointer (some ⟨g, 0, none⟩)] #[]), (4, .func (.func 17) #[.pointer (some ⟨g, 0, none⟩)] #[]), (10, .int .i64 i), (20, .slice h.la h.ln h.lc), (21, .int .i64 h.ln), (22, .int .i64 i), (57, .int .i64 l.an), (58, .int .i64 q)] a' ∧ Hid (Chk w0 h g w' (L ++ atF h.levels (fL h) i ++ levelFault h.levels i l ++ l.blocks.zipIdx.flatMap (fB l) ++ atF l.areas (fA l) (q + 1))) ∧ Hid (TUpd ChkT w w')) (fun KH hKH => ?_) ?_
 rotate_left
 ·
  clear hF HC HT
  rintro a w' ⟨hF, HC, HT⟩
  have hws : IntKind.i64.wrap ((q : Int) + 1) = ((q + 1 : Nat) : Int) := wrap_succ (by omega)
  revert hF;refine zrg [4, 1] [1, 2, 3, 4, 10, 20, 21, 22, 57, 58] fun a hF => ?_
  exact hKE (l.an - (q + 1)) _ _ (by omega) ⟨q + 1, by omega, hF, HC, HT⟩
 clear hKE hqk
 refine wp_block ?_
 revert hF;refine zrs [1, 2] [1, 2, 3, 4, 10, 15, 20, 21, 22, 57, 58] fun a hF => ?_;revert hF;refine zrp [1, 1, 1] [3] fun a hF => ?_;refine seq_one ?_;refine op_callv [_, _] _ _ rfl rfl hF rfl rfl (by first | assumption | kernel_rfl) ⟨rfl, rfl, trivial⟩ (fun K hK => ?_);clear hF
 refine (area_any w0 h g w5 _ i q HC.out (by have := HAI.out; have := HLN1.out; have := HZL.out; have := HAAQ.out; simp only [List.length_append]; omega) HI.out l HLE.out hql).mono ?_
 rintro en w8 ⟨rfl, hc8, ht8⟩
 have HC8 := Lib.hid hc8
 clear hc8
 refine hK _ _ (fun a hF => ?_);clear hK K;refine seq_end ?_;replace hF := hF.kp [1, 2, 3, 4, 10, 20, 21, 22, 57, 58] rfl
 refine hKH _ _ ⟨hF, ?_, HT.out.trans ht8⟩
 rw [HAN4.out]
 show Chk w0 h g w8 _
 have := HC8.out
 simpa only [fA, List.append_assoc] using this
end Go.Proofs.YtmcdhggnpfhlmaaGreat

namespace Go.Proofs.YtmcdhggnpfhlmaaGreat
theorem ret_cell {P : Program} {N : Nat} {e : List (Nat × Value)} {w : World} {a : Act} {fn : Func} {s : Tmp} {t : TypeId} {ad : Addr} {v : Value} {R : Ending → World → Prop} (hrs : fn.results = #[.cell s t]) (hF : FrF N [] e a) (hs : lookF e s = some (.pointer (some ad))) (hl : (loadVar t ad).run P w = .ok v w) (hR : R (.returned v) w) : bodyPost P fn R .ret a w := by
 refine ⟨hF.defers, v, ?_, hR⟩
 have h := hF.slot s _ hs
 unfold results
 rw [hrs]
 simp [h, asAddr, hl]
end Go.Proofs.YtmcdhggnpfhlmaaGreat

namespace Go.Proofs.YtmcdhggnpfhlmaaGreat
open Go.RowKit Go.IntWalk
set_option linter.unusedSimpArgs false
set_option linter.unusedVariables false

set_option maxRecDepth 100000 in
set_option maxHeartbeats 8000000 in
theorem mark1_any (w : World) (m : MarkR) (gs : Nat) (s : Int) (h : w.cell? ⟨gs, 0, none⟩ = some (.int .i64 s)) :
  Calls Tryz.prog 76 #[.agg #[.int .i64 m.kind, .int .i64 m.seat, .int .i64 m.wth], .pointer (some ⟨gs, 0, none⟩)] w fun e w' => e = .returned (.bool (decide (m.seat = s))) ∧ Below w.heap.size w w' := by
 refine enter_fr (N := 8) [.agg #[.int .i64 m.kind, .int .i64 m.seat, .int .i64 m.wth], .pointer (some ⟨gs, 0, none⟩)] (Tryz.func76) rfl Tryz.ntmps76 (by rfl) (fun a hF => ?_);replace hF := hF.kp [0, 1] rfl;refine wp_seq_k (fun K hK => ?_);refine region_seq (l := [0, 1]) (by kernel_rfl) ?_;refine seq_one ?_;revert hF;refine qe1 fun a hF => ?_;revert hF;refine zre 1 [2] [1, 2] fun a hF => ?_;refine hK _ _ ?_;clear hK
 have HB := Lib.hid (Joins.below_alloc1 w (.cells #[.int .i64 m.kind, .int .i64 m.seat, .int .i64 m.wth] 46))
 have HX : Hid (MarkIn (w.alloc (.cells #[.int .i64 m.kind, .int .i64 m.seat, .int .i64 m.wth] 46)) w.heap.size m) := World.alloc_heap_new w _
 have d0 := Below.cell_of HB.out h
 clear h
 generalize w.alloc (.cells #[.int .i64 m.kind, .int .i64 m.seat, .int .i64 m.wth] 46) = w1 at *
 obtain ⟨g, hg⟩ : ∃ g, g = w.heap.size := ⟨_, rfl⟩
 rw [← hg] at hF HX
 clear hg
 obtain ⟨c0, c1, c2⟩ := HX.out.cells
 obtain ⟨k, hk⟩ : ∃ k, decide (m.seat = s) = k := ⟨_, rfl⟩
 have hb : (m.seat == s) = k := by rw [← hk]; rfl
 rw [hk]
 clear hk
 revert hF;refine zrs [4, 4, 4, 5, 2] [3] fun a hF => ?_;refine wp_ret ?_;(try simp only [then_ret, block_ret, goto_ret]);revert hF;refine zq ?_
 exact ⟨rfl, HB.out⟩

theorem set3 {w : World} {g : Nat} {T : TypeId} {a b c x y z : Value} {q : Nat × Nat} (h : w.heap[g]? = some (.cells #[a, b, c] T q)) : (((w.setCell ⟨g, 0, none⟩ x).setCell ⟨g, 1, none⟩ y).setCell ⟨g, 2, none⟩ z).heap[g]? = some (.cells #[x, y, z] T q) := by
 simp [World.setCell, Array.getElem?_modify, h]

theorem mark_find (ms : List MarkR) (s : Int) : markS ms s = if h : ms.findIdx (fun m => decide (m.seat = s)) < ms.length then ms[ms.findIdx fun m => decide (m.seat = s)] else ⟨0, 0, 0⟩ := by
 unfold markS
 rw [List.find?_eq_getElem?_findIdx]
 by_cases h : ms.findIdx (fun m => decide (m.seat = s)) < ms.length
 ·
  rw [dif_pos h]; simp [h]
 ·
  rw [dif_neg h]; simp [h]

set_option maxRecDepth 100000 in
set_option maxHeartbeats 8000000 in
theorem mark_any (w : World) (r : RowR) (s : Int) (hr : r.In w) :
  Calls Tryz.prog 51 #[.agg #[.string (bs r.name), .int .i64 r.x, .int .i64 r.y, .int .i64 r.fr, .int .i64 r.to, .int .i64 r.step, .slice r.ma r.mn r.mc, .int .i64 r.at'], .int .i64 s] w
   fun e w' => e = .returned (.agg #[.int .i64 (markS r.marks s).kind, .int .i64 (markS r.marks s).seat, .int .i64 (markS r.marks s).wth]) ∧ Below w.heap.size w w' := by
 have HRI := Lib.hid hr
 have HMF := Lib.hid (mark_find r.marks s)
 clear hr
 generalize markS r.marks s = mk at *
 refine enter_fr (N := 18) [.agg #[.string (bs r.name), .int .i64 r.x, .int .i64 r.y, .int .i64 r.fr, .int .i64 r.to, .int .i64 r.step, .slice r.ma r.mn r.mc, .int .i64 r.at'], .int .i64 s] (Tryz.func51) rfl Tryz.ntmps51 (by rfl) (fun a hF => ?_);replace hF := hF.kp [0, 1] rfl;refine wp_seq_k (fun K hK => ?_);refine region_seq (l := [0, 1, 2]) (by kernel_rfl) ?_;refine seq_one ?_;revert hF;refine qe1 fun a hF => ?_
 have HX : Hid (RowIn (w.alloc (.cells #[.string (bs r.name), .int .i64 r.x, .int .i64 r.y, .int .i64 r.fr, .int .i64 r.to, .int .i64 r.step, .slice r.ma r.mn r.mc, .int .i64 r.at'] 49)) w.heap.size r) := World.alloc_heap_new w _
 have HB1 := Lib.hid (Joins.below_alloc1 w (.cells #[.string (bs r.name), .int .i64 r.x, .int .i64 r.y, .int .i64 r.fr, .int .i64 r.to, .int .i64 r.step, .slice r.ma r.mn r.mc, .int .i64 r.at'] 49))
 generalize w.alloc (.cells #[.string (bs r.name), .int .i64 r.x, .int .i64 r.y, .int .i64 r.fr, .int .i64 r.to, .int .i64 r.step, .slice r.ma r.mn r.mc, .int .i64 r.at'] 49) = w1 at *
 obtain ⟨gr, hgr⟩ : ∃ gr, gr = w.heap.size := ⟨_, rfl⟩
 rw [← hgr] at hF HX
 clear hgr
 refine seq_one ?_;revert hF;refine qe1 fun a hF => ?_
 have HS : Hid ((w1.alloc (.cells #[.int .i64 s] 3)).heap[w1.heap.size]? = some (.cells #[.int .i64 s] 3 (0, 0))) := World.alloc_heap_new w1 _
 have HBa := Lib.hid (Joins.below_alloc1 w1 (.cells #[.int .i64 s] 3))
 have HB2 : Hid (Below w.heap.size w (w1.alloc (.cells #[.int .i64 s] 3))) := HB1.out.trans (HBa.out.mono HB1.out.size)
 have HX2 := Lib.hid (HX.out.down HBa.out)
 clear HX HB1 HBa
 generalize w1.alloc (.cells #[.int .i64 s] 3) = w2 at *
 obtain ⟨gs, hgs⟩ : ∃ gs, gs = w1.heap.size := ⟨_, rfl⟩
 rw [← hgs] at hF HS
 clear hgs
 refine seq_one ?_;revert hF;refine qe0 fun a hF => ?_
 have HZ : Hid ((w2.alloc (.cells #[.int .i64 0, .int .i64 0, .int .i64 0] 46)).heap[w2.heap.size]? = some (.cells #[.int .i64 0, .int .i64 0, .int .i64 0] 46 (0, 0))) := World.alloc_heap_new w2 _
 have HBa := Lib.hid (Joins.below_alloc1 w2 (.cells #[.int .i64 0, .int .i64 0, .int .i64 0] 46))
 have HB3 : Hid (Below w.heap.size w (w2.alloc (.cells #[.int .i64 0, .int .i64 0, .int .i64 0] 46))) := HB2.out.trans (HBa.out.mono HB2.out.size)
 have HX3 := Lib.hid (HX2.out.down HBa.out)
 have HS3 := Lib.hid ((HBa.out.block gs (lt_of_block HS.out)).trans HS.out)
 have hgm0 : w.heap.size ≤ w2.heap.size := HB2.out.size
 clear HX2 HB2 HBa HS
 generalize w2.alloc (.cells #[.int .i64 0, .int .i64 0, .int .i64 0] 46) = w3 at *
 obtain ⟨gm, hgm⟩ : ∃ gm, gm = w2.heap.size := ⟨_, rfl⟩
 rw [← hgm] at hF HZ hgm0
 clear hgm
 refine seq_end ?_;replace hF := hF.kp [2, 3, 4] rfl;refine hK _ _ ?_;clear hK;refine wp_seq_k (fun KA hKA => ?_);refine wp_seq_k (fun K hK => ?_)
 obtain ⟨c0, c1, c2, c3, c4, c5, c6, c7⟩ := HX3.out.cells
 clear c0 c1 c2 c3 c4 c5 c7
 revert hF;refine zrp [4, 4, 4] [3, 4] fun a hF => ?_;revert hF;refine zos fun K hK => ?_
 have HIM := Lib.hid (index_mark w3 r.ma r.mn r.mc r.marks (HRI.out.marks.below HB3.out) HRI.out.mn 76 [.pointer (some ⟨gs, 0, none⟩)] (fun m => decide (m.seat = s)) (by kernel_rfl)
  (fun wx hb j hj => mark1_any wx r.marks[j] gs s (Below.cell_of hb (boxed_cell (j := 0) HS3.out rfl))))
 have HIS : Hid (idxS (fun m : MarkR => decide (m.seat = s)) r.marks = if r.marks.findIdx (fun m => decide (m.seat = s)) < r.marks.length then ((r.marks.findIdx fun m => decide (m.seat = s) : Nat) : Int) else -1) := rfl
 generalize idxS (fun m : MarkR => decide (m.seat = s)) r.marks = ix0 at *
 generalize r.marks.findIdx (fun m => decide (m.seat = s)) = fi at *
 refine HIM.out.mono ?_
 rintro e w4 ⟨rfl, hb4⟩
 have HB4 : Hid (Below w.heap.size w w4) := HB3.out.trans (hb4.mono HB3.out.size)
 have HX4 := Lib.hid (HX3.out.down hb4)
 have HZ4 := Lib.hid ((hb4.block gm (lt_of_block HZ.out)).trans HZ.out)
 clear HIM HB3 HX3 HZ HS3 hb4 c6
 obtain ⟨c0, c1, c2, c3, c4, c5, c6, c7⟩ := HX4.out.cells
 clear c0 c1 c2 c3 c4 c5 c7
 have z0 : w4.cell? ⟨gm, 0, none⟩ = some (.int .i64 0) := boxed_cell (j := 0) HZ4.out rfl
 have z1 : w4.cell? ⟨gm, 1, none⟩ = some (.int .i64 0) := boxed_cell (j := 1) HZ4.out rfl
 have z2 : w4.cell? ⟨gm, 2, none⟩ = some (.int .i64 0) := boxed_cell (j := 2) HZ4.out rfl
 have f0 := free_var (o := 0) HZ4.out
 have f1 := free_var (o := 1) HZ4.out
 have f2 := free_var (o := 2) HZ4.out
 refine hK _ _ (fun a hF => ?_);clear hK K;revert hF;refine zre 4 [2] [2, 4, 5] fun a hF => ?_;refine hK _ _ ?_;clear hK
 by_cases hfi : fi < r.marks.length
 ·
  have hix : ix0 = fi := by have := HIS.out; rw [if_pos hfi] at this; exact this
  have hmk : mk = r.marks[fi] := by have := HMF.out; rw [dif_pos hfi] at this; exact this
  have hfl : fi < r.mn := by have := HRI.out.marks.1; omega
  have hfli : (fi : Int) < r.mn := by omega
  subst hix
  obtain ⟨b, o, hma, e0, e1, e2⟩ := mark_at (HRI.out.marks.below HB4.out) fi hfl hfi
  rw [← hmk] at e0 e1 e2
  clear hmk HMF HIS
  revert hF;refine zrs [1, 4] [2, 4, 5, 11] fun a hF => ?_
  refine cond_yes hF rfl ?_
  refine wp_seq_k (fun K hK => ?_);revert hF;refine zrp [4, 4, 1, 5, 4] [5] fun a hF => ?_;refine seq_one ?_;revert hF;refine qu2 fun a hF => ?_
  have hW := set3 (x := .int .i64 mk.kind) (y := .int .i64 mk.seat) (z := .int .i64 mk.wth) HZ4.out
  have hBW : Below w.heap.size w (((w4.setCell ⟨gm, 0, none⟩ (.int .i64 mk.kind)).setCell ⟨gm, 1, none⟩ (.int .i64 mk.seat)).setCell ⟨gm, 2, none⟩ (.int .i64 mk.wth)) := ((HB4.out.trans (below_set hgm0)).trans (below_set hgm0)).trans (below_set hgm0)
  generalize ((w4.setCell ⟨gm, 0, none⟩ (.int .i64 mk.kind)).setCell ⟨gm, 1, none⟩ (.int .i64 mk.seat)).setCell ⟨gm, 2, none⟩ (.int .i64 mk.wth) = w5 at *
  have g0 : w5.cell? ⟨gm, 0, none⟩ = some (.int .i64 mk.kind) := boxed_cell (j := 0) hW rfl
  have g1 : w5.cell? ⟨gm, 1, none⟩ = some (.int .i64 mk.seat) := boxed_cell (j := 1) hW rfl
  have g2 : w5.cell? ⟨gm, 2, none⟩ = some (.int .i64 mk.wth) := boxed_cell (j := 2) hW rfl
  have hlv : (loadVar 46 ⟨gm, 0, none⟩).run Tryz.prog w5 = .ok (.agg #[.int .i64 mk.kind, .int .i64 mk.seat, .int .i64 mk.wth]) w5 := by
   clear hF hW hBW HZ4 HB4 z0 z1 z2 f0 f1 f2
   go_simp
  refine seq_end ?_;replace hF := hF.kp [4] rfl;refine hK _ _ ?_;clear hK
  refine wp_ret ?_
  try simp only [then_ret, block_ret, goto_ret]
  refine ret_cell (fn := Tryz.f51) rfl hF rfl hlv ?_
  exact ⟨rfl, hBW⟩
 ·
  have hix : ix0 = -1 := by have := HIS.out; rw [if_neg hfi] at this; exact this
  have hmk : mk = ⟨0, 0, 0⟩ := by have := HMF.out; rw [dif_neg hfi] at this; exact this
  subst hix
  subst hmk
  dsimp only at *
  clear HMF HIS
  revert hF;refine zrs [1, 4] [2, 4, 5, 11] fun a hF => ?_
  refine cond_no hF rfl ?_
  refine wp_skip ?_
  refine hKA _ _ ?_;clear hKA;replace hF := hF.kp [4] rfl;refine wp_seq_k (fun K hK => ?_);revert hF;refine zrp [3] [1] fun a hF => ?_;refine seq_one ?_;revert hF;refine qu2 fun a hF => ?_
  have hW := set3 (x := .int .i64 0) (y := .int .i64 0) (z := .int .i64 0) HZ4.out
  have hBW : Below w.heap.size w (((w4.setCell ⟨gm, 0, none⟩ (.int .i64 0)).setCell ⟨gm, 1, none⟩ (.int .i64 0)).setCell ⟨gm, 2, none⟩ (.int .i64 0)) := ((HB4.out.trans (below_set hgm0)).trans (below_set hgm0)).trans (below_set hgm0)
  generalize ((w4.setCell ⟨gm, 0, none⟩ (.int .i64 0)).setCell ⟨gm, 1, none⟩ (.int .i64 0)).setCell ⟨gm, 2, none⟩ (.int .i64 0) = w5 at *
  have g0 : w5.cell? ⟨gm, 0, none⟩ = some (.int .i64 0) := boxed_cell (j := 0) hW rfl
  have g1 : w5.cell? ⟨gm, 1, none⟩ = some (.int .i64 0) := boxed_cell (j := 1) hW rfl
  have g2 : w5.cell? ⟨gm, 2, none⟩ = some (.int .i64 0) := boxed_cell (j := 2) hW rfl
  have hlv : (loadVar 46 ⟨gm, 0, none⟩).run Tryz.prog w5 = .ok (.agg #[.int .i64 0, .int .i64 0, .int .i64 0]) w5 := by
   clear hF hW hBW HZ4 HB4 z0 z1 z2 f0 f1 f2
   go_simp
  refine seq_end ?_;replace hF := hF.kp [4] rfl;refine hK _ _ ?_;clear hK
  refine wp_ret ?_
  try simp only [then_ret, block_ret, goto_ret]
  refine ret_cell (fn := Tryz.f51) rfl hF rfl hlv ?_
  exact ⟨rfl, hBW⟩
end Go.Proofs.YtmcdhggnpfhlmaaGreat
