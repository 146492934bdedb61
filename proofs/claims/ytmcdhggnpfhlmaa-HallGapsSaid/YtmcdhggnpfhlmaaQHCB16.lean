/- hall: the checker's walk. -/
import Derived.Test.YtmcdhggnpfhlmaaQHCB15

namespace Go.Proofs.Ytmcdhggnpfhlmaa
open Go.RowKit Go.IntWalk
set_option linter.unusedSimpArgs false
set_option linter.unusedVariables false

theorem LevIn.tupd {S : TypeId → Prop} {w w' : World} {g : Nat} {l : LevR} (h : LevIn w g l) (ht : TUpd S w w') (hS : ¬ S 43) : LevIn w' g l := ht.keep h hS
theorem BlkIn.tupd {S : TypeId → Prop} {w w' : World} {g : Nat} {b : BlkR} (h : BlkIn w g b) (ht : TUpd S w w') (hS : ¬ S 57) : BlkIn w' g b := ht.keep h hS
theorem chk_lev : ¬ ChkT 43 := by unfold ChkT; decide
theorem chk_blk : ¬ ChkT 57 := by unfold ChkT; decide

set_option maxRecDepth 100000 in
set_option maxHeartbeats 40000000 in
theorem walk_any (w0 : World) (h : HallR) (g : Nat) (w : World) (L : List FaultR) (hc : Chk w0 h g w L) (hL : L.length ≤ 700000) (hi : h.In w0) (hsm : h.Sm) :
    Calls Try.prog 21 #[.pointer (some ⟨g, 0, none⟩), .func (.func 22) #[.pointer (some ⟨g, 0, none⟩)] #[], .func (.func 23) #[.pointer (some ⟨g, 0, none⟩)] #[], .func (.func 24) #[.pointer (some ⟨g, 0, none⟩)] #[], .func (.func 25) #[.pointer (some ⟨g, 0, none⟩)] #[]] w fun en w' => en = .returned (.tuple #[]) ∧ Chk w0 h g w' (L ++ singleS h) ∧ TUpd ChkT w w' := by
  have HC0 := Lib.hid hc
  have HI := Lib.hid hi
  have HSM := Lib.hid hsm
  have HLL := Lib.hid hi.levels.1
  have hln : h.ln ≤ 12 := hsm.ln
  have c3 := hc.cell3
  have HLB : Hid (∀ l ∈ h.levels, l.blocks.length = l.bn ∧ l.areas.length = l.an ∧ l.bn ≤ 6 ∧ l.an ≤ 60 ∧ ∀ b ∈ l.blocks, b.rows.length = b.rn ∧ b.rn ≤ 8) := fun l hl => by
    have h1 := hi.lev l hl
    have h2 := hsm.lev l hl
    have h3 := h2.rest
    exact ⟨h1.blocks.1, h1.areas.1, h2.b, by omega, fun b hb => ⟨(h1.blk b hb).1.1, hsm.rn l hl b hb⟩⟩
  have HA : Hid (∀ i, (atF h.levels (fL h) i).length ≤ i * 200) := atF_len fun l hl j => by
    obtain ⟨e1, e2, e3, e4, e5⟩ := HLB.out l hl
    exact fL_len (by omega) (by omega) (fun b hb => by have := e5 b hb; omega) j
  clear hc hi hsm
  refine enter_fr (N := 67) [.pointer (some ⟨g, 0, none⟩), .func (.func 22) #[.pointer (some ⟨g, 0, none⟩)] #[], .func (.func 23) #[.pointer (some ⟨g, 0, none⟩)] #[], .func (.func 24) #[.pointer (some ⟨g, 0, none⟩)] #[], .func (.func 25) #[.pointer (some ⟨g, 0, none⟩)] #[]] (Try.func21) rfl Try.ntmps21 (by rfl) (fun a hF => ?_);replace hF := hF.kp [0, 1, 2, 3, 4] rfl;refine wp_seq_k (fun K hK => ?_);refine region_sk [0, 1, 2, 3, 4, 5, 6] [] hF fun C hC => ?_;clear hF;refine zm rfl rfl rfl ?_;refine zs1 16 rfl rfl ?_;refine zs1 17 rfl rfl ?_;refine zs1 18 rfl rfl ?_;refine zs1 19 rfl rfl ?_;refine zs1 20 rfl rfl ?_;refine zm rfl rfl rfl ?_;refine hC _ (fun a hF => ?_);clear hC C;refine seq_end ?_;replace hF := hF.kp [1, 2, 3, 4, 20, 21, 22] rfl;refine hK _ _ ?_;clear hK;(try clear K)
  refine wp_block ?_
  refine loop_fr (fun n a' w' => ∃ i : Nat, i + n = h.ln ∧ FrF 67 [] [(1, .func (.func 22) #[.pointer (some ⟨g, 0, none⟩)] #[]), (2, .func (.func 23) #[.pointer (some ⟨g, 0, none⟩)] #[]), (3, .func (.func 24) #[.pointer (some ⟨g, 0, none⟩)] #[]), (4, .func (.func 25) #[.pointer (some ⟨g, 0, none⟩)] #[]), (20, .slice h.la h.ln h.lc), (21, .int .i64 h.ln), (22, .int .i64 i)] a' ∧ Hid (Chk w0 h g w' (L ++ atF h.levels (fL h) i)) ∧ Hid (TUpd ChkT w w')) h.ln ⟨0, by omega, hF, by rw [atF_zero, List.append_nil]; exact HC0, TUpd.refl _ _⟩ ?_
  clear hF HC0 c3
  rintro rk a wr ⟨i, hik, hF, HC, HT⟩ KB hKB
  refine wp_seq_k (fun K hK => ?_)
  by_cases hlt : i < h.ln
  rotate_left
  · refine region_sk [0] [] hF fun C hC => ?_;clear hF;refine zs2 21 22 rfl rfl rfl ?_;refine hC _ (fun a hF => ?_);clear hC C;refine seq_end ?_;replace hF := hF.kp [1, 2, 3, 4, 20, 21, 22, 23] rfl;refine hK _ _ ?_;clear hK;(try clear K);refine wp_seq_k (fun K hK => ?_)
    refine cond_no hF rfl ?_
    refine wp_exit ?_
    (try simp only [then_exit, block_exit, block_norm, goto_norm, ↓reduceIte, Nat.reduceEqDiff]);refine end_fr (fn := Try.f21) (rs := []) rfl [] hF trivial ?_
    have hie : i = h.levels.length := by rw [HLL.out]; omega
    refine ⟨rfl, ?_, HT.out⟩
    rw [single_eq, ← hie]
    exact HC.out
  refine region_sk [0] [] hF fun C hC => ?_;clear hF;refine zs2 21 22 rfl rfl rfl ?_;refine hC _ (fun a hF => ?_);clear hC C;refine seq_end ?_;replace hF := hF.kp [1, 2, 3, 4, 20, 21, 22, 23] rfl;refine hK _ _ ?_;clear hK;(try clear K);refine wp_seq_k (fun K hK => ?_)
  refine cond_yes hF rfl ?_
  refine wp_skip ?_
  refine hK _ _ ?_;clear hK;(try clear K);replace hF := hF.kp [1, 2, 3, 4, 20, 21, 22] rfl
  have hil : i < h.levels.length := by rw [HLL.out]; exact hlt
  have hii : (i : Int) < h.ln := by omega
  have HAN := Lib.hid (atF_next (fL h) hil)
  have HAI := Lib.hid (HA.out i)
  obtain ⟨bb, oo, hla, c0, c1, c2, c3, c4, c5, c6, c7⟩ := lev_at (HI.out.levels.below HC.out.below) i hlt hil
  refine seq_cut (fun a' w' => FrF 67 [] [(1, .func (.func 22) #[.pointer (some ⟨g, 0, none⟩)] #[]), (2, .func (.func 23) #[.pointer (some ⟨g, 0, none⟩)] #[]), (3, .func (.func 24) #[.pointer (some ⟨g, 0, none⟩)] #[]), (4, .func (.func 25) #[.pointer (some ⟨g, 0, none⟩)] #[]), (20, .slice h.la h.ln h.lc), (21, .int .i64 h.ln), (22, .int .i64 i)] a' ∧ Hid (Chk w0 h g w' (L ++ atF h.levels (fL h) (i + 1))) ∧ Hid (TUpd ChkT w w')) (fun KC hKC => ?_) ?_
  rotate_left
  · clear hF HC HT c0 c1 c2 c3 c4 c5 c6 c7 hla
    rintro a w' ⟨hF, HC, HT⟩
    have hws : IntKind.i64.wrap ((i : Int) + 1) = ((i + 1 : Nat) : Int) := wrap_succ (by omega)
    refine region_sk [0, 1] [] hF fun C hC => ?_;clear hF;refine zs1 22 rfl rfl ?_;refine zm rfl rfl rfl ?_;refine hC _ (fun a hF => ?_);clear hC C;refine seq_end ?_;replace hF := hF.kp [1, 2, 3, 4, 20, 21, 22] rfl
    exact hKB (h.ln - (i + 1)) _ _ (by omega) ⟨i + 1, by omega, hF, HC, HT⟩
  clear hKB hik
  have hlm : h.levels[i] ∈ h.levels := List.getElem_mem hil
  have HLV := Lib.hid (HI.out.lev _ hlm)
  have HLS := Lib.hid (HLB.out _ hlm)
  have HLSM := Lib.hid (HSM.out.lev _ hlm)
  have HMN := Lib.hid (HSM.out.mn _ hlm)
  have HLE : Hid (h.levels[i]? = some h.levels[i]) := List.getElem?_eq_getElem hil
  have HLA : Hid (∀ wx, Chk w0 h g wx (L ++ atF h.levels (fL h) i) → Calls Try.prog 22 #[.pointer (some ⟨g, 0, none⟩), .int .i64 i] wx fun en w' => en = .returned (.tuple #[]) ∧ Chk w0 h g w' (L ++ atF h.levels (fL h) i ++ levelFault h.levels i h.levels[i]) ∧ TUpd ChkT wx w') := fun wx hc => level_any w0 h g wx _ i hc (by have := HAI.out; rw [List.length_append]; omega) HI.out hil HLSM.out
  clear HLSM hlm
  generalize h.levels[i] = l at *
  refine wp_block ?_
  refine wp_seq_k (fun K hK => ?_);refine region_sk [0, 1, 2] [3, 4, 5] hF fun C hC => ?_;clear hF;refine zm rfl rfl rfl ?_;refine zs2 20 22 rfl rfl rfl ?_;refine zs1 25 rfl rfl ?_;refine hC _ (fun a hF => ?_);clear hC C;refine seq_one ?_;refine ze0 rfl rfl rfl hF rfl ?_;clear hF;refine fun a hF => ?_;refine seq_ck [4] [5] hF fun C hC => ?_;clear hF;refine za rfl rfl rfl ?_;refine hC _ (fun a hF => ?_);clear hC C;refine seq_one ?_;refine zu2 11 26 rfl rfl hF rfl rfl rfl ?_;clear hF;refine fun a hF => ?_;refine seq_end ?_;replace hF := hF.kp [1, 2, 3, 4, 10, 11, 20, 21, 22] rfl;refine hK _ _ ?_;clear hK;(try clear K)
  have HX : Hid (LevIn (wr.alloc (.cells #[.string (bs l.name), .int .i64 l.height, .slice l.ba l.bn l.bc, .slice l.aa l.an l.ac, .slice l.sa l.sn l.sc, .slice l.pa l.pn l.pc, .slice l.da l.dn l.dc, .int .i64 l.at'] 43)) wr.heap.size l) := World.alloc_heap_new wr _
  have HBa := Lib.hid (Joins.below_alloc1 wr (.cells #[.string (bs l.name), .int .i64 l.height, .slice l.ba l.bn l.bc, .slice l.aa l.an l.ac, .slice l.sa l.sn l.sc, .slice l.pa l.pn l.pc, .slice l.da l.dn l.dc, .int .i64 l.at'] 43))
  have HC2 := Lib.hid (HC.out.down HBa.out)
  have HT2 : Hid (TUpd ChkT w (wr.alloc (.cells #[.string (bs l.name), .int .i64 l.height, .slice l.ba l.bn l.bc, .slice l.aa l.an l.ac, .slice l.sa l.sn l.sc, .slice l.pa l.pn l.pc, .slice l.da l.dn l.dc, .int .i64 l.at'] 43))) := HT.out.trans (TUpd.of_below HBa.out)
  clear HC HT HBa c0 c1 c2 c3 c4 c5 c6 c7 hla
  generalize wr.alloc (.cells #[.string (bs l.name), .int .i64 l.height, .slice l.ba l.bn l.bc, .slice l.aa l.an l.ac, .slice l.sa l.sn l.sc, .slice l.pa l.pn l.pc, .slice l.da l.dn l.dc, .int .i64 l.at'] 43) = w2 at *
  obtain ⟨gl, hgl⟩ : ∃ gl, gl = wr.heap.size := ⟨_, rfl⟩
  rw [← hgl] at hF HX
  clear hgl
  refine wp_seq_k (fun K hK => ?_);refine region_sk [0, 1] [2] hF fun C hC => ?_;clear hF;refine zm rfl rfl rfl ?_;refine zm rfl rfl rfl ?_;refine hC _ (fun a hF => ?_);clear hC C;refine seq_one ?_;refine op_callv [_] _ _ rfl rfl hF rfl rfl (by first | assumption | kernel_rfl) ⟨rfl, trivial⟩ (fun K hK => ?_);clear hF
  refine (HLA.out w2 HC2.out).mono ?_
  rintro en w3 ⟨rfl, hc3, ht3⟩
  have HC3 := Lib.hid hc3
  have HT3 : Hid (TUpd ChkT w w3) := HT2.out.trans ht3
  have HX3 := Lib.hid (HX.out.tupd ht3 chk_lev)
  clear hc3 ht3 HC2 HT2 HX HLA
  refine hK _ _ (fun a hF => ?_);clear hK K;refine seq_end ?_;replace hF := hF.kp [1, 2, 3, 4, 10, 11, 20, 21, 22] rfl;refine hK _ _ ?_;clear hK;(try clear K)
  have HLN1 : Hid ((levelFault h.levels i l).length ≤ 1) := levelFault_len _ _ _
  have hbn : l.bn ≤ 6 := HLS.out.2.2.1
  have han : l.an ≤ 60 := HLS.out.2.2.2.1
  have HAB : Hid (∀ j, (atF l.blocks (fB l) j).length ≤ j * 9) := atF_len fun b hb j => by
    obtain ⟨e1, e2, e3, e4, e5⟩ := HLS.out
    exact fB_len (by have := e5 b hb; omega) j
  refine seq_cut (fun a' w' => FrF 67 [] [(1, .func (.func 22) #[.pointer (some ⟨g, 0, none⟩)] #[]), (2, .func (.func 23) #[.pointer (some ⟨g, 0, none⟩)] #[]), (3, .func (.func 24) #[.pointer (some ⟨g, 0, none⟩)] #[]), (4, .func (.func 25) #[.pointer (some ⟨g, 0, none⟩)] #[]), (10, .int .i64 i), (11, .pointer (some ⟨gl, 0, none⟩)), (20, .slice h.la h.ln h.lc), (21, .int .i64 h.ln), (22, .int .i64 i)] a' ∧ Hid (Chk w0 h g w' (L ++ atF h.levels (fL h) i ++ levelFault h.levels i l ++ atF l.blocks (fB l) (l.blocks.length))) ∧ Hid (TUpd ChkT w w') ∧ Hid (LevIn w' gl l)) (fun KD hKD => ?_) ?_
  · clear hKC
    obtain ⟨d0, d1, d2, d3, d4, d5, d6, d7⟩ := HX3.out.cells
    refine wp_seq_k (fun K hK => ?_);refine region_sk [0, 1, 2, 3] [] hF fun C hC => ?_;clear hF;refine zs1 11 rfl rfl ?_;refine zs1 30 rfl rfl ?_;refine zs1 31 rfl rfl ?_;refine zm rfl rfl rfl ?_;refine hC _ (fun a hF => ?_);clear hC C;refine seq_end ?_;replace hF := hF.kp [1, 2, 3, 4, 10, 11, 20, 21, 22, 31, 32, 33] rfl;refine hK _ _ ?_;clear hK;(try clear K)
    refine wp_block ?_
    refine loop_fr (fun n a' w' => ∃ j : Nat, j + n = l.bn ∧ FrF 67 [] [(1, .func (.func 22) #[.pointer (some ⟨g, 0, none⟩)] #[]), (2, .func (.func 23) #[.pointer (some ⟨g, 0, none⟩)] #[]), (3, .func (.func 24) #[.pointer (some ⟨g, 0, none⟩)] #[]), (4, .func (.func 25) #[.pointer (some ⟨g, 0, none⟩)] #[]), (10, .int .i64 i), (11, .pointer (some ⟨gl, 0, none⟩)), (20, .slice h.la h.ln h.lc), (21, .int .i64 h.ln), (22, .int .i64 i), (31, .slice l.ba l.bn l.bc), (32, .int .i64 l.bn), (33, .int .i64 j)] a' ∧ Hid (Chk w0 h g w' (L ++ atF h.levels (fL h) i ++ levelFault h.levels i l ++ atF l.blocks (fB l) (j))) ∧ Hid (TUpd ChkT w w') ∧ Hid (LevIn w' gl l)) l.bn ⟨0, by omega, hF, by rw [atF_zero, List.append_nil]; exact HC3, HT3, HX3⟩ ?_
    clear hF HC3 HT3 HX3 d0 d1 d2 d3 d4 d5 d6 d7
    rintro rj a w4 ⟨j, hjk, hF, HC, HT, HX⟩ KE hKE
    refine wp_seq_k (fun K hK => ?_)
    by_cases hltj : j < l.bn
    rotate_left
    · refine region_sk [0] [] hF fun C hC => ?_;clear hF;refine zs2 32 33 rfl rfl rfl ?_;refine hC _ (fun a hF => ?_);clear hC C;refine seq_end ?_;replace hF := hF.kp [1, 2, 3, 4, 10, 11, 20, 21, 22, 31, 32, 33, 34] rfl;refine hK _ _ ?_;clear hK;(try clear K);refine wp_seq_k (fun K hK => ?_)
      refine cond_no hF rfl ?_
      refine wp_exit ?_
      have hje : l.blocks.length = j := by rw [HLS.out.1]; omega
      rw [hje] at hKD
      exact hKD _ _ ⟨hF.sub ⟨rfl, rfl, rfl, rfl, rfl, rfl, rfl, rfl, rfl, trivial⟩, HC, HT, HX⟩
    refine region_sk [0] [] hF fun C hC => ?_;clear hF;refine zs2 32 33 rfl rfl rfl ?_;refine hC _ (fun a hF => ?_);clear hC C;refine seq_end ?_;replace hF := hF.kp [1, 2, 3, 4, 10, 11, 20, 21, 22, 31, 32, 33, 34] rfl;refine hK _ _ ?_;clear hK;(try clear K);refine wp_seq_k (fun K hK => ?_)
    refine cond_yes hF rfl ?_
    refine wp_skip ?_
    refine hK _ _ ?_;clear hK;(try clear K);replace hF := hF.kp [1, 2, 3, 4, 10, 11, 20, 21, 22, 31, 32, 33] rfl
    clear hKD
    have hjl : j < l.blocks.length := by rw [HLS.out.1]; exact hltj
    have hji : (j : Int) < l.bn := by omega
    have HAN2 := Lib.hid (atF_next (fB l) hjl)
    have HABJ := Lib.hid (HAB.out j)
    obtain ⟨bb, oo, hba, c0, c1, c2⟩ := blk_at (HLV.out.blocks.below HC.out.below) j hltj hjl
    refine seq_cut (fun a' w' => FrF 67 [] [(1, .func (.func 22) #[.pointer (some ⟨g, 0, none⟩)] #[]), (2, .func (.func 23) #[.pointer (some ⟨g, 0, none⟩)] #[]), (3, .func (.func 24) #[.pointer (some ⟨g, 0, none⟩)] #[]), (4, .func (.func 25) #[.pointer (some ⟨g, 0, none⟩)] #[]), (10, .int .i64 i), (11, .pointer (some ⟨gl, 0, none⟩)), (20, .slice h.la h.ln h.lc), (21, .int .i64 h.ln), (22, .int .i64 i), (31, .slice l.ba l.bn l.bc), (32, .int .i64 l.bn), (33, .int .i64 j)] a' ∧ Hid (Chk w0 h g w' (L ++ atF h.levels (fL h) i ++ levelFault h.levels i l ++ atF l.blocks (fB l) (j + 1))) ∧ Hid (TUpd ChkT w w') ∧ Hid (LevIn w' gl l)) (fun KF hKF => ?_) ?_
    rotate_left
    · clear hF HC HT HX c0 c1 c2 hba
      rintro a w' ⟨hF, HC, HT, HX⟩
      have hws : IntKind.i64.wrap ((j : Int) + 1) = ((j + 1 : Nat) : Int) := wrap_succ (by omega)
      refine region_sk [0, 1] [] hF fun C hC => ?_;clear hF;refine zs1 33 rfl rfl ?_;refine zm rfl rfl rfl ?_;refine hC _ (fun a hF => ?_);clear hC C;refine seq_end ?_;replace hF := hF.kp [1, 2, 3, 4, 10, 11, 20, 21, 22, 31, 32, 33] rfl
      exact hKE (l.bn - (j + 1)) _ _ (by omega) ⟨j + 1, by omega, hF, HC, HT, HX⟩
    clear hKE hjk
    have hbm : l.blocks[j] ∈ l.blocks := List.getElem_mem hjl
    have HBV := Lib.hid (HLV.out.blk _ hbm)
    have HBS := Lib.hid (HLS.out.2.2.2.2 _ hbm)
    have HMNB := Lib.hid (HMN.out _ hbm)
    have HBE : Hid (l.blocks[j]? = some l.blocks[j]) := List.getElem?_eq_getElem hjl
    have HBA : Hid (∀ wx, Chk w0 h g wx (L ++ atF h.levels (fL h) i ++ levelFault h.levels i l ++ atF l.blocks (fB l) (j)) → Calls Try.prog 23 #[.pointer (some ⟨g, 0, none⟩), .int .i64 i, .int .i64 j] wx fun en w' => en = .returned (.tuple #[]) ∧ Chk w0 h g w' (L ++ atF h.levels (fL h) i ++ levelFault h.levels i l ++ atF l.blocks (fB l) (j) ++ blockFault l.blocks j l.blocks[j]) ∧ TUpd ChkT wx w') := fun wx hc => block_any w0 h g wx _ i j hc (by have := HAI.out; have := HLN1.out; have := HABJ.out; simp only [List.length_append]; omega) HI.out l HLE.out hjl
    have HBL1 : Hid ((blockFault l.blocks j l.blocks[j]).length ≤ 1) := blockFault_len _ _ _
    clear hbm
    generalize l.blocks[j] = b at *
    refine wp_block ?_
    refine wp_seq_k (fun K hK => ?_);refine region_sk [0, 1, 2] [3, 4, 5] hF fun C hC => ?_;clear hF;refine zm rfl rfl rfl ?_;refine zs2 31 33 rfl rfl rfl ?_;refine zs1 36 rfl rfl ?_;refine hC _ (fun a hF => ?_);clear hC C;refine seq_one ?_;refine ze0 rfl rfl rfl hF rfl ?_;clear hF;refine fun a hF => ?_;refine seq_ck [4] [5] hF fun C hC => ?_;clear hF;refine za rfl rfl rfl ?_;refine hC _ (fun a hF => ?_);clear hC C;refine seq_one ?_;refine zu2 13 37 rfl rfl hF rfl rfl rfl ?_;clear hF;refine fun a hF => ?_;refine seq_end ?_;replace hF := hF.kp [1, 2, 3, 4, 10, 11, 12, 13, 20, 21, 22, 31, 32, 33] rfl;refine hK _ _ ?_;clear hK;(try clear K)
    have HY : Hid (BlkIn (w4.alloc (.cells #[.string (bs b.name), .slice b.ra b.rn b.rc, .int .i64 b.at'] 57)) w4.heap.size b) := World.alloc_heap_new w4 _
    have HBa := Lib.hid (Joins.below_alloc1 w4 (.cells #[.string (bs b.name), .slice b.ra b.rn b.rc, .int .i64 b.at'] 57))
    have HC5 := Lib.hid (HC.out.down HBa.out)
    have HT5 : Hid (TUpd ChkT w (w4.alloc (.cells #[.string (bs b.name), .slice b.ra b.rn b.rc, .int .i64 b.at'] 57))) := HT.out.trans (TUpd.of_below HBa.out)
    have HX5 := Lib.hid (HX.out.down HBa.out)
    clear HC HT HX HBa c0 c1 c2 hba
    generalize w4.alloc (.cells #[.string (bs b.name), .slice b.ra b.rn b.rc, .int .i64 b.at'] 57) = w5 at *
    obtain ⟨gb, hgb⟩ : ∃ gb, gb = w4.heap.size := ⟨_, rfl⟩
    rw [← hgb] at hF HY
    clear hgb
    refine wp_seq_k (fun K hK => ?_);refine region_sk [0, 1, 2] [3] hF fun C hC => ?_;clear hF;refine zm rfl rfl rfl ?_;refine zm rfl rfl rfl ?_;refine zm rfl rfl rfl ?_;refine hC _ (fun a hF => ?_);clear hC C;refine seq_one ?_;refine op_callv [_, _] _ _ rfl rfl hF rfl rfl (by first | assumption | kernel_rfl) ⟨rfl, rfl, trivial⟩ (fun K hK => ?_);clear hF
    refine (HBA.out w5 HC5.out).mono ?_
    rintro en w6 ⟨rfl, hc6, ht6⟩
    have HC6 := Lib.hid hc6
    have HT6 : Hid (TUpd ChkT w w6) := HT5.out.trans ht6
    have HX6 := Lib.hid (HX5.out.tupd ht6 chk_lev)
    have HY6 := Lib.hid (HY.out.tupd ht6 chk_blk)
    clear hc6 ht6 HC5 HT5 HX5 HY HBA
    refine hK _ _ (fun a hF => ?_);clear hK K;refine seq_end ?_;replace hF := hF.kp [1, 2, 3, 4, 10, 11, 12, 13, 20, 21, 22, 31, 32, 33] rfl;refine hK _ _ ?_;clear hK;(try clear K)
    obtain ⟨d0, d1, d2⟩ := HY6.out.cells
    have HAR : Hid (∀ k, (atF b.rows (fR b) k).length ≤ k * 1) := atF_len fun r _ k => rowFault_len _ _ _
    have hrn : b.rn ≤ 8 := HBS.out.2
    refine wp_seq_k (fun K hK => ?_);refine region_sk [0, 1, 2, 3] [] hF fun C hC => ?_;clear hF;refine zs1 13 rfl rfl ?_;refine zs1 42 rfl rfl ?_;refine zs1 43 rfl rfl ?_;refine zm rfl rfl rfl ?_;refine hC _ (fun a hF => ?_);clear hC C;refine seq_end ?_;replace hF := hF.kp [1, 2, 3, 4, 10, 11, 12, 20, 21, 22, 31, 32, 33, 44, 45] rfl;refine hK _ _ ?_;clear hK;(try clear K)
    refine wp_block ?_
    refine loop_fr (fun n a' w' => ∃ k : Nat, k + n = b.rn ∧ FrF 67 [] [(1, .func (.func 22) #[.pointer (some ⟨g, 0, none⟩)] #[]), (2, .func (.func 23) #[.pointer (some ⟨g, 0, none⟩)] #[]), (3, .func (.func 24) #[.pointer (some ⟨g, 0, none⟩)] #[]), (4, .func (.func 25) #[.pointer (some ⟨g, 0, none⟩)] #[]), (10, .int .i64 i), (11, .pointer (some ⟨gl, 0, none⟩)), (12, .int .i64 j), (20, .slice h.la h.ln h.lc), (21, .int .i64 h.ln), (22, .int .i64 i), (31, .slice l.ba l.bn l.bc), (32, .int .i64 l.bn), (33, .int .i64 j), (44, .int .i64 b.rn), (45, .int .i64 k)] a' ∧ Hid (Chk w0 h g w' (L ++ atF h.levels (fL h) i ++ levelFault h.levels i l ++ atF l.blocks (fB l) (j) ++ blockFault l.blocks j b ++ atF b.rows (fR b) (k))) ∧ Hid (TUpd ChkT w w') ∧ Hid (LevIn w' gl l)) b.rn ⟨0, by omega, hF, by rw [atF_zero, List.append_nil]; exact HC6, HT6, HX6⟩ ?_
    clear hF HC6 HT6 HX6 HY6 d0 d1 d2
    rintro rq a w7 ⟨k, hkk, hF, HC, HT, HX⟩ KG hKG
    refine wp_seq_k (fun K hK => ?_)
    by_cases hltk : k < b.rn
    rotate_left
    · refine region_sk [0] [] hF fun C hC => ?_;clear hF;refine zs2 44 45 rfl rfl rfl ?_;refine hC _ (fun a hF => ?_);clear hC C;refine seq_end ?_;replace hF := hF.kp [1, 2, 3, 4, 10, 11, 12, 20, 21, 22, 31, 32, 33, 44, 45, 46] rfl;refine hK _ _ ?_;clear hK;(try clear K);refine wp_seq_k (fun K hK => ?_)
      refine cond_no hF rfl ?_
      refine wp_exit ?_
      have hke : k = b.rows.length := by rw [HBS.out.1]; omega
      refine hKF _ _ ⟨hF.sub ⟨rfl, rfl, rfl, rfl, rfl, rfl, rfl, rfl, rfl, rfl, rfl, rfl, trivial⟩, ?_, HT, HX⟩
      rw [HAN2.out]
      have := HC.out
      rw [hke, atF_all] at this
      show Chk w0 h g w7 _
      simpa only [fB, List.append_assoc] using this
    refine region_sk [0] [] hF fun C hC => ?_;clear hF;refine zs2 44 45 rfl rfl rfl ?_;refine hC _ (fun a hF => ?_);clear hC C;refine seq_end ?_;replace hF := hF.kp [1, 2, 3, 4, 10, 11, 12, 20, 21, 22, 31, 32, 33, 44, 45, 46] rfl;refine hK _ _ ?_;clear hK;(try clear K);refine wp_seq_k (fun K hK => ?_)
    refine cond_yes hF rfl ?_
    refine wp_skip ?_
    refine hK _ _ ?_;clear hK;(try clear K);replace hF := hF.kp [1, 2, 3, 4, 10, 11, 12, 20, 21, 22, 31, 32, 33, 44, 45] rfl
    clear hKF
    have hkl : k < b.rows.length := by rw [HBS.out.1]; exact hltk
    have HAN3 := Lib.hid (atF_next (fR b) hkl)
    have HARK := Lib.hid (HAR.out k)
    refine seq_cut (fun a' w' => FrF 67 [] [(1, .func (.func 22) #[.pointer (some ⟨g, 0, none⟩)] #[]), (2, .func (.func 23) #[.pointer (some ⟨g, 0, none⟩)] #[]), (3, .func (.func 24) #[.pointer (some ⟨g, 0, none⟩)] #[]), (4, .func (.func 25) #[.pointer (some ⟨g, 0, none⟩)] #[]), (10, .int .i64 i), (11, .pointer (some ⟨gl, 0, none⟩)), (12, .int .i64 j), (20, .slice h.la h.ln h.lc), (21, .int .i64 h.ln), (22, .int .i64 i), (31, .slice l.ba l.bn l.bc), (32, .int .i64 l.bn), (33, .int .i64 j), (44, .int .i64 b.rn), (45, .int .i64 k)] a' ∧ Hid (Chk w0 h g w' (L ++ atF h.levels (fL h) i ++ levelFault h.levels i l ++ atF l.blocks (fB l) (j) ++ blockFault l.blocks j b ++ atF b.rows (fR b) (k + 1))) ∧ Hid (TUpd ChkT w w') ∧ Hid (LevIn w' gl l)) (fun KH hKH => ?_) ?_
    rotate_left
    · clear hF HC HT HX
      rintro a w' ⟨hF, HC, HT, HX⟩
      have hws : IntKind.i64.wrap ((k : Int) + 1) = ((k + 1 : Nat) : Int) := wrap_succ (by omega)
      refine region_sk [0, 1] [] hF fun C hC => ?_;clear hF;refine zs1 45 rfl rfl ?_;refine zm rfl rfl rfl ?_;refine hC _ (fun a hF => ?_);clear hC C;refine seq_end ?_;replace hF := hF.kp [1, 2, 3, 4, 10, 11, 12, 20, 21, 22, 31, 32, 33, 44, 45] rfl
      exact hKG (b.rn - (k + 1)) _ _ (by omega) ⟨k + 1, by omega, hF, HC, HT, HX⟩
    clear hKG hkk
    refine wp_block ?_
    refine wp_seq_k (fun K hK => ?_);refine region_sk [0, 1] [] hF fun C hC => ?_;clear hF;refine zm rfl rfl rfl ?_;refine za rfl rfl rfl ?_;refine hC _ (fun a hF => ?_);clear hC C;refine seq_end ?_;replace hF := hF.kp [1, 2, 3, 4, 10, 11, 12, 14, 20, 21, 22, 31, 32, 33, 44, 45] rfl;refine hK _ _ ?_;clear hK;(try clear K);refine region_sk [0, 1, 2, 3] [4] hF fun C hC => ?_;clear hF;refine zm rfl rfl rfl ?_;refine zm rfl rfl rfl ?_;refine zm rfl rfl rfl ?_;refine zm rfl rfl rfl ?_;refine hC _ (fun a hF => ?_);clear hC C;refine seq_one ?_;refine op_callv [_, _, _] _ _ rfl rfl hF rfl rfl (by first | assumption | kernel_rfl) ⟨rfl, rfl, rfl, trivial⟩ (fun K hK => ?_);clear hF
    refine (row_any w0 h g w7 _ i j k HC.out (by have := HAI.out; have := HLN1.out; have := HABJ.out; have := HBL1.out; have := HARK.out; simp only [List.length_append]; omega) HI.out l HLE.out b HBE.out b.rows[k] (List.getElem?_eq_getElem hkl) (HMNB.out _ (List.getElem_mem hkl))).mono ?_
    rintro en w8 ⟨rfl, hc8, ht8⟩
    have HC8 := Lib.hid hc8
    clear hc8
    refine hK _ _ (fun a hF => ?_);clear hK K;refine seq_end ?_;replace hF := hF.kp [1, 2, 3, 4, 10, 11, 12, 20, 21, 22, 31, 32, 33, 44, 45] rfl
    refine hKH _ _ ⟨hF, ?_, HT.out.trans ht8, HX.out.tupd ht8 chk_lev⟩
    rw [HAN3.out]
    show Chk w0 h g w8 _
    have := HC8.out
    simpa only [fR, List.append_assoc] using this
  clear hF HC3 HT3 HX3
  rintro a w4 ⟨hF, HC, HT, HX⟩
  rw [atF_all] at HC
  have HZL : Hid ((l.blocks.zipIdx.flatMap (fB l)).length ≤ 54) := by
    have := HAB.out l.blocks.length
    rw [atF_all] at this
    have h2 := HLS.out.1
    show _ ≤ _
    omega
  obtain ⟨d0, d1, d2, d3, d4, d5, d6, d7⟩ := HX.out.cells
  have HAA : Hid (∀ q, (atF l.areas (fA l) q).length ≤ q * 1) := atF_len fun a _ q => areaFault_len _ _ _
  refine wp_seq_k (fun K hK => ?_);refine region_sk [0, 1, 2, 3] [] hF fun C hC => ?_;clear hF;refine zs1 11 rfl rfl ?_;refine zs1 55 rfl rfl ?_;refine zs1 56 rfl rfl ?_;refine zm rfl rfl rfl ?_;refine hC _ (fun a hF => ?_);clear hC C;refine seq_end ?_;replace hF := hF.kp [1, 2, 3, 4, 10, 20, 21, 22, 57, 58] rfl;refine hK _ _ ?_;clear hK;(try clear K)
  refine wp_block ?_
  refine loop_fr (fun n a' w' => ∃ q : Nat, q + n = l.an ∧ FrF 67 [] [(1, .func (.func 22) #[.pointer (some ⟨g, 0, none⟩)] #[]), (2, .func (.func 23) #[.pointer (some ⟨g, 0, none⟩)] #[]), (3, .func (.func 24) #[.pointer (some ⟨g, 0, none⟩)] #[]), (4, .func (.func 25) #[.pointer (some ⟨g, 0, none⟩)] #[]), (10, .int .i64 i), (20, .slice h.la h.ln h.lc), (21, .int .i64 h.ln), (22, .int .i64 i), (57, .int .i64 l.an), (58, .int .i64 q)] a' ∧ Hid (Chk w0 h g w' (L ++ atF h.levels (fL h) i ++ levelFault h.levels i l ++ l.blocks.zipIdx.flatMap (fB l) ++ atF l.areas (fA l) (q))) ∧ Hid (TUpd ChkT w w')) l.an ⟨0, by omega, hF, by rw [atF_zero, List.append_nil]; exact HC, HT⟩ ?_
  clear hF HC HT HX d0 d1 d2 d3 d4 d5 d6 d7
  rintro rq a w5 ⟨q, hqk, hF, HC, HT⟩ KE hKE
  refine wp_seq_k (fun K hK => ?_)
  by_cases hltq : q < l.an
  rotate_left
  · refine region_sk [0] [] hF fun C hC => ?_;clear hF;refine zs2 57 58 rfl rfl rfl ?_;refine hC _ (fun a hF => ?_);clear hC C;refine seq_end ?_;replace hF := hF.kp [1, 2, 3, 4, 10, 20, 21, 22, 57, 58, 59] rfl;refine hK _ _ ?_;clear hK;(try clear K);refine wp_seq_k (fun K hK => ?_)
    refine cond_no hF rfl ?_
    refine wp_exit ?_
    have hqe : q = l.areas.length := by rw [HLS.out.2.1]; omega
    refine hKC _ _ ⟨hF.sub ⟨rfl, rfl, rfl, rfl, rfl, rfl, rfl, trivial⟩, ?_, HT⟩
    rw [HAN.out]
    have := HC.out
    rw [hqe, atF_all] at this
    show Chk w0 h g w5 _
    simpa only [fL, List.append_assoc] using this
  refine region_sk [0] [] hF fun C hC => ?_;clear hF;refine zs2 57 58 rfl rfl rfl ?_;refine hC _ (fun a hF => ?_);clear hC C;refine seq_end ?_;replace hF := hF.kp [1, 2, 3, 4, 10, 20, 21, 22, 57, 58, 59] rfl;refine hK _ _ ?_;clear hK;(try clear K);refine wp_seq_k (fun K hK => ?_)
  refine cond_yes hF rfl ?_
  refine wp_skip ?_
  refine hK _ _ ?_;clear hK;(try clear K);replace hF := hF.kp [1, 2, 3, 4, 10, 20, 21, 22, 57, 58] rfl
  clear hKC
  have hql : q < l.areas.length := by rw [HLS.out.2.1]; exact hltq
  have HAN4 := Lib.hid (atF_next (fA l) hql)
  have HAAQ := Lib.hid (HAA.out q)
  refine seq_cut (fun a' w' => FrF 67 [] [(1, .func (.func 22) #[.pointer (some ⟨g, 0, none⟩)] #[]), (2, .func (.func 23) #[.pointer (some ⟨g, 0, none⟩)] #[]), (3, .func (.func 24) #[.pointer (some ⟨g, 0, none⟩)] #[]), (4, .func (.func 25) #[.pointer (some ⟨g, 0, none⟩)] #[]), (10, .int .i64 i), (20, .slice h.la h.ln h.lc), (21, .int .i64 h.ln), (22, .int .i64 i), (57, .int .i64 l.an), (58, .int .i64 q)] a' ∧ Hid (Chk w0 h g w' (L ++ atF h.levels (fL h) i ++ levelFault h.levels i l ++ l.blocks.zipIdx.flatMap (fB l) ++ atF l.areas (fA l) (q + 1))) ∧ Hid (TUpd ChkT w w')) (fun KH hKH => ?_) ?_
  rotate_left
  · clear hF HC HT
    rintro a w' ⟨hF, HC, HT⟩
    have hws : IntKind.i64.wrap ((q : Int) + 1) = ((q + 1 : Nat) : Int) := wrap_succ (by omega)
    refine region_sk [0, 1] [] hF fun C hC => ?_;clear hF;refine zs1 58 rfl rfl ?_;refine zm rfl rfl rfl ?_;refine hC _ (fun a hF => ?_);clear hC C;refine seq_end ?_;replace hF := hF.kp [1, 2, 3, 4, 10, 20, 21, 22, 57, 58] rfl
    exact hKE (l.an - (q + 1)) _ _ (by omega) ⟨q + 1, by omega, hF, HC, HT⟩
  clear hKE hqk
  refine wp_block ?_
  refine wp_seq_k (fun K hK => ?_);refine region_sk [0, 1] [] hF fun C hC => ?_;clear hF;refine zm rfl rfl rfl ?_;refine za rfl rfl rfl ?_;refine hC _ (fun a hF => ?_);clear hC C;refine seq_end ?_;replace hF := hF.kp [1, 2, 3, 4, 10, 15, 20, 21, 22, 57, 58] rfl;refine hK _ _ ?_;clear hK;(try clear K);refine region_sk [0, 1, 2] [3] hF fun C hC => ?_;clear hF;refine zm rfl rfl rfl ?_;refine zm rfl rfl rfl ?_;refine zm rfl rfl rfl ?_;refine hC _ (fun a hF => ?_);clear hC C;refine seq_one ?_;refine op_callv [_, _] _ _ rfl rfl hF rfl rfl (by first | assumption | kernel_rfl) ⟨rfl, rfl, trivial⟩ (fun K hK => ?_);clear hF
  refine (area_any w0 h g w5 _ i q HC.out (by have := HAI.out; have := HLN1.out; have := HZL.out; have := HAAQ.out; simp only [List.length_append]; omega) HI.out l HLE.out hql).mono ?_
  rintro en w8 ⟨rfl, hc8, ht8⟩
  have HC8 := Lib.hid hc8
  clear hc8
  refine hK _ _ (fun a hF => ?_);clear hK K;refine seq_end ?_;replace hF := hF.kp [1, 2, 3, 4, 10, 20, 21, 22, 57, 58] rfl
  refine hKH _ _ ⟨hF, ?_, HT.out.trans ht8⟩
  rw [HAN4.out]
  show Chk w0 h g w8 _
  have := HC8.out
  simpa only [fA, List.append_assoc] using this
end Go.Proofs.Ytmcdhggnpfhlmaa
