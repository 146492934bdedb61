/- hall: several: the walk. -/
import Derived.Test.YtmcdhggnpfhlmaaGreatQHMR10
import Derived.Test.YtmcdhggnpfhlmaaGreatQHMR16
import Derived.Test.YtmcdhggnpfhlmaaGreatQHMR21

set_option linter.unusedVariables false
set_option linter.unusedSimpArgs false
namespace Go.Proofs.YtmcdhggnpfhlmaaGreat
open Go.RowKit Go.IntWalk Go.Maps Go.WideMaps
set_option linter.unusedSimpArgs false
set_option linter.unusedVariables false

set_option maxRecDepth 100000 in
set_option maxHeartbeats 64000000 in
theorem several_any (w0 : World) (h : HallR) (g : Nat) (w : World) (L : List FaultR) (hc : Chk w0 h g w L) (hL : L.length ≤ 700000) (l : LevR) (hl : l.In w0) (hsm : l.Sm) (hrn : ∀ b ∈ l.blocks, b.rn ≤ 8) (hok : ∀ b ∈ l.blocks, ∀ r ∈ b.rows, RowOk r) (hac : l.an ≤ l.ac) :
  Calls Tryz.prog 22 #[.pointer (some ⟨g, 0, none⟩), .agg #[.string (bs l.name), .int .i64 l.height, .slice l.ba l.bn l.bc, .slice l.aa l.an l.ac, .slice l.sa l.sn l.sc, .slice l.pa l.pn l.pc, .slice l.da l.dn l.dc, .int .i64 l.at']] w fun en w' => en = .returned (.tuple #[]) ∧ Chk w0 h g w' (L ++ severalS l) ∧ KUpd (SvT w.heap.size) w w' := by
 have HC := Lib.hid hc
 have HL := Lib.hid hl
 have HOK := Lib.hid hok
 have HBL : Hid (l.blocks.length = l.bn) := hl.blocks.1
 have HAL : Hid (l.areas.length = l.an) := hl.areas.1
 have HRN : Hid (∀ b ∈ l.blocks, b.rows.length = b.rn ∧ b.rn ≤ 8) := fun b hb => ⟨(hl.blk b hb).1.1, hrn b hb⟩
 have HRB : Hid (∀ i, (rowsB l i).length ≤ i * 8) := rowsB_len (fun b hb => by have := HRN.out b hb; omega)
 have hbn : l.bn ≤ 6 := hsm.b
 have hrest := hsm.rest
 have HALL : Hid ((allRows l).length ≤ 48) := by
  have h1 := HRB.out l.blocks.length
  rw [rowsB_all] at h1
  have h2 := HBL.out
  show _ ≤ _
  omega
 clear hc hl hok hsm hrn
 refine enter_fr (N := 156) [.pointer (some ⟨g, 0, none⟩), .agg #[.string (bs l.name), .int .i64 l.height, .slice l.ba l.bn l.bc, .slice l.aa l.an l.ac, .slice l.sa l.sn l.sc, .slice l.pa l.pn l.pc, .slice l.da l.dn l.dc, .int .i64 l.at']] (Tryz.func22) rfl Tryz.ntmps22 (by rfl) (fun a hF => ?_);replace hF := hF.kp [0, 1] rfl;refine wp_seq_k (fun K hK => ?_);refine region_seq (l := [0]) (by kernel_rfl) ?_;refine seq_one ?_;revert hF;refine qe1 fun a hF => ?_;refine seq_end ?_;replace hF := hF.kp [0, 3] rfl;refine hK _ _ ?_;clear hK
 have HX : Hid (LevIn (w.alloc (.cells #[.string (bs l.name), .int .i64 l.height, .slice l.ba l.bn l.bc, .slice l.aa l.an l.ac, .slice l.sa l.sn l.sc, .slice l.pa l.pn l.pc, .slice l.da l.dn l.dc, .int .i64 l.at'] 32)) w.heap.size l) := World.alloc_heap_new w _
 have HBa := Lib.hid (Joins.below_alloc1 w (.cells #[.string (bs l.name), .int .i64 l.height, .slice l.ba l.bn l.bc, .slice l.aa l.an l.ac, .slice l.sa l.sn l.sc, .slice l.pa l.pn l.pc, .slice l.da l.dn l.dc, .int .i64 l.at'] 32))
 have HC1 := Lib.hid (HC.out.down HBa.out)
 have HK1 : Hid (KUpd (SvT w.heap.size) w (w.alloc (.cells #[.string (bs l.name), .int .i64 l.height, .slice l.ba l.bn l.bc, .slice l.aa l.an l.ac, .slice l.sa l.sn l.sc, .slice l.pa l.pn l.pc, .slice l.da l.dn l.dc, .int .i64 l.at'] 32))) := KUpd.of_below HBa.out
 have HS1 : Hid (w.heap.size ≤ (w.alloc (.cells #[.string (bs l.name), .int .i64 l.height, .slice l.ba l.bn l.bc, .slice l.aa l.an l.ac, .slice l.sa l.sn l.sc, .slice l.pa l.pn l.pc, .slice l.da l.dn l.dc, .int .i64 l.at'] 32)).heap.size) := HBa.out.size
 clear HBa
 generalize w.alloc (.cells #[.string (bs l.name), .int .i64 l.height, .slice l.ba l.bn l.bc, .slice l.aa l.an l.ac, .slice l.sa l.sn l.sc, .slice l.pa l.pn l.pc, .slice l.da l.dn l.dc, .int .i64 l.at'] 32) = w1 at *
 obtain ⟨gl, hgl⟩ : ∃ gl, gl = w.heap.size := ⟨_, rfl⟩
 rw [← hgl] at hF HX
 clear hgl
 obtain ⟨c0, c1, c2, c3, c4, c5, c6, c7⟩ := HX.out.cells
 refine wp_seq_k (fun K hK => ?_);revert hF;refine zrp [4] [1, 2, 3] fun a hF => ?_;revert hF;refine zos fun K hK => ?_
 refine (reached_any w1 l (HL.out.aisles.below HC1.out.below) (HL.out.doors.below HC1.out.below) (by omega) HL.out.dn).mono ?_
 rintro e w2 ⟨⟨gk, rfl, hgk, hbr⟩, hb2⟩
 have HBR := Lib.hid hbr
 have HX2 := Lib.hid (HX.out.down hb2)
 have HC2 := Lib.hid (HC1.out.down hb2)
 have HK2 : Hid (KUpd (SvT w.heap.size) w w2) := HK1.out.trans (KUpd.of_below hb2)
 have HS2 : Hid (w.heap.size ≤ w2.heap.size) := Nat.le_trans HS1.out hb2.size
 clear c0 c1 c2 c3 c4 c5 c6 c7 hgk hbr hb2 HX HC1 HK1 HS1
 refine hK _ _ (fun a hF => ?_);clear hK K;refine seq_one ?_;revert hF;refine qe0 fun a hF => ?_;refine seq_one ?_;revert hF;refine qu2 fun a hF => ?_;refine seq_end ?_;replace hF := hF.kp [0, 3, 4] rfl;refine hK _ _ ?_;clear hK
 have HRV : Hid ((w2.alloc (.cells #[.slice (some ⟨gk, 0, none⟩) l.sn l.sn] 39)).heap[w2.heap.size]? = some (.cells #[.slice (some ⟨gk, 0, none⟩) l.sn l.sn] 39 (0, 0))) := World.alloc_heap_new w2 _
 have HBa := Lib.hid (Joins.below_alloc1 w2 (.cells #[.slice (some ⟨gk, 0, none⟩) l.sn l.sn] 39))
 have HBR3 := Lib.hid (HBR.out.of_heap (HBa.out.block gk HBR.out.lt))
 have HX3 := Lib.hid (HX2.out.down HBa.out)
 have HC3 := Lib.hid (HC2.out.down HBa.out)
 have HK3 : Hid (KUpd (SvT w.heap.size) w (w2.alloc (.cells #[.slice (some ⟨gk, 0, none⟩) l.sn l.sn] 39))) := HK2.out.trans (KUpd.of_below HBa.out)
 have HS3 : Hid (w.heap.size ≤ (w2.alloc (.cells #[.slice (some ⟨gk, 0, none⟩) l.sn l.sn] 39)).heap.size) := Nat.le_trans HS2.out HBa.out.size
 clear HBR HX2 HC2 HK2 HS2 HBa
 generalize w2.alloc (.cells #[.slice (some ⟨gk, 0, none⟩) l.sn l.sn] 39) = w3 at *
 obtain ⟨gv, hgv⟩ : ∃ gv, gv = w2.heap.size := ⟨_, rfl⟩
 rw [← hgv] at hF HRV
 clear hgv
 revert hF;refine zrs [5, 2] [0, 3, 5] fun a hF => ?_;refine wp_seq_k (fun K hK => ?_);refine region_seq (l := [0]) (by kernel_rfl) ?_;refine seq_one ?_;revert hF;refine qe0 fun a hF => ?_;refine seq_end ?_;replace hF := hF.kp [0, 3, 5, 6] rfl;refine hK _ _ ?_;clear hK
 have HRR : Hid ((w3.alloc (.cells #[.slice none 0 0] 50)).heap[w3.heap.size]? = some (.cells #[.slice none 0 0] 50 (0, 0))) := World.alloc_heap_new w3 _
 have HBa := Lib.hid (Joins.below_alloc1 w3 (.cells #[.slice none 0 0] 50))
 have HE4 : Hid (SevE w0 h g l gl gv gk w3.heap.size (w3.alloc (.cells #[.slice none 0 0] 50)) L []) := ⟨HC3.out.down HBa.out, HC3.out.below.size, HX3.out.down HBa.out, (HBa.out.block gv (lt_of_block HRV.out)).trans HRV.out, HBR3.out.of_heap (HBa.out.block gk HBR3.out.lt), .slice none 0 0, HRR.out, nil_row⟩
 have HK4 : Hid (KUpd (SvT w.heap.size) w (w3.alloc (.cells #[.slice none 0 0] 50))) := HK3.out.trans (KUpd.of_below HBa.out)
 have HS4 : Hid (w.heap.size ≤ (w3.alloc (.cells #[.slice none 0 0] 50)).heap.size) := Nat.le_trans HS3.out HBa.out.size
 have HSR := HS3
 clear HBR3 HX3 HC3 HK3 HS3 HBa HRV HRR
 generalize w3.alloc (.cells #[.slice none 0 0] 50) = w4 at *
 obtain ⟨gR, hgR⟩ : ∃ gR, gR = w3.heap.size := ⟨_, rfl⟩
 rw [← hgR] at hF HE4 HSR
 clear hgR
 have hmm := @run_makeMap Tryz.prog
 refine wp_seq_k (fun K hK => ?_);refine region_seq (l := [0, 1, 2]) (by kernel_rfl) ?_;refine seq_one ?_;revert hF;refine qe0 fun a hF => ?_
 clear hmm
 have HBa := Lib.hid (Joins.below_alloc1 w4 (.map #[] 0))
 have HTK := Lib.hid (TakenAt.made w4 w0.heap.size)
 have HE5 := Lib.hid (HE4.out.down HBa.out)
 have HK5 : Hid (KUpd (SvT w.heap.size) w (w4.alloc (.map #[] 0))) := HK4.out.trans (KUpd.of_below HBa.out)
 have HSM : Hid (w0.heap.size ≤ w4.heap.size) := HE4.out.chk.below.size
 have HSN : Hid (w.heap.size ≤ w4.heap.size) := HS4.out
 clear HE4 HK4 HS4 HBa
 generalize w4.alloc (.map #[] 0) = w5 at *
 obtain ⟨M, hM⟩ : ∃ M, M = w4.heap.size := ⟨_, rfl⟩
 rw [← hM] at hF HTK HSM HSN
 clear hM
 refine seq_one ?_;revert hF;refine qe0 fun a hF => ?_;refine seq_one ?_;revert hF;refine qu2 fun a hF => ?_;refine seq_end ?_;replace hF := hF.kp [0, 3, 5, 6, 7] rfl;refine hK _ _ ?_;clear hK
 have HMV : Hid ((w5.alloc (.cells #[.map (some M)] 101)).heap[w5.heap.size]? = some (.cells #[.map (some M)] 101 (0, 0))) := World.alloc_heap_new w5 _
 have HBa := Lib.hid (Joins.below_alloc1 w5 (.cells #[.map (some M)] 101))
 have HM : Hid (SevM w0 w h g l gl gv gk gR w5.heap.size M (w5.alloc (.cells #[.map (some M)] 101)) (L ++ sevF (reachS l.aisles l.doors) l (rowsB l 0)) (rowsB l 0) (rowsB l 0)) := by
  obtain ⟨f, hf⟩ := HTK.out
  refine ⟨?_, HMV.out, ⟨0, f, Nat.zero_le _, hf.below HBa.out⟩, HK5.out.trans (KUpd.of_below HBa.out), HSM.out, HSN.out, HSR.out⟩
  have : L ++ sevF (reachS l.aisles l.doors) l (rowsB l 0) = L := List.append_nil L
  rw [this]
  exact HE5.out.down HBa.out
 clear HMV HTK HK5 HSM HSN HSR HE5 HBa
 generalize w5.alloc (.cells #[.map (some M)] 101) = w6 at *
 obtain ⟨gM, hgM⟩ : ∃ gM, gM = w5.heap.size := ⟨_, rfl⟩
 rw [← hgM] at hF HM
 clear hgM
 refine seq_cut (fun a' w' => FrF 156 [] [(0, .pointer (some ⟨g, 0, none⟩)), (3, .pointer (some ⟨gl, 0, none⟩)), (5, .func (.func 54) #[] #[.pointer (some ⟨gl, 0, none⟩), .pointer (some ⟨gv, 0, none⟩)]), (6, .pointer (some ⟨gR, 0, none⟩))] a' ∧ Hid (SevM w0 w h g l gl gv gk gR gM M w' (L ++ sevF (reachS l.aisles l.doors) l (allRows l)) (allRows l) (allRows l))) (fun KA hKA => ?_) ?_
 ·
  obtain ⟨c0, c1, c2, c3, c4, c5, c6, c7⟩ := HM.out.env.lev.cells
  revert hF;refine zrs [4, 4, 4, 1] [0, 3, 5, 6, 7, 30, 31, 32] fun a hF => ?_
  refine wp_block ?_
  refine loop_fr (fun n a' w' => ∃ i : Nat, i + n = l.bn ∧ FrF 156 [] [(0, .pointer (some ⟨g, 0, none⟩)), (3, .pointer (some ⟨gl, 0, none⟩)), (5, .func (.func 54) #[] #[.pointer (some ⟨gl, 0, none⟩), .pointer (some ⟨gv, 0, none⟩)]), (6, .pointer (some ⟨gR, 0, none⟩)), (7, .pointer (some ⟨gM, 0, none⟩)), (30, .slice l.ba l.bn l.bc), (31, .int .i64 l.bn), (32, .int .i64 i)] a' ∧ Hid (SevM w0 w h g l gl gv gk gR gM M w' (L ++ sevF (reachS l.aisles l.doors) l (rowsB l i)) (rowsB l i) (rowsB l i))) l.bn ⟨0, by omega, hF, HM⟩ ?_
  clear hF HM c0 c1 c2 c3 c4 c5 c6 c7
  rintro rk a wr ⟨i, hik, hF, HM⟩ KB hKB
  by_cases hlt : i < l.bn
  rotate_left
  ·
   revert hF;refine zrs [5] [0, 3, 5, 6, 7, 30, 31, 32, 33] fun a hF => ?_;refine wp_seq_k (fun K hK => ?_)
   refine cond_no hF rfl ?_
   refine wp_exit ?_
   have hie : l.blocks.length = i := by rw [HBL.out]; omega
   refine hKA _ _ ⟨hF.sub ⟨rfl, rfl, rfl, rfl, trivial⟩, ?_⟩
   rw [← rowsB_all, hie]
   exact HM
  revert hF;refine zrs [5] [0, 3, 5, 6, 7, 30, 31, 32, 33] fun a hF => ?_;refine wp_seq_k (fun K hK => ?_)
  refine cond_yes hF rfl ?_
  refine wp_skip ?_
  refine hK _ _ ?_;clear hK;replace hF := hF.kp [0, 3, 5, 6, 7, 30, 31, 32] rfl
  clear hKA
  have hil : i < l.blocks.length := by rw [HBL.out]; exact hlt
  have hii : (i : Int) < l.bn := by omega
  have HRI := Lib.hid (HRB.out i)
  have HNX := Lib.hid (rowsB_next l hil)
  obtain ⟨bb, oo, hba, c0, c1, c2⟩ := blk_at (HL.out.blocks.below HM.out.env.chk.below) i hlt hil
  refine seq_cut (fun a' w' => FrF 156 [] [(0, .pointer (some ⟨g, 0, none⟩)), (3, .pointer (some ⟨gl, 0, none⟩)), (5, .func (.func 54) #[] #[.pointer (some ⟨gl, 0, none⟩), .pointer (some ⟨gv, 0, none⟩)]), (6, .pointer (some ⟨gR, 0, none⟩)), (7, .pointer (some ⟨gM, 0, none⟩)), (30, .slice l.ba l.bn l.bc), (31, .int .i64 l.bn), (32, .int .i64 i)] a' ∧ Hid (SevM w0 w h g l gl gv gk gR gM M w' (L ++ sevF (reachS l.aisles l.doors) l (rowsB l (i + 1))) (rowsB l (i + 1)) (rowsB l (i + 1)))) (fun KC hKC => ?_) ?_
  rotate_left
  ·
   clear hF HM c0 c1 c2 hba
   rintro a w' ⟨hF, HM⟩
   have hws : IntKind.i64.wrap ((i : Int) + 1) = ((i + 1 : Nat) : Int) := wrap_succ (by omega)
   revert hF;refine zrg [4, 1] [0, 3, 5, 6, 7, 30, 31, 32] fun a hF => ?_
   exact hKB (l.bn - (i + 1)) _ _ (by omega) ⟨i + 1, by omega, hF, HM⟩
  clear hKB hik
  have hbm : l.blocks[i] ∈ l.blocks := List.getElem_mem hil
  have HBV := Lib.hid (HL.out.blk _ hbm)
  have HBS := Lib.hid (HRN.out _ hbm)
  have HBO := Lib.hid (HOK.out _ hbm)
  clear hbm
  generalize l.blocks[i] = b at *
  refine wp_block ?_
  refine wp_seq_k (fun K hK => ?_);revert hF;refine zrp [5, 4] [2, 3] fun a hF => ?_;refine seq_one ?_;revert hF;refine qe0 fun a hF => ?_;refine seq_one ?_;revert hF;refine qu2 fun a hF => ?_;refine seq_end ?_;replace hF := hF.kp [0, 3, 5, 6, 7, 9, 30, 31, 32] rfl;refine hK _ _ ?_;clear hK
  have HY : Hid (BlkIn (wr.alloc (.cells #[.string (bs b.name), .slice b.ra b.rn b.rc, .int .i64 b.at'] 57)) wr.heap.size b) := World.alloc_heap_new wr _
  have HBa := Lib.hid (Joins.below_alloc1 wr (.cells #[.string (bs b.name), .slice b.ra b.rn b.rc, .int .i64 b.at'] 57))
  have HM2 := Lib.hid (HM.out.down HBa.out)
  clear HM HBa c0 c1 c2 hba
  generalize wr.alloc (.cells #[.string (bs b.name), .slice b.ra b.rn b.rc, .int .i64 b.at'] 57) = w7 at *
  obtain ⟨gb, hgb⟩ : ∃ gb, gb = wr.heap.size := ⟨_, rfl⟩
  rw [← hgb] at hF HY
  clear hgb
  obtain ⟨d0, d1, d2⟩ := HY.out.cells
  have hrn : b.rn ≤ 8 := HBS.out.2
  revert hF;refine zrs [4, 4, 4, 1] [0, 3, 5, 6, 7, 30, 31, 32, 37, 38, 39] fun a hF => ?_
  refine wp_block ?_
  refine loop_fr (fun n a' w' => ∃ k : Nat, k + n = b.rn ∧ FrF 156 [] [(0, .pointer (some ⟨g, 0, none⟩)), (3, .pointer (some ⟨gl, 0, none⟩)), (5, .func (.func 54) #[] #[.pointer (some ⟨gl, 0, none⟩), .pointer (some ⟨gv, 0, none⟩)]), (6, .pointer (some ⟨gR, 0, none⟩)), (7, .pointer (some ⟨gM, 0, none⟩)), (30, .slice l.ba l.bn l.bc), (31, .int .i64 l.bn), (32, .int .i64 i), (37, .slice b.ra b.rn b.rc), (38, .int .i64 b.rn), (39, .int .i64 k)] a' ∧ Hid (SevM w0 w h g l gl gv gk gR gM M w' (L ++ sevF (reachS l.aisles l.doors) l (rowsB l i ++ b.rows.take k)) (rowsB l i ++ b.rows.take k) (rowsB l i ++ b.rows.take k))) b.rn ⟨0, by omega, hF, by rw [List.take_zero, List.append_nil]; exact HM2⟩ ?_
  clear hF HM2 HY d0 d1 d2
  rintro rq a w8 ⟨k, hkk, hF, HM⟩ KG hKG
  by_cases hltk : k < b.rn
  rotate_left
  ·
   revert hF;refine zrs [5] [0, 3, 5, 6, 7, 30, 31, 32, 37, 38, 39, 40] fun a hF => ?_;refine wp_seq_k (fun K hK => ?_)
   refine cond_no hF rfl ?_
   refine wp_exit ?_
   have hke : b.rows.take k = b.rows := List.take_of_length_le (by rw [HBS.out.1]; omega)
   rw [hke, ← HNX.out] at HM
   exact hKC _ _ ⟨hF.sub ⟨rfl, rfl, rfl, rfl, rfl, rfl, rfl, rfl, trivial⟩, HM⟩
  revert hF;refine zrs [5] [0, 3, 5, 6, 7, 30, 31, 32, 37, 38, 39, 40] fun a hF => ?_;refine wp_seq_k (fun K hK => ?_)
  refine cond_yes hF rfl ?_
  refine wp_skip ?_
  refine hK _ _ ?_;clear hK;replace hF := hF.kp [0, 3, 5, 6, 7, 30, 31, 32, 37, 38, 39] rfl
  clear hKC
  have hkl : k < b.rows.length := by rw [HBS.out.1]; exact hltk
  have hki : (k : Int) < b.rn := by omega
  obtain ⟨bb, oo, hra, e0, e1, e2, e3, e4, e5, e6, e7⟩ := row_at (HBV.out.1.below HM.out.env.chk.below) k hltk hkl
  have HTK : Hid (b.rows.take (k + 1) = b.rows.take k ++ [b.rows[k]]) := List.take_succ_eq_append_getElem hkl
  have HBF : Hid ((rowsB l i ++ b.rows.take k).length ≤ 60) := by
   show _ ≤ _
   rw [List.length_append, List.length_take]
   have := HRI.out
   omega
  refine seq_cut (fun a' w' => FrF 156 [] [(0, .pointer (some ⟨g, 0, none⟩)), (3, .pointer (some ⟨gl, 0, none⟩)), (5, .func (.func 54) #[] #[.pointer (some ⟨gl, 0, none⟩), .pointer (some ⟨gv, 0, none⟩)]), (6, .pointer (some ⟨gR, 0, none⟩)), (7, .pointer (some ⟨gM, 0, none⟩)), (30, .slice l.ba l.bn l.bc), (31, .int .i64 l.bn), (32, .int .i64 i), (37, .slice b.ra b.rn b.rc), (38, .int .i64 b.rn), (39, .int .i64 k)] a' ∧ Hid (SevM w0 w h g l gl gv gk gR gM M w' (L ++ sevF (reachS l.aisles l.doors) l (rowsB l i ++ b.rows.take (k + 1))) (rowsB l i ++ b.rows.take (k + 1)) (rowsB l i ++ b.rows.take (k + 1)))) (fun KH hKH => ?_) ?_
  rotate_left
  ·
   clear hF HM e0 e1 e2 e3 e4 e5 e6 e7 hra
   rintro a w' ⟨hF, HM⟩
   have hws : IntKind.i64.wrap ((k : Int) + 1) = ((k + 1 : Nat) : Int) := wrap_succ (by omega)
   revert hF;refine zrg [4, 1] [0, 3, 5, 6, 7, 30, 31, 32, 37, 38, 39] fun a hF => ?_
   exact hKG (b.rn - (k + 1)) _ _ (by omega) ⟨k + 1, by omega, hF, HM⟩
  clear hKG hkk
  have hrm : b.rows[k] ∈ b.rows := List.getElem_mem hkl
  have HRO := Lib.hid (HBO.out _ hrm)
  have HRW := Lib.hid (HBV.out.2.2 _ hrm)
  clear hrm
  rw [HTK.out, ← List.append_assoc] at hKH
  clear HTK HNX
  generalize b.rows[k] = r at *
  generalize rowsB l i ++ b.rows.take k = bf at *
  have HSV : Hid ((sevF (reachS l.aisles l.doors) l bf).length ≤ 6200) := by
   have := sevF_len (reachS l.aisles l.doors) l (rows := bf) (by have := HBF.out; omega)
   have := HBF.out
   show _ ≤ _
   omega
  refine wp_block ?_
  refine wp_seq_k (fun K hK => ?_);revert hF;refine zrp [5, 4] [2, 3] fun a hF => ?_;refine seq_one ?_;revert hF;refine qe0 fun a hF => ?_;refine seq_one ?_;revert hF;refine qu2 fun a hF => ?_;refine seq_end ?_;replace hF := hF.kp [0, 3, 5, 6, 7, 11, 30, 31, 32, 37, 38, 39] rfl;refine hK _ _ ?_;clear hK
  have HZ : Hid (RowIn (w8.alloc (.cells #[.string (bs r.name), .int .i64 r.x, .int .i64 r.y, .int .i64 r.fr, .int .i64 r.to, .int .i64 r.step, .slice r.ma r.mn r.mc, .int .i64 r.at'] 49)) w8.heap.size r) := World.alloc_heap_new w8 _
  have HBa := Lib.hid (Joins.below_alloc1 w8 (.cells #[.string (bs r.name), .int .i64 r.x, .int .i64 r.y, .int .i64 r.fr, .int .i64 r.to, .int .i64 r.step, .slice r.ma r.mn r.mc, .int .i64 r.at'] 49))
  have HM9 := Lib.hid (HM.out.down HBa.out)
  clear HM HBa e0 e1 e2 e3 e4 e5 e6 e7 hra
  generalize w8.alloc (.cells #[.string (bs r.name), .int .i64 r.x, .int .i64 r.y, .int .i64 r.fr, .int .i64 r.to, .int .i64 r.step, .slice r.ma r.mn r.mc, .int .i64 r.at'] 49) = w9 at *
  obtain ⟨gr, hgr⟩ : ∃ gr, gr = w8.heap.size := ⟨_, rfl⟩
  rw [← hgr] at hF HZ
  clear hgr
  refine wp_seq_k (fun K hK => ?_);refine region_seq (l := [0]) (by kernel_rfl) ?_;refine seq_one ?_;revert hF;refine qe0 fun a hF => ?_;refine seq_end ?_;replace hF := hF.kp [0, 3, 5, 6, 7, 11, 12, 30, 31, 32, 37, 38, 39] rfl;refine hK _ _ ?_;clear hK
  have HO : Hid ((w9.alloc (.cells #[.slice none 0 0] 97)).heap[w9.heap.size]? = some (.cells #[.slice none 0 0] 97 (0, 0))) := World.alloc_heap_new w9 _
  have HBa := Lib.hid (Joins.below_alloc1 w9 (.cells #[.slice none 0 0] 97))
  have HM10 := Lib.hid (HM9.out.down HBa.out)
  have HZ10 := Lib.hid (HZ.out.down HBa.out)
  have HSO : Hid (w0.heap.size ≤ w9.heap.size) := HM9.out.env.chk.below.size
  clear HM9 HZ HBa
  generalize w9.alloc (.cells #[.slice none 0 0] 97) = w10 at *
  obtain ⟨gO, hgO⟩ : ∃ gO, gO = w9.heap.size := ⟨_, rfl⟩
  rw [← hgO] at hF HO HSO
  clear hgO
  refine wp_seq_k (fun K hK => ?_);refine region_seq (l := [0, 1]) (by kernel_rfl) ?_;refine seq_one ?_;revert hF;refine qe0 fun a hF => ?_;refine seq_one ?_;revert hF;refine qu1 fun a hF => ?_;refine seq_end ?_;replace hF := hF.kp [0, 3, 5, 6, 7, 11, 12, 13, 30, 31, 32, 37, 38, 39] rfl;refine hK _ _ ?_;clear hK
  have HB : Hid ((w10.alloc (.cells #[.bool false] 4)).heap[w10.heap.size]? = some (.cells #[.bool false] 4 (0, 0))) := World.alloc_heap_new w10 _
  have HBa := Lib.hid (Joins.below_alloc1 w10 (.cells #[.bool false] 4))
  have HM11 := Lib.hid (HM10.out.down HBa.out)
  have HZ11 := Lib.hid (HZ10.out.down HBa.out)
  have HO11 := Lib.hid ((HBa.out.block gO (lt_of_block HO.out)).trans HO.out)
  have HSB : Hid (w0.heap.size ≤ w10.heap.size) := HM10.out.env.chk.below.size
  have HSW : Hid (w.heap.size ≤ w10.heap.size) := HM10.out.upd.size
  have HGK : Hid (w10.heap.size ≠ gk) := fun e => by have := HM10.out.env.rk.lt; omega
  clear HM10 HZ10 HO HBa
  generalize w10.alloc (.cells #[.bool false] 4) = w11 at *
  obtain ⟨gB, hgB⟩ : ∃ gB, gB = w10.heap.size := ⟨_, rfl⟩
  rw [← hgB] at hF HB HSB HSW HGK
  clear hgB
  obtain ⟨ra, rc, N, hN, hsev⟩ := HM11.out.sev HZ11.out HO11.out HB.out HSO.out HSB.out
  have HN := Lib.hid hN
  have HSEV := Lib.hid hsev
  clear hN hsev HO11
  obtain ⟨q0, q1, q2, q3, q4, q5, q6, q7⟩ := HZ11.out.cells
  refine wp_seq_k (fun K hK => ?_);revert hF;refine zrp [4, 7] [2] fun a hF => ?_;revert hF;refine zos fun K hK => ?_
  refine (spots_any w0 l r gr gO gM gR gB gl M ra rc w11 bf N HSEV.out HL.out HRW.out HRO.out (by have := HN.out; have := HBF.out; omega) (by have := HBF.out; omega)).mono ?_
  rintro e w12 ⟨rfl, ⟨v, f, hsf⟩, hku⟩
  have HSF := Lib.hid hsf
  have HKU := Lib.hid hku
  clear q0 q1 q2 q3 q4 q5 q6 q7 HSEV HZ11 hsf hku
  refine hK _ _ (fun a hF => ?_);clear hK K;refine seq_end ?_;replace hF := hF.kp [0, 3, 5, 6, 7, 11, 12, 13, 30, 31, 32, 37, 38, 39] rfl;refine hK _ _ ?_;clear hK
  have d0 : w12.cell? ⟨gO, 0, none⟩ = some v := boxed_cell (j := 0) HSF.out.ov rfl
  have HOL : Hid ((othS bf r.y (seatsS r)).length ≤ 10000) := by
   have h1 := othS_le bf r.y (seatsS r)
   have h2 := seats_len HRO.out
   have h3 := HBF.out
   have h4 : (seatsS r).length * bf.length ≤ 60 * 60 := Nat.mul_le_mul h2 h3
   show _ ≤ _
   omega
  have HOI := Lib.hid (oth_is bf r)
  generalize othS bf r.y (seatsS r) = O at *
  refine wp_seq_k (fun K hK => ?_);revert hF;refine zrp [4] [1] fun a hF => ?_;revert hF;refine zos fun K hK => ?_
  refine (sort_own w0.heap.size O.length v O w12 HSF.out.below.size (by have := HOL.out; omega) HSF.out.orow).mono ?_
  rintro e w13 ⟨rfl, ho13, hg13⟩
  have hml : (O.mergeSort fun x y => decide (x ≤ y)).length = O.length := List.length_mergeSort _
  have HSF13 := Lib.hid (HSF.out.srt (O' := O.mergeSort fun x y => decide (x ≤ y)) hg13 (by rw [hml]; exact ho13))
  have HKU13 : Hid (KUpd (SevT gB M) w11 w13) := HKU.out.trans (HSF.out.kup hg13)
  have HOL2 : Hid ((O.mergeSort fun x y => decide (x ≤ y)).length ≤ 10000) := by rw [hml]; exact HOL.out
  clear d0 HSF HKU ho13 hg13 hml HOL
  generalize (O.mergeSort fun x y => decide (x ≤ y)) = O2 at *
  refine hK _ _ (fun a hF => ?_);clear hK K;refine seq_end ?_;replace hF := hF.kp [0, 3, 5, 6, 7, 11, 12, 13, 30, 31, 32, 37, 38, 39] rfl;refine hK _ _ ?_;clear hK
  refine seq_cut (fun a' w' => FrF 156 [] [(0, .pointer (some ⟨g, 0, none⟩)), (3, .pointer (some ⟨gl, 0, none⟩)), (5, .func (.func 54) #[] #[.pointer (some ⟨gl, 0, none⟩), .pointer (some ⟨gv, 0, none⟩)]), (6, .pointer (some ⟨gR, 0, none⟩)), (7, .pointer (some ⟨gM, 0, none⟩)), (11, .pointer (some ⟨gr, 0, none⟩)), (13, .pointer (some ⟨gB, 0, none⟩)), (30, .slice l.ba l.bn l.bc), (31, .int .i64 l.bn), (32, .int .i64 i), (37, .slice b.ra b.rn b.rc), (38, .int .i64 b.rn), (39, .int .i64 k)] a' ∧ Hid (SevM w0 w h g l gl gv gk gR gM M w' (L ++ sevF (reachS l.aisles l.doors) l bf ++ ((bf.filter fun x => shareB r x).map fun x => (⟨13, r.at', x.at'⟩ : FaultR))) (bf) (bf ++ [r])) ∧ Hid (RowIn w' gr r) ∧ Hid (w'.heap[gB]? = some (.cells #[.bool (blockedB l r)] 4 (0, 0)))) (fun KJ hKJ => ?_) ?_
  ·
   clear hKH
   have d0 : w13.cell? ⟨gO, 0, none⟩ = some v := boxed_cell (j := 0) HSF13.out.ov rfl
   refine wp_seq_k (fun K hK => ?_);revert hF;refine zrp [4] [1, 2, 3] fun a hF => ?_;revert hF;refine zos fun K hK => ?_
   refine (compact_own w0.heap.size O2.length v O2 w13 (by have := HOL2.out; omega) HSF13.out.orow).mono ?_
   rintro e w14 ⟨u, rfl, hu14, hg14, _⟩
   obtain ⟨hb14, hr14, hT14, hmv14, hbv14⟩ := HSF13.out.rest hg14
   rw [HOI.out] at hu14
   have HM14 := Lib.hid (HM11.out.after (rowsT := bf ++ [r]) (HKU13.out.trans (HSF13.out.kup hg14)) HSW.out HGK.out ⟨_, HB.out⟩ hb14 hT14 (by
    rw [List.length_append, List.length_singleton]
    have := HN.out
    have := seats_len HRO.out
    omega) hmv14)
   have HR14 := Lib.hid hr14
   have HV14 := Lib.hid hbv14
   have HSH : Hid (∀ j ∈ shrS bf r, j < bf.length) := fun j hj => shr_lt hj
   have HSF := Lib.hid (shr_faults bf r)
   have HSL : Hid ((shrS bf r).length ≤ bf.length) := by
    show (List.filter _ _).length ≤ _
    exact Nat.le_trans (List.length_filter_le _ _) (by simp)
   rw [List.length_map] at hu14
   have HU14 := Lib.hid hu14
   clear d0 HSF13 HKU13 HM11 HB hu14 hg14 hb14 hr14 hT14 hmv14 hbv14
   generalize shrS bf r = S at *
   obtain ⟨la, cc, rfl⟩ : ∃ la cc, u = .slice la S.length cc := by
    have h := HU14.out
    rw [← flat_int] at h
    obtain ⟨la, c, e, _⟩ := Rcs.of_own h
    exact ⟨la, c, by rw [e, List.length_map]⟩
   refine hK _ _ (fun a hF => ?_);clear hK K;revert hF;refine zre 2 [4, 1] [0, 3, 5, 6, 7, 11, 13, 30, 31, 32, 37, 38, 39, 49, 50, 51] fun a hF => ?_;refine hK _ _ ?_;clear hK
   refine wp_block ?_
   refine loop_fr (fun n a' w' => ∃ j : Nat, j + n = S.length ∧ FrF 156 [] [(0, .pointer (some ⟨g, 0, none⟩)), (3, .pointer (some ⟨gl, 0, none⟩)), (5, .func (.func 54) #[] #[.pointer (some ⟨gl, 0, none⟩), .pointer (some ⟨gv, 0, none⟩)]), (6, .pointer (some ⟨gR, 0, none⟩)), (7, .pointer (some ⟨gM, 0, none⟩)), (11, .pointer (some ⟨gr, 0, none⟩)), (13, .pointer (some ⟨gB, 0, none⟩)), (30, .slice l.ba l.bn l.bc), (31, .int .i64 l.bn), (32, .int .i64 i), (37, .slice b.ra b.rn b.rc), (38, .int .i64 b.rn), (39, .int .i64 k), (49, .slice la S.length cc), (50, .int .i64 (S.length : Nat)), (51, .int .i64 j)] a' ∧ Hid (SevM w0 w h g l gl gv gk gR gM M w' (L ++ sevF (reachS l.aisles l.doors) l bf ++ (S.take j).map (fun j => (⟨13, r.at', ((bf[j]?).map (·.at')).getD 0⟩ : FaultR))) (bf) (bf ++ [r])) ∧ Hid (RowIn w' gr r) ∧ Hid (w'.heap[gB]? = some (.cells #[.bool (blockedB l r)] 4 (0, 0))) ∧ Hid (w'.ownsRow w0.heap.size 3 1 (.slice la S.length cc) S.length ((S.map Int.ofNat).map (Value.int .i64)))) S.length ⟨0, by omega, hF, by rw [List.take_zero, List.map_nil, List.append_nil]; exact HM14, HR14, HV14, HU14⟩ ?_
   clear hF HM14 HR14 HV14 HU14
   rintro rj a w15 ⟨j, hjk, hF, HM, HR, HV, HU⟩ KN hKN
   by_cases hltj : j < S.length
   rotate_left
   ·
    have hjn : ¬ (j : Int) < (S.length : Nat) := by omega
    revert hF;refine zrs [5] [0, 3, 5, 6, 7, 11, 13, 30, 31, 32, 37, 38, 39, 49, 50, 51, 52] fun a hF => ?_;refine wp_seq_k (fun K hK => ?_)
    refine cond_no hF rfl ?_
    refine wp_exit ?_
    rw [List.take_of_length_le (by omega), HSF.out] at HM
    exact hKJ _ _ ⟨hF.sub ⟨rfl, rfl, rfl, rfl, rfl, rfl, rfl, rfl, rfl, rfl, rfl, rfl, rfl, trivial⟩, HM, HR, HV⟩
   have hji : (j : Int) < (S.length : Nat) := by omega
   revert hF;refine zrs [5] [0, 3, 5, 6, 7, 11, 13, 30, 31, 32, 37, 38, 39, 49, 50, 51, 52] fun a hF => ?_;refine wp_seq_k (fun K hK => ?_)
   refine cond_yes hF rfl ?_
   refine wp_skip ?_
   refine hK _ _ ?_;clear hK;replace hF := hF.kp [0, 3, 5, 6, 7, 11, 13, 30, 31, 32, 37, 38, 39, 49, 50, 51] rfl
   clear hKJ
   have HTJ : Hid (S.take (j + 1) = S.take j ++ [S[j]]) := List.take_succ_eq_append_getElem hltj
   have hsb := HSH.out _ (List.getElem_mem hltj)
   obtain ⟨b15, o15, hla15, k15⟩ := own_int HU.out hltj
   refine seq_cut (fun a' w' => FrF 156 [] [(0, .pointer (some ⟨g, 0, none⟩)), (3, .pointer (some ⟨gl, 0, none⟩)), (5, .func (.func 54) #[] #[.pointer (some ⟨gl, 0, none⟩), .pointer (some ⟨gv, 0, none⟩)]), (6, .pointer (some ⟨gR, 0, none⟩)), (7, .pointer (some ⟨gM, 0, none⟩)), (11, .pointer (some ⟨gr, 0, none⟩)), (13, .pointer (some ⟨gB, 0, none⟩)), (30, .slice l.ba l.bn l.bc), (31, .int .i64 l.bn), (32, .int .i64 i), (37, .slice b.ra b.rn b.rc), (38, .int .i64 b.rn), (39, .int .i64 k), (49, .slice la S.length cc), (50, .int .i64 (S.length : Nat)), (51, .int .i64 j)] a' ∧ Hid (SevM w0 w h g l gl gv gk gR gM M w' (L ++ sevF (reachS l.aisles l.doors) l bf ++ (S.take (j + 1)).map (fun j => (⟨13, r.at', ((bf[j]?).map (·.at')).getD 0⟩ : FaultR))) (bf) (bf ++ [r])) ∧ Hid (RowIn w' gr r) ∧ Hid (w'.heap[gB]? = some (.cells #[.bool (blockedB l r)] 4 (0, 0))) ∧ Hid (w'.ownsRow w0.heap.size 3 1 (.slice la S.length cc) S.length ((S.map Int.ofNat).map (Value.int .i64)))) (fun KQ hKQ => ?_) ?_
   rotate_left
   ·
    clear hF HM HR HV HU hla15 k15
    rintro a w' ⟨hF, HM, HR, HV, HU⟩
    have hws : IntKind.i64.wrap ((j : Int) + 1) = ((j + 1 : Nat) : Int) := wrap_succ (by have := HSL.out; have := HBF.out; omega)
    revert hF;refine zrg [4, 1] [0, 3, 5, 6, 7, 11, 13, 30, 31, 32, 37, 38, 39, 49, 50, 51] fun a hF => ?_
    exact hKN (S.length - (j + 1)) _ _ (by omega) ⟨j + 1, by omega, hF, HM, HR, HV, HU⟩
   clear hKN hjk
   rw [HTJ.out, List.map_append, ← List.append_assoc] at hKQ
   have HJL : Hid ((S.take j).length ≤ 60) := by
    show _ ≤ _
    rw [List.length_take]
    have := HSL.out
    have := HBF.out
    omega
   generalize S[j] = q at *
   refine wp_block ?_
   revert hF;refine zrs [5, 4, 2] [0, 3, 5, 6, 7, 11, 13, 15, 30, 31, 32, 37, 38, 39, 49, 50, 51] fun a hF => ?_
   clear k15 hla15
   have HM16 := Lib.hid (HM.out.down (below_d (Below.refl _ _)))
   have HR16 : Hid (RowIn w15.drew gr r) := HR.out
   have HV16 : Hid (w15.drew.heap[gB]? = some (.cells #[.bool (blockedB l r)] 4 (0, 0))) := HV.out
   have HU16 : Hid (w15.drew.ownsRow w0.heap.size 3 1 (.slice la S.length cc) S.length ((S.map Int.ofNat).map (Value.int .i64))) := HU.out
   clear HM HR HV HU
   obtain ⟨rla, rcc, hgR, hrecs, _⟩ := HM16.out.env.recs
   have f6 : w15.drew.cell? ⟨gR, 0, none⟩ = some (.slice rla bf.length rcc) := boxed_cell (j := 0) hgR rfl
   obtain ⟨rb, ro, hrla, _, _, _, _, _, _, _, f7⟩ := row_at hrecs q hsb hsb
   obtain ⟨_, _, _, _, _, _, _, g7⟩ := HR16.out.cells
   have hqi : (q : Int) < (bf.length : Nat) := by omega
   have HAT : Hid (((bf[q]?).map (·.at')).getD 0 = bf[q].at') := by
    show _ = _
    rw [List.getElem?_eq_getElem hsb]
    rfl
   clear hgR hrecs
   generalize bf[q].at' = qa at *
   refine region_any (by kernel_rfl) ?_;revert hF;refine zra (fuel := 1) [1, 41, 84, 116, 129, 170, 201, 244] [8] fun a hF => ?_;refine any_one (n := 8) (fuel := 0) (by kernel_rfl) ?_;revert hF;refine zoc fun K hK => ?_
   refine (add_any w0 h g w15.drew _ 13 r.at' qa HM16.out.env.chk (by have := HSV.out; have := HJL.out; simp only [List.length_append, List.length_map]; omega)).mono ?_
   rintro e w16 ⟨rfl, hc16, ht16⟩
   have HC16 := Lib.hid hc16
   have HT16 := Lib.hid ht16
   clear f6 f7 g7 hrla hqi hc16 ht16
   refine hK _ _ (fun a hF => ?_);clear hK K;refine any_end (by kernel_rfl) ?_;replace hF := hF.kp [0, 3, 5, 6, 7, 11, 13, 30, 31, 32, 37, 38, 39, 49, 50, 51] rfl
   refine hKQ _ _ ⟨hF, ?_, HT16.out.keep HR16.out (by unfold ChkT; decide), HT16.out.keep HV16.out (by unfold ChkT; decide), ?_⟩
   ·
    have := HM16.out.add HC16.out HT16.out
    rw [List.map_cons, List.map_nil, HAT.out]
    exact this
   ·
    refine row_of_heap HU16.out fun b hb => ?_
    obtain ⟨cur, hh⟩ := own_type HU16.out hb
    rw [hh]
    exact HT16.out.keep hh (by unfold ChkT; decide)
  clear hF HSF13 HKU13 HM11 HB HSO HSB HSW HGK HN HOL2 HOI
  rintro a w14 ⟨hF, HM, HR, HV⟩
  have HFL : Hid ((bf.filter fun x => shareB r x).length ≤ 60) := Nat.le_trans (List.length_filter_le _ _) HBF.out
  refine seq_cut (fun a' w' => FrF 156 [] [(0, .pointer (some ⟨g, 0, none⟩)), (3, .pointer (some ⟨gl, 0, none⟩)), (5, .func (.func 54) #[] #[.pointer (some ⟨gl, 0, none⟩), .pointer (some ⟨gv, 0, none⟩)]), (6, .pointer (some ⟨gR, 0, none⟩)), (7, .pointer (some ⟨gM, 0, none⟩)), (11, .pointer (some ⟨gr, 0, none⟩)), (30, .slice l.ba l.bn l.bc), (31, .int .i64 l.bn), (32, .int .i64 i), (37, .slice b.ra b.rn b.rc), (38, .int .i64 b.rn), (39, .int .i64 k)] a' ∧ Hid (SevM w0 w h g l gl gv gk gR gM M w' (L ++ sevF (reachS l.aisles l.doors) l bf ++ ((bf.filter fun x => shareB r x).map fun x => (⟨13, r.at', x.at'⟩ : FaultR)) ++ (if blockedB l r then [(⟨13, r.at', -1⟩ : FaultR)] else [])) (bf) (bf ++ [r])) ∧ Hid (RowIn w' gr r)) (fun KJ hKJ => ?_) ?_
  ·
   clear hKH
   have d0 : w14.cell? ⟨gB, 0, none⟩ = some (.bool (blockedB l r)) := boxed_cell (j := 0) HV.out rfl
   obtain ⟨bl, hbl⟩ : ∃ y, blockedB l r = y := ⟨_, rfl⟩
   rw [hbl] at d0 hKJ
   clear hbl HV
   obtain ⟨_, _, _, _, _, _, _, g7⟩ := HR.out.cells
   revert hF;refine zrs [4] [0, 3, 5, 6, 7, 11, 30, 31, 32, 37, 38, 39, 65] fun a hF => ?_
   cases bl
   ·
    refine cond_no hF rfl ?_
    refine wp_skip ?_
    refine hKJ _ _ ⟨hF.sub ⟨rfl, rfl, rfl, rfl, rfl, rfl, rfl, rfl, rfl, rfl, rfl, rfl, trivial⟩, ?_, HR⟩
    rw [if_neg (by decide), List.append_nil]
    exact HM
   ·
    refine cond_yes hF rfl ?_
    revert hF;refine zrp [1, 4, 4] [3] fun a hF => ?_;revert hF;refine zos fun K hK => ?_
    refine (add_any w0 h g w14 _ 13 r.at' (-1) HM.out.env.chk (by have := HSV.out; have := HFL.out; have := HBF.out; simp only [List.length_append, List.length_map]; omega)).mono ?_
    rintro e w16 ⟨rfl, hc16, ht16⟩
    have HC16 := Lib.hid hc16
    have HT16 := Lib.hid ht16
    clear g7 d0 hc16 ht16
    refine hK _ _ (fun a hF => ?_);clear hK K;refine seq_end ?_;replace hF := hF.kp [0, 3, 5, 6, 7, 11, 30, 31, 32, 37, 38, 39] rfl
    refine hKJ _ _ ⟨hF, ?_, HT16.out.keep HR.out (by unfold ChkT; decide)⟩
    rw [if_pos rfl]
    exact HM.out.add HC16.out HT16.out
  clear hF HM HR HV
  rintro a w17 ⟨hF, HM, HR⟩
  have hcx := HRO.out.cx
  have hcst := HRO.out.st
  have hcst2 := HRW.out.step
  have hcf := HRO.out.fr
  have hct := HRO.out.to
  have hcft := HRO.out.ft
  refine seq_cut (fun a' w' => ∃ g1 g2, FrF 156 [] [(0, .pointer (some ⟨g, 0, none⟩)), (3, .pointer (some ⟨gl, 0, none⟩)), (5, .func (.func 54) #[] #[.pointer (some ⟨gl, 0, none⟩), .pointer (some ⟨gv, 0, none⟩)]), (6, .pointer (some ⟨gR, 0, none⟩)), (7, .pointer (some ⟨gM, 0, none⟩)), (11, .pointer (some ⟨gr, 0, none⟩)), (16, .pointer (some ⟨g1, 0, none⟩)), (17, .pointer (some ⟨g2, 0, none⟩)), (30, .slice l.ba l.bn l.bc), (31, .int .i64 l.bn), (32, .int .i64 i), (37, .slice b.ra b.rn b.rc), (38, .int .i64 b.rn), (39, .int .i64 k)] a' ∧ Hid (SevM w0 w h g l gl gv gk gR gM M w' (L ++ sevF (reachS l.aisles l.doors) l bf ++ ((bf.filter fun x => shareB r x).map fun x => (⟨13, r.at', x.at'⟩ : FaultR)) ++ (if blockedB l r then [(⟨13, r.at', -1⟩ : FaultR)] else [])) (bf) (bf ++ [r])) ∧ Hid (RowIn w' gr r) ∧ Hid (w'.heap[g1]? = some (.cells #[.int .i64 (leftS r)] 3 (0, 0))) ∧ Hid (w'.heap[g2]? = some (.cells #[.int .i64 (rightS r)] 3 (0, 0)))) (fun KJ hKJ => ?_) ?_
  ·
   clear hKH
   have hw1 : IntKind.i64.wrap (r.x - r.step) = r.x - r.step := wrap_in (by omega) (by omega)
   have hw2 : IntKind.i64.wrap (r.to - r.fr) = r.to - r.fr := wrap_in (by omega) (by omega)
   have hw3 : IntKind.i64.wrap (r.to - r.fr + 1) = r.to - r.fr + 1 := wrap_in (by omega) (by omega)
   obtain ⟨pr, hpr⟩ : ∃ x, IntKind.i64.wrap ((r.to - r.fr + 1) * r.step) = x := ⟨_, rfl⟩
   have hw4 : IntKind.i64.wrap (r.x + pr) = rightS r := by rw [← hpr, wrap_right]; rfl
   have HM2 := Lib.hid (HM.out.down (below_d (Below.refl _ _)))
   have HR2 : Hid (RowIn w17.drew gr r) := HR.out
   clear HM HR hcx hcst hcst2 hcf hct hcft
   obtain ⟨_, q1, _, q3, q4, q5, _, _⟩ := HR2.out.cells
   have HST : Hid (∀ w', Below w17.drew.heap.size w17.drew w' → Below w17.drew.heap.size w17.drew w' ∧ w'.cell? ⟨gr, 1, none⟩ = some (.int .i64 r.x) ∧ w'.cell? ⟨gr, 3, none⟩ = some (.int .i64 r.fr) ∧ w'.cell? ⟨gr, 4, none⟩ = some (.int .i64 r.to) ∧ w'.cell? ⟨gr, 5, none⟩ = some (.int .i64 r.step)) := fun w' hb => ⟨hb, Below.cell_of hb q1, Below.cell_of hb q3, Below.cell_of hb q4, Below.cell_of hb q5⟩
   clear q1 q3 q4 q5
   refine region_any (by kernel_rfl) ?_;generalize w17.drew = wd at *;revert hF;refine zhc (fuel := 4) (fun w' => Below wd.heap.size wd w' ∧ w'.cell? ⟨gr, 1, none⟩ = some (.int .i64 r.x) ∧ w'.cell? ⟨gr, 3, none⟩ = some (.int .i64 r.fr) ∧ w'.cell? ⟨gr, 4, none⟩ = some (.int .i64 r.to) ∧ w'.cell? ⟨gr, 5, none⟩ = some (.int .i64 r.step)) (HST.out _ (Below.refl _ _)) [8, 19, 40, 51, 72, 88, 99, 120, 131, 152, 163, 184, 200, 216, 227, 248, 264] fun a hF => ?_;refine held_two (n := 17) (m := 18) (fuel := 3) (by kernel_rfl) ?_ ?_
   ·
    revert hF;refine qe0 fun a hF => ⟨?_, ?_⟩
    ·
     intro _
     exact HST.out _ (Joins.below_alloc1 wd (.cells #[.int .i64 0] 3))
    have hx0 : (wd.alloc (.cells #[.int .i64 0] 3)).heap[wd.heap.size]? = some (.cells #[.int .i64 0] 3 (0, 0)) := World.alloc_heap_new _ _
    have hbx := Joins.below_alloc1 wd (.cells #[.int .i64 0] 3)
    generalize wd.alloc (.cells #[.int .i64 0] 3) = w18 at *
    obtain ⟨s16, hs16⟩ : ∃ s, s = wd.heap.size := ⟨_, rfl⟩
    rw [← hs16] at hF hx0
    have HX0 := Lib.hid hx0
    have HBX := Lib.hid hbx
    have HSZ : Hid (s16 = wd.heap.size) := hs16
    clear hs16 hx0 hbx
    refine held_one (n := 18) (fuel := 2) (by kernel_rfl) ?_;revert hF;refine qe0 fun a hF => ⟨?_, ?_⟩
    ·
     intro _
     exact HST.out _ (HBX.out.trans ((Joins.below_alloc1 w18 (.cells #[.int .i64 0] 3)).mono HBX.out.size))
    have hy0 : (w18.alloc (.cells #[.int .i64 0] 3)).heap[w18.heap.size]? = some (.cells #[.int .i64 0] 3 (0, 0)) := World.alloc_heap_new _ _
    have hby := Joins.below_alloc1 w18 (.cells #[.int .i64 0] 3)
    have hx1 := (hby.block s16 (lt_of_block HX0.out)).trans HX0.out
    have hne : w18.heap.size ≠ s16 := fun e => by have := lt_of_block HX0.out; omega
    have HBY : Hid (Below wd.heap.size wd (w18.alloc (.cells #[.int .i64 0] 3))) := HBX.out.trans (hby.mono HBX.out.size)
    have hsy : wd.heap.size ≤ w18.heap.size := HBX.out.size
    generalize w18.alloc (.cells #[.int .i64 0] 3) = w19 at *
    obtain ⟨s17, hs17⟩ : ∃ s, s = w18.heap.size := ⟨_, rfl⟩
    rw [← hs17] at hF hy0 hne hsy
    have HX1 := Lib.hid hx1
    have HY1 := Lib.hid hy0
    have HNE := Lib.hid hne
    have HSY := Lib.hid hsy
    clear hs17 hy0 hby hx1 hne hsy HX0 HBX
    have c16 : w19.cell? ⟨s16, 0, none⟩ = some (.int .i64 0) := boxed_cell (j := 0) HX1.out rfl
    have f16 := free_var (o := 0) HX1.out
    refine held_one (n := 19) (fuel := 1) (by kernel_rfl) ?_;revert hF;refine qu2 fun a hF => ⟨?_, ?_⟩
    ·
     intro _
     exact HST.out _ (HBY.out.trans (below_set (by rw [HSZ.out]; exact Nat.le_refl _)))
    have HA16 := Lib.hid (set_var (v := .int .i64 (r.x - r.step)) HX1.out)
    have HA17 : Hid ((w19.setCell ⟨s16, 0, none⟩ (.int .i64 (r.x - r.step))).heap[s17]? = some (.cells #[.int .i64 0] 3 (0, 0))) := by
     show _ = _
     rw [Below.heap_setCell _ _ _ _ (by simpa using fun e => HNE.out e)]
     exact HY1.out
    have HBZ : Hid (Below wd.heap.size wd (w19.setCell ⟨s16, 0, none⟩ (.int .i64 (r.x - r.step)))) := HBY.out.trans (below_set (by rw [HSZ.out]; exact Nat.le_refl _))
    clear c16 f16 HX1 HY1 HBY
    generalize w19.setCell ⟨s16, 0, none⟩ (.int .i64 (r.x - r.step)) = w20 at *
    have c17 : w20.cell? ⟨s17, 0, none⟩ = some (.int .i64 0) := boxed_cell (j := 0) HA17.out rfl
    have f17 := free_var (o := 0) HA17.out
    refine held_one (n := 20) (fuel := 0) (by kernel_rfl) ?_;revert hF;refine qu2 fun a hF => ⟨?_, ?_⟩
    ·
     intro _
     exact HST.out _ (HBZ.out.trans (below_set HSY.out))
    have hb21 : Below wd.heap.size wd (w20.setCell ⟨s17, 0, none⟩ (.int .i64 (rightS r))) := HBZ.out.trans (below_set HSY.out)
    have hz16 : (w20.setCell ⟨s17, 0, none⟩ (.int .i64 (rightS r))).heap[s16]? = some (.cells #[.int .i64 (r.x - r.step)] 3 (0, 0)) := by
     rw [Below.heap_setCell _ _ _ _ (by simpa using fun e => (fun e => HNE.out e) e.symm)]
     exact HA16.out
    have HFIN := Lib.hid (And.intro (HM2.out.down hb21) (And.intro (HR2.out.down hb21) (And.intro hz16 (set_var (v := .int .i64 (rightS r)) HA17.out))))
    clear hb21 hz16 c17 f17 HBZ
    refine held_end (by kernel_rfl) ?_;replace hF := hF.kp [0, 3, 5, 6, 7, 11, 16, 17, 30, 31, 32, 37, 38, 39] rfl
    exact hKJ _ _ ⟨s16, s17, hF, HFIN.out.1, HFIN.out.2.1, HFIN.out.2.2.1, HFIN.out.2.2.2⟩
   ·
    revert hF;refine qe0 fun a hF => ⟨?_, ?_⟩
    ·
     intro _
     exact HST.out _ (Joins.below_alloc1 wd (.cells #[.int .i64 0] 3))
    have hx0 : (wd.alloc (.cells #[.int .i64 0] 3)).heap[wd.heap.size]? = some (.cells #[.int .i64 0] 3 (0, 0)) := World.alloc_heap_new _ _
    have hbx := Joins.below_alloc1 wd (.cells #[.int .i64 0] 3)
    generalize wd.alloc (.cells #[.int .i64 0] 3) = w18 at *
    obtain ⟨s17, hs17⟩ : ∃ s, s = wd.heap.size := ⟨_, rfl⟩
    rw [← hs17] at hF hx0
    have HX0 := Lib.hid hx0
    have HBX := Lib.hid hbx
    have HSZ : Hid (s17 = wd.heap.size) := hs17
    clear hs17 hx0 hbx
    refine held_one (n := 17) (fuel := 2) (by kernel_rfl) ?_;revert hF;refine qe0 fun a hF => ⟨?_, ?_⟩
    ·
     intro _
     exact HST.out _ (HBX.out.trans ((Joins.below_alloc1 w18 (.cells #[.int .i64 0] 3)).mono HBX.out.size))
    have hy0 : (w18.alloc (.cells #[.int .i64 0] 3)).heap[w18.heap.size]? = some (.cells #[.int .i64 0] 3 (0, 0)) := World.alloc_heap_new _ _
    have hby := Joins.below_alloc1 w18 (.cells #[.int .i64 0] 3)
    have hx1 := (hby.block s17 (lt_of_block HX0.out)).trans HX0.out
    have hne : w18.heap.size ≠ s17 := fun e => by have := lt_of_block HX0.out; omega
    have HBY : Hid (Below wd.heap.size wd (w18.alloc (.cells #[.int .i64 0] 3))) := HBX.out.trans (hby.mono HBX.out.size)
    have hsy : wd.heap.size ≤ w18.heap.size := HBX.out.size
    generalize w18.alloc (.cells #[.int .i64 0] 3) = w19 at *
    obtain ⟨s16, hs16⟩ : ∃ s, s = w18.heap.size := ⟨_, rfl⟩
    rw [← hs16] at hF hy0 hne hsy
    have HX1 := Lib.hid hx1
    have HY1 := Lib.hid hy0
    have HNE := Lib.hid hne
    have HSY := Lib.hid hsy
    clear hs16 hy0 hby hx1 hne hsy HX0 HBX
    have c16 : w19.cell? ⟨s16, 0, none⟩ = some (.int .i64 0) := boxed_cell (j := 0) HY1.out rfl
    have f16 := free_var (o := 0) HY1.out
    refine held_one (n := 19) (fuel := 1) (by kernel_rfl) ?_;revert hF;refine qu2 fun a hF => ⟨?_, ?_⟩
    ·
     intro _
     exact HST.out _ (HBY.out.trans (below_set HSY.out))
    have HA16 := Lib.hid (set_var (v := .int .i64 (r.x - r.step)) HY1.out)
    have HA17 : Hid ((w19.setCell ⟨s16, 0, none⟩ (.int .i64 (r.x - r.step))).heap[s17]? = some (.cells #[.int .i64 0] 3 (0, 0))) := by
     show _ = _
     rw [Below.heap_setCell _ _ _ _ (by simpa using fun e => HNE.out e.symm)]
     exact HX1.out
    have HBZ : Hid (Below wd.heap.size wd (w19.setCell ⟨s16, 0, none⟩ (.int .i64 (r.x - r.step)))) := HBY.out.trans (below_set HSY.out)
    clear c16 f16 HX1 HY1 HBY
    generalize w19.setCell ⟨s16, 0, none⟩ (.int .i64 (r.x - r.step)) = w20 at *
    have c17 : w20.cell? ⟨s17, 0, none⟩ = some (.int .i64 0) := boxed_cell (j := 0) HA17.out rfl
    have f17 := free_var (o := 0) HA17.out
    refine held_one (n := 20) (fuel := 0) (by kernel_rfl) ?_;revert hF;refine qu2 fun a hF => ⟨?_, ?_⟩
    ·
     intro _
     exact HST.out _ (HBZ.out.trans (below_set (by rw [HSZ.out]; exact Nat.le_refl _)))
    have hb21 : Below wd.heap.size wd (w20.setCell ⟨s17, 0, none⟩ (.int .i64 (rightS r))) := HBZ.out.trans (below_set (by rw [HSZ.out]; exact Nat.le_refl _))
    have hz16 : (w20.setCell ⟨s17, 0, none⟩ (.int .i64 (rightS r))).heap[s16]? = some (.cells #[.int .i64 (r.x - r.step)] 3 (0, 0)) := by
     rw [Below.heap_setCell _ _ _ _ (by simpa using fun e => (fun e => HNE.out e.symm) e.symm)]
     exact HA16.out
    have HFIN := Lib.hid (And.intro (HM2.out.down hb21) (And.intro (HR2.out.down hb21) (And.intro hz16 (set_var (v := .int .i64 (rightS r)) HA17.out))))
    clear hb21 hz16 c17 f17 HBZ
    refine held_end (by kernel_rfl) ?_;replace hF := hF.kp [0, 3, 5, 6, 7, 11, 16, 17, 30, 31, 32, 37, 38, 39] rfl
    exact hKJ _ _ ⟨s16, s17, hF, HFIN.out.1, HFIN.out.2.1, HFIN.out.2.2.1, HFIN.out.2.2.2⟩
  clear hF HM HR hcx hcst hcst2 hcf hct hcft
  rintro a w18 ⟨g1, g2, hF, HM, HR, H1, H2⟩
  refine seq_cut (fun a' w' => FrF 156 [] [(0, .pointer (some ⟨g, 0, none⟩)), (3, .pointer (some ⟨gl, 0, none⟩)), (5, .func (.func 54) #[] #[.pointer (some ⟨gl, 0, none⟩), .pointer (some ⟨gv, 0, none⟩)]), (6, .pointer (some ⟨gR, 0, none⟩)), (7, .pointer (some ⟨gM, 0, none⟩)), (11, .pointer (some ⟨gr, 0, none⟩)), (30, .slice l.ba l.bn l.bc), (31, .int .i64 l.bn), (32, .int .i64 i), (37, .slice b.ra b.rn b.rc), (38, .int .i64 b.rn), (39, .int .i64 k)] a' ∧ Hid (SevM w0 w h g l gl gv gk gR gM M w' (L ++ sevF (reachS l.aisles l.doors) l bf ++ ((bf.filter fun x => shareB r x).map fun x => (⟨13, r.at', x.at'⟩ : FaultR)) ++ (if blockedB l r then [(⟨13, r.at', -1⟩ : FaultR)] else []) ++ (if besideB (reachS l.aisles l.doors) l r then [] else [(⟨14, r.at', -1⟩ : FaultR)])) (bf) (bf ++ [r])) ∧ Hid (RowIn w' gr r)) (fun KJ hKJ => ?_) ?_
  ·
   clear hKH
   have c1 : w18.cell? ⟨g1, 0, none⟩ = some (.int .i64 (leftS r)) := boxed_cell (j := 0) H1.out rfl
   have c2 : w18.cell? ⟨g2, 0, none⟩ = some (.int .i64 (rightS r)) := boxed_cell (j := 0) H2.out rfl
   have cv : w18.cell? ⟨gv, 0, none⟩ = some (.slice (some ⟨gk, 0, none⟩) l.sn l.sn) := boxed_cell (j := 0) HM.out.env.rv rfl
   obtain ⟨_, _, cy, _, _, _, _, _⟩ := HR.out.cells
   have HBE : Hid (besideB (reachS l.aisles l.doors) l r = openB (reachS l.aisles l.doors) l fun b => insideB b (leftS r) r.y || insideB b (rightS r) r.y) := rfl
   have HOP := Lib.hid (open_any w18 l gl gv gk (reachS l.aisles l.doors) 59 [.pointer (some ⟨g1, 0, none⟩), .pointer (some ⟨gr, 0, none⟩), .pointer (some ⟨g2, 0, none⟩)] (fun b => insideB b (leftS r) r.y || insideB b (rightS r) r.y) (by kernel_rfl) HM.out.env.lev (HL.out.aisles.below HM.out.env.chk.below) HL.out.sn cv HM.out.env.rk (by rw [reachS_len]; exact HL.out.aisles.1)
    (fun wx hb b => beside_any wx b g1 gr g2 (leftS r) (rightS r) r.y (Below.cell_of hb c1) (Below.cell_of hb cy) (Below.cell_of hb c2)))
   rw [← HBE.out] at HOP
   clear c1 c2 cv cy HBE H1 H2
   obtain ⟨y, hy⟩ : ∃ y, besideB (reachS l.aisles l.doors) l r = y := ⟨_, rfl⟩
   rw [hy] at HOP hKJ
   clear hy
   obtain ⟨_, _, _, _, _, _, _, g7⟩ := HR.out.cells
   refine wp_seq_k (fun K hK => ?_);revert hF;refine zrp [1, 6] [2, 3] fun a hF => ?_;refine seq_one ?_;refine op_callv [_] _ _ rfl rfl hF rfl rfl (by first | assumption | kernel_rfl) ⟨rfl, trivial⟩ (fun K hK => ?_);clear hF
   refine HOP.out.mono ?_
   rintro e w19 ⟨rfl, hb19⟩
   have HM19 := Lib.hid (HM.out.down hb19)
   have HR19 := Lib.hid (HR.out.down hb19)
   clear g7 HM HR hb19 HOP
   obtain ⟨_, _, _, _, _, _, _, g7⟩ := HR19.out.cells
   cases y
   ·
    refine hK _ _ (fun a hF => ?_);clear hK K;revert hF;refine zre 3 [4] [0, 3, 5, 6, 7, 11, 30, 31, 32, 37, 38, 39, 90] fun a hF => ?_;refine hK _ _ ?_;clear hK
    refine cond_yes hF rfl ?_
    revert hF;refine zrp [1, 4, 4] [3] fun a hF => ?_;revert hF;refine zos fun K hK => ?_
    have HBI : Hid ((if blockedB l r = true then [(⟨13, r.at', -1⟩ : FaultR)] else []).length ≤ 1) := by show _ ≤ _; split <;> simp
    refine (add_any w0 h g w19 _ 14 r.at' (-1) HM19.out.env.chk (by have := HSV.out; have := HFL.out; have := HBF.out; have := HBI.out; simp only [List.length_append, List.length_map]; omega)).mono ?_
    rintro e w20 ⟨rfl, hc20, ht20⟩
    have HC20 := Lib.hid hc20
    have HT20 := Lib.hid ht20
    clear g7 hc20 ht20
    refine hK _ _ (fun a hF => ?_);clear hK K;refine seq_end ?_;replace hF := hF.kp [0, 3, 5, 6, 7, 11, 30, 31, 32, 37, 38, 39] rfl
    refine hKJ _ _ ⟨hF, ?_, HT20.out.keep HR19.out (by unfold ChkT; decide)⟩
    rw [if_neg (show ¬ (false = true) by decide)]
    exact HM19.out.add HC20.out HT20.out
   ·
    refine hK _ _ (fun a hF => ?_);clear hK K;revert hF;refine zre 3 [4] [0, 3, 5, 6, 7, 11, 30, 31, 32, 37, 38, 39, 90] fun a hF => ?_;refine hK _ _ ?_;clear hK
    refine cond_no hF rfl ?_
    refine wp_skip ?_
    refine hKJ _ _ ⟨hF.sub ⟨rfl, rfl, rfl, rfl, rfl, rfl, rfl, rfl, rfl, rfl, rfl, rfl, trivial⟩, ?_, HR19⟩
    rw [if_pos (show (true = true) from rfl), List.append_nil]
    exact HM19
  clear hF HM HR H1 H2
  rintro a w19 ⟨hF, HM, HR⟩
  obtain ⟨q0, q1, q2, q3, q4, q5, q6, q7⟩ := HR.out.cells
  obtain ⟨rv, hrv, hrow⟩ := HM.out.env.row
  have HROW := Lib.hid hrow
  have HRV := Lib.hid hrv
  have d6 : w19.cell? ⟨gR, 0, none⟩ = some rv := boxed_cell (j := 0) hrv rfl
  clear hrow hrv
  revert hF;refine zrp [4, 4] [2, 3, 4] fun a hF => ?_;refine seq_one ?_;revert hF;refine qe1 fun a hF => ?_
  have HNR := Lib.hid (recs_alloc RowE w19 49 [r] #[.string (bs r.name), .int .i64 r.x, .int .i64 r.y, .int .i64 r.fr, .int .i64 r.to, .int .i64 r.step, .slice r.ma r.mn r.mc, .int .i64 r.at'] rfl)
  have HBa := Lib.hid (Joins.below_alloc1 w19 (.cells #[.string (bs r.name), .int .i64 r.x, .int .i64 r.y, .int .i64 r.fr, .int .i64 r.to, .int .i64 r.step, .slice r.ma r.mn r.mc, .int .i64 r.at'] 49))
  have HM20 := Lib.hid (HM.out.down HBa.out)
  have HRV20 := Lib.hid ((HBa.out.block gR (lt_of_block HRV.out)).trans HRV.out)
  have HROW20 := Lib.hid (row_of_heap HROW.out fun b hb => HBa.out.block b (HROW.out.lt b hb).2)
  clear q0 q1 q2 q3 q4 q5 q6 q7 d6 HM HR HROW HRV HBa
  generalize w19.alloc (.cells #[.string (bs r.name), .int .i64 r.x, .int .i64 r.y, .int .i64 r.fr, .int .i64 r.to, .int .i64 r.step, .slice r.ma r.mn r.mc, .int .i64 r.at'] 49) = w20 at *
  obtain ⟨v', w21, hAPP, ho, hg, _⟩ := append_recs (E := RowE) 50 49 50 Tryz.underlying50 info_row rfl (by decide) HROW20.out (u := .slice (some ⟨w19.heap.size, 0, none⟩) 1 1) ⟨_, _, rfl, HNR.out, fun h => by cases h⟩ (by have := HBF.out; simp; omega) HM20.out.env.chk.below.size
  obtain ⟨la4, lc4, rfl, _⟩ := OwnRecs.of_row ho
  have hR21 : w21.heap[gR]? = some (.cells #[rv] 50 (0, 0)) := (hg.block gR (lt_of_block HRV20.out) (fun e => by
   obtain ⟨cur, hh⟩ := own_type HROW20.out e.symm
   exact type_ne HRV20.out hh (by decide) rfl)).trans HRV20.out
  have c6 : w21.cell? ⟨gR, 0, none⟩ = some rv := boxed_cell (j := 0) hR21 rfl
  have f6 := free_var (o := 0) hR21
  have HFIN := Lib.hid (HM20.out.push (r := r) HRV20.out HROW20.out (by rw [List.length_append]; exact ho) hg)
  clear ho hg hR21 HM20 HRV20 HROW20 HNR
  refine seq_one ?_;refine op_append rfl rfl rfl rfl rfl hF rfl rfl rfl hAPP (fun a hF => ?_);clear hAPP;refine seq_one ?_;revert hF;refine qu2 fun a hF => ?_
  clear c6 f6
  refine seq_end ?_;replace hF := hF.kp [0, 3, 5, 6, 7, 30, 31, 32, 37, 38, 39] rfl
  refine hKH _ _ ⟨hF, ?_⟩
  rw [sevF_next]
  have := HFIN.out
  unfold rowFaults
  simp only [List.append_assoc] at this ⊢
  exact this
 clear hF HM
 rintro a w7 ⟨hF, HM⟩
 have HOKA : Hid (∀ r ∈ allRows l, RowOk r ∧ r.In w0) := fun r hr => by
  obtain ⟨b, hb, hr⟩ := List.mem_flatMap.1 hr
  exact ⟨HOK.out b hb r hr, (HL.out.blk b hb).2.2 r hr⟩
 have HE := Lib.hid HM.out.env
 have HK := Lib.hid HM.out.upd
 have HSVA : Hid ((sevF (reachS l.aisles l.doors) l (allRows l)).length ≤ 5000) := by
  have := sevF_len (reachS l.aisles l.doors) l (rows := allRows l) (by have := HALL.out; omega)
  have := HALL.out
  show _ ≤ _
  omega
 clear HM HOK HRN HRB
 obtain ⟨c0, c1, c2, c3, c4, c5, c6, c7⟩ := HE.out.lev.cells
 revert hF;refine zrs [4, 4, 4, 1] [0, 3, 5, 6, 102, 103, 104] fun a hF => ?_
 refine wp_block ?_
 refine loop_fr (fun n a' w' => ∃ i : Nat, i + n = l.an ∧ FrF 156 [] [(0, .pointer (some ⟨g, 0, none⟩)), (3, .pointer (some ⟨gl, 0, none⟩)), (5, .func (.func 54) #[] #[.pointer (some ⟨gl, 0, none⟩), .pointer (some ⟨gv, 0, none⟩)]), (6, .pointer (some ⟨gR, 0, none⟩)), (102, .slice l.aa l.an l.ac), (103, .int .i64 l.an), (104, .int .i64 i)] a' ∧ Hid (SevE w0 h g l gl gv gk gR w' (L ++ sevF (reachS l.aisles l.doors) l (allRows l) ++ arF (reachS l.aisles l.doors) l i) (allRows l)) ∧ Hid (KUpd (SvT w.heap.size) w w')) l.an ⟨0, by omega, hF, by have : arF (reachS l.aisles l.doors) l 0 = [] := rfl; rw [this, List.append_nil]; exact HE, HK⟩ ?_
 clear hF HE HK c0 c1 c2 c3 c4 c5 c6 c7
 rintro rk a w8 ⟨i, hik, hF, HE, HK⟩ KB hKB
 by_cases hlt : i < l.an
 rotate_left
 ·
  revert hF;refine zrs [5] [0, 3, 5, 6, 102, 103, 104, 105] fun a hF => ?_;refine wp_seq_k (fun K hK => ?_)
  refine cond_no hF rfl ?_
  refine wp_exit ?_
  (try simp only [then_exit, block_exit, block_norm, goto_norm, ↓reduceIte, Nat.reduceEqDiff]);refine end_fr (fn := Tryz.f22) (rs := []) rfl [] hF trivial ?_
  have hie : i = l.areas.length := by rw [HAL.out]; omega
  refine ⟨rfl, ?_, HK.out⟩
  show Chk w0 h g w8 (L ++ severalR (reachS l.aisles l.doors) l)
  rw [several_eq, ← hie, ← List.append_assoc]
  exact HE.out.chk
 revert hF;refine zrs [5] [0, 3, 5, 6, 102, 103, 104, 105] fun a hF => ?_;refine wp_seq_k (fun K hK => ?_)
 refine cond_yes hF rfl ?_
 refine wp_skip ?_
 refine hK _ _ ?_;clear hK;replace hF := hF.kp [0, 3, 5, 6, 102, 103, 104] rfl
 have hil : i < l.areas.length := by rw [HAL.out]; exact hlt
 have hii : (i : Int) < l.an := by omega
 have HNX := Lib.hid (arF_next (reachS l.aisles l.doors) l hil)
 have HAF : Hid ((arF (reachS l.aisles l.doors) l i).length ≤ 20000) := by
  have := arF_len (reachS l.aisles l.doors) l (by have := HALL.out; omega) (by have := HAL.out; omega) i
  show _ ≤ _
  omega
 obtain ⟨bb, oo, haa, d0, d1, d2, d3, d4, d5, d6⟩ := area_at (HL.out.areas.below HE.out.chk.below) i hlt hil
 refine seq_cut (fun a' w' => FrF 156 [] [(0, .pointer (some ⟨g, 0, none⟩)), (3, .pointer (some ⟨gl, 0, none⟩)), (5, .func (.func 54) #[] #[.pointer (some ⟨gl, 0, none⟩), .pointer (some ⟨gv, 0, none⟩)]), (6, .pointer (some ⟨gR, 0, none⟩)), (102, .slice l.aa l.an l.ac), (103, .int .i64 l.an), (104, .int .i64 i)] a' ∧ Hid (SevE w0 h g l gl gv gk gR w' (L ++ sevF (reachS l.aisles l.doors) l (allRows l) ++ arF (reachS l.aisles l.doors) l (i + 1)) (allRows l)) ∧ Hid (KUpd (SvT w.heap.size) w w')) (fun KC hKC => ?_) ?_
 rotate_left
 ·
  clear hF HE HK d0 d1 d2 d3 d4 d5 d6 haa
  rintro a w' ⟨hF, HE, HK⟩
  have hws : IntKind.i64.wrap ((i : Int) + 1) = ((i + 1 : Nat) : Int) := wrap_succ (by omega)
  revert hF;refine zrg [4, 1] [0, 3, 5, 6, 102, 103, 104] fun a hF => ?_
  exact hKB (l.an - (i + 1)) _ _ (by omega) ⟨i + 1, by omega, hF, HE, HK⟩
 clear hKB hik
 rw [HNX.out] at hKC
 clear HNX
 unfold areaFaults at hKC
 simp only [← List.append_assoc] at hKC
 generalize l.areas[i] = ar at *
 refine wp_block ?_
 refine wp_seq_k (fun K hK => ?_);revert hF;refine zrp [1, 5, 4] [3, 4, 5] fun a hF => ?_;refine seq_one ?_;revert hF;refine qe0 fun a hF => ?_;revert hF;refine zrc 4 [2] [5] fun a hF => ?_;refine seq_one ?_;revert hF;refine qu2 fun a hF => ?_;refine seq_end ?_;replace hF := hF.kp [0, 3, 5, 6, 18, 19, 102, 103, 104] rfl;refine hK _ _ ?_;clear hK
 have HX : Hid (AreaIn (w8.alloc (.cells #[.string (bs ar.name), .int .i64 ar.box.x, .int .i64 ar.box.y, .int .i64 ar.box.x2, .int .i64 ar.box.y2, .int .i64 ar.holds, .int .i64 ar.at'] 61)) w8.heap.size ar) := World.alloc_heap_new w8 _
 have HBa := Lib.hid (Joins.below_alloc1 w8 (.cells #[.string (bs ar.name), .int .i64 ar.box.x, .int .i64 ar.box.y, .int .i64 ar.box.x2, .int .i64 ar.box.y2, .int .i64 ar.holds, .int .i64 ar.at'] 61))
 have HE9 := Lib.hid (HE.out.down HBa.out)
 have HK9 : Hid (KUpd (SvT w.heap.size) w (w8.alloc (.cells #[.string (bs ar.name), .int .i64 ar.box.x, .int .i64 ar.box.y, .int .i64 ar.box.x2, .int .i64 ar.box.y2, .int .i64 ar.holds, .int .i64 ar.at'] 61))) := HK.out.trans (KUpd.of_below HBa.out)
 clear HE HK HBa d0 d1 d2 d3 d4 d5 d6
 generalize w8.alloc (.cells #[.string (bs ar.name), .int .i64 ar.box.x, .int .i64 ar.box.y, .int .i64 ar.box.x2, .int .i64 ar.box.y2, .int .i64 ar.holds, .int .i64 ar.at'] 61) = w9 at *
 obtain ⟨ga, hga⟩ : ∃ ga, ga = w8.heap.size := ⟨_, rfl⟩
 rw [← hga] at hF HX
 clear hga
 have HFL : Hid (((allRows l).filter fun r => inAreaB ar r).length ≤ 48) := Nat.le_trans (List.length_filter_le _ _) HALL.out
 refine seq_cut (fun a' w' => FrF 156 [] [(0, .pointer (some ⟨g, 0, none⟩)), (3, .pointer (some ⟨gl, 0, none⟩)), (5, .func (.func 54) #[] #[.pointer (some ⟨gl, 0, none⟩), .pointer (some ⟨gv, 0, none⟩)]), (6, .pointer (some ⟨gR, 0, none⟩)), (18, .int .i64 i), (19, .pointer (some ⟨ga, 0, none⟩)), (102, .slice l.aa l.an l.ac), (103, .int .i64 l.an), (104, .int .i64 i)] a' ∧ Hid (SevE w0 h g l gl gv gk gR w' (L ++ sevF (reachS l.aisles l.doors) l (allRows l) ++ arF (reachS l.aisles l.doors) l i ++ (((allRows l).filter fun r => inAreaB ar r).map fun r => (⟨13, ar.at', r.at'⟩ : FaultR))) (allRows l)) ∧ Hid (AreaIn w' ga ar) ∧ Hid (KUpd (SvT w.heap.size) w w')) (fun KD hKD => ?_) ?_
 ·
  clear hKC
  obtain ⟨rla, rcc, hR, hrecs, _⟩ := HE9.out.recs
  obtain ⟨rv, hrv, hro⟩ := HE9.out.row
  rw [hR] at hrv
  obtain rfl : .slice rla (allRows l).length rcc = rv := by simpa using hrv
  have HU := Lib.hid hro
  have c6 : w9.cell? ⟨gR, 0, none⟩ = some (.slice rla (allRows l).length rcc) := boxed_cell (j := 0) hR rfl
  clear hR hrecs hrv hro
  revert hF;refine zrs [4, 4, 1] [0, 3, 5, 6, 18, 19, 102, 103, 104, 109, 110, 111] fun a hF => ?_
  refine wp_block ?_
  refine loop_fr (fun n a' w' => ∃ q : Nat, q + n = (allRows l).length ∧ FrF 156 [] [(0, .pointer (some ⟨g, 0, none⟩)), (3, .pointer (some ⟨gl, 0, none⟩)), (5, .func (.func 54) #[] #[.pointer (some ⟨gl, 0, none⟩), .pointer (some ⟨gv, 0, none⟩)]), (6, .pointer (some ⟨gR, 0, none⟩)), (18, .int .i64 i), (19, .pointer (some ⟨ga, 0, none⟩)), (102, .slice l.aa l.an l.ac), (103, .int .i64 l.an), (104, .int .i64 i), (109, .slice rla (allRows l).length rcc), (110, .int .i64 ((allRows l).length : Nat)), (111, .int .i64 q)] a' ∧ Hid (SevE w0 h g l gl gv gk gR w' (L ++ sevF (reachS l.aisles l.doors) l (allRows l) ++ arF (reachS l.aisles l.doors) l i ++ ((((allRows l).take q).filter fun r => inAreaB ar r).map fun r => (⟨13, ar.at', r.at'⟩ : FaultR))) (allRows l)) ∧ Hid (AreaIn w' ga ar) ∧ Hid (KUpd (SvT w.heap.size) w w') ∧ Hid (w'.ownsRow w0.heap.size 49 8 (.slice rla (allRows l).length rcc) (allRows l).length (flat RowE (allRows l)))) (allRows l).length ⟨0, by omega, hF, by rw [List.take_zero, List.filter_nil, List.map_nil, List.append_nil]; exact HE9, HX, HK9, HU⟩ ?_
  clear hF HE9 HX HK9 HU c6
  rintro rq a w10 ⟨q, hqk, hF, HE, HX, HK, HU⟩ KE hKE
  by_cases hltq : q < (allRows l).length
  rotate_left
  ·
   have hqn : ¬ (q : Int) < ((allRows l).length : Nat) := by omega
   revert hF;refine zrs [5] [0, 3, 5, 6, 18, 19, 102, 103, 104, 109, 110, 111, 112] fun a hF => ?_;refine wp_seq_k (fun K hK => ?_)
   refine cond_no hF rfl ?_
   refine wp_exit ?_
   rw [List.take_of_length_le (by omega)] at HE
   exact hKD _ _ ⟨hF.sub ⟨rfl, rfl, rfl, rfl, rfl, rfl, rfl, rfl, rfl, trivial⟩, HE, HX, HK⟩
  have hqi : (q : Int) < ((allRows l).length : Nat) := by omega
  revert hF;refine zrs [5] [0, 3, 5, 6, 18, 19, 102, 103, 104, 109, 110, 111, 112] fun a hF => ?_;refine wp_seq_k (fun K hK => ?_)
  refine cond_yes hF rfl ?_
  refine wp_skip ?_
  refine hK _ _ ?_;clear hK;replace hF := hF.kp [0, 3, 5, 6, 18, 19, 102, 103, 104, 109, 110, 111] rfl
  clear hKD
  have HTQ : Hid ((allRows l).take (q + 1) = (allRows l).take q ++ [(allRows l)[q]]) := List.take_succ_eq_append_getElem hltq
  obtain ⟨hrok, hrin⟩ := HOKA.out _ (List.getElem_mem hltq)
  have HROK := Lib.hid hrok
  have HRIN := Lib.hid hrin
  clear hrok hrin
  obtain ⟨la2, c2, e2, hrecs, _⟩ := Rcs.of_own HU.out
  simp only [Value.slice.injEq] at e2
  obtain ⟨rfl, _, _⟩ := e2
  obtain ⟨rb, ro, hrla, d0, d1, d2, d3, d4, d5, d6, d7⟩ := row_at hrecs q hltq hltq
  clear hrecs
  refine seq_cut (fun a' w' => FrF 156 [] [(0, .pointer (some ⟨g, 0, none⟩)), (3, .pointer (some ⟨gl, 0, none⟩)), (5, .func (.func 54) #[] #[.pointer (some ⟨gl, 0, none⟩), .pointer (some ⟨gv, 0, none⟩)]), (6, .pointer (some ⟨gR, 0, none⟩)), (18, .int .i64 i), (19, .pointer (some ⟨ga, 0, none⟩)), (102, .slice l.aa l.an l.ac), (103, .int .i64 l.an), (104, .int .i64 i), (109, .slice rla (allRows l).length rcc), (110, .int .i64 ((allRows l).length : Nat)), (111, .int .i64 q)] a' ∧ Hid (SevE w0 h g l gl gv gk gR w' (L ++ sevF (reachS l.aisles l.doors) l (allRows l) ++ arF (reachS l.aisles l.doors) l i ++ ((((allRows l).take (q + 1)).filter fun r => inAreaB ar r).map fun r => (⟨13, ar.at', r.at'⟩ : FaultR))) (allRows l)) ∧ Hid (AreaIn w' ga ar) ∧ Hid (KUpd (SvT w.heap.size) w w') ∧ Hid (w'.ownsRow w0.heap.size 49 8 (.slice rla (allRows l).length rcc) (allRows l).length (flat RowE (allRows l)))) (fun KF hKF => ?_) ?_
  rotate_left
  ·
   clear hF HE HX HK HU d0 d1 d2 d3 d4 d5 d6 d7 hrla
   rintro a w' ⟨hF, HE, HX, HK, HU⟩
   have hws : IntKind.i64.wrap ((q : Int) + 1) = ((q + 1 : Nat) : Int) := wrap_succ (by have := HALL.out; omega)
   revert hF;refine zrg [4, 1] [0, 3, 5, 6, 18, 19, 102, 103, 104, 109, 110, 111] fun a hF => ?_
   exact hKE ((allRows l).length - (q + 1)) _ _ (by omega) ⟨q + 1, by omega, hF, HE, HX, HK, HU⟩
  clear hKE hqk
  rw [HTQ.out, List.filter_append, List.map_append, ← List.append_assoc] at hKF
  have HQL : Hid ((((allRows l).take q).filter fun r => inAreaB ar r).length ≤ 48) := by
   refine Nat.le_trans (List.length_filter_le _ _) ?_
   rw [List.length_take]
   have := HALL.out
   omega
  clear HTQ
  generalize (allRows l)[q] = r at *
  refine wp_block ?_
  refine wp_seq_k (fun K hK => ?_);revert hF;refine zrp [5, 4] [2, 3] fun a hF => ?_;refine seq_one ?_;revert hF;refine qe0 fun a hF => ?_;refine seq_one ?_;revert hF;refine qu2 fun a hF => ?_;refine seq_end ?_;replace hF := hF.kp [0, 3, 5, 6, 18, 19, 21, 102, 103, 104, 109, 110, 111] rfl;refine hK _ _ ?_;clear hK
  have HZ : Hid (RowIn (w10.alloc (.cells #[.string (bs r.name), .int .i64 r.x, .int .i64 r.y, .int .i64 r.fr, .int .i64 r.to, .int .i64 r.step, .slice r.ma r.mn r.mc, .int .i64 r.at'] 49)) w10.heap.size r) := World.alloc_heap_new w10 _
  have HBa := Lib.hid (Joins.below_alloc1 w10 (.cells #[.string (bs r.name), .int .i64 r.x, .int .i64 r.y, .int .i64 r.fr, .int .i64 r.to, .int .i64 r.step, .slice r.ma r.mn r.mc, .int .i64 r.at'] 49))
  have HE11 := Lib.hid (HE.out.down HBa.out)
  have HX11 := Lib.hid (HX.out.down HBa.out)
  have HK11 : Hid (KUpd (SvT w.heap.size) w (w10.alloc (.cells #[.string (bs r.name), .int .i64 r.x, .int .i64 r.y, .int .i64 r.fr, .int .i64 r.to, .int .i64 r.step, .slice r.ma r.mn r.mc, .int .i64 r.at'] 49))) := HK.out.trans (KUpd.of_below HBa.out)
  have HU11 := Lib.hid (row_of_heap HU.out fun b hb => HBa.out.block b (HU.out.lt b hb).2)
  clear HE HX HK HU HBa d0 d1 d2 d3 d4 d5 d6 d7 hrla
  generalize w10.alloc (.cells #[.string (bs r.name), .int .i64 r.x, .int .i64 r.y, .int .i64 r.fr, .int .i64 r.to, .int .i64 r.step, .slice r.ma r.mn r.mc, .int .i64 r.at'] 49) = w11 at *
  obtain ⟨gr, hgr⟩ : ∃ gr, gr = w10.heap.size := ⟨_, rfl⟩
  rw [← hgr] at hF HZ
  clear hgr
  refine wp_seq_k (fun K hK => ?_);refine region_seq (l := [0, 1]) (by kernel_rfl) ?_;refine seq_one ?_;revert hF;refine qe0 fun a hF => ?_;refine seq_one ?_;revert hF;refine qu1 fun a hF => ?_;refine seq_end ?_;replace hF := hF.kp [0, 3, 5, 6, 18, 19, 21, 22, 102, 103, 104, 109, 110, 111] rfl;refine hK _ _ ?_;clear hK
  have HB : Hid ((w11.alloc (.cells #[.bool false] 4)).heap[w11.heap.size]? = some (.cells #[.bool false] 4 (0, 0))) := World.alloc_heap_new w11 _
  have HBa := Lib.hid (Joins.below_alloc1 w11 (.cells #[.bool false] 4))
  have HE12 := Lib.hid (HE11.out.down HBa.out)
  have HX12 := Lib.hid (HX11.out.down HBa.out)
  have HZ12 := Lib.hid (HZ.out.down HBa.out)
  have HK12 : Hid (KUpd (SvT w.heap.size) w (w11.alloc (.cells #[.bool false] 4))) := HK11.out.trans (KUpd.of_below HBa.out)
  have HU12 := Lib.hid (row_of_heap HU11.out fun b hb => HBa.out.block b (HU11.out.lt b hb).2)
  have HSB : Hid (w0.heap.size ≤ w11.heap.size) := HE11.out.chk.below.size
  have HSW : Hid (w.heap.size ≤ w11.heap.size) := HK11.out.size
  have HGK : Hid (w11.heap.size ≠ gk) := fun e => by have := HE11.out.rk.lt; omega
  clear HE11 HX11 HZ HK11 HU11 HBa
  generalize w11.alloc (.cells #[.bool false] 4) = w12 at *
  obtain ⟨gi, hgi⟩ : ∃ gi, gi = w11.heap.size := ⟨_, rfl⟩
  rw [← hgi] at hF HB HSB HSW HGK
  clear hgi
  obtain ⟨q0, q1, q2, q3, q4, q5, q6, q7⟩ := HZ12.out.cells
  refine wp_seq_k (fun K hK => ?_);revert hF;refine zrp [4, 6] [2] fun a hF => ?_;revert hF;refine zos fun K hK => ?_
  refine (rowinarea_any w0 w12 ar r HROK.out gi ga gr HE12.out.chk.below HRIN.out HSB.out HB.out HX12.out HZ12.out).mono ?_
  rintro e w13 ⟨rfl, hi13, hu13⟩
  have hku : KUpd (fun b _ => b = gi) w12 w13 := KUpd.of_upd hu13 (fun b o _ h => h)
  have HE13 := Lib.hid (HE12.out.kupd (Upd.below HE12.out.chk.below HE12.out.chk.below.size hu13 (fun b e => by rw [e]; exact HSB.out)) hku (fun b arr T x hh hs => by
   subst hs
   have hB := HB.out
   rw [hB] at hh
   cases hh
   exact ⟨HGK.out, by decide, by decide, by decide, by decide, by decide, by decide⟩))
  have HK13 : Hid (KUpd (SvT w.heap.size) w w13) := HK12.out.trans (hku.wide fun b o e => Or.inl (by rw [e]; exact HSW.out))
  have HX13 : Hid (AreaIn w13 ga ar) := hku.block _ _ HX12.out (fun e => type_ne HX12.out HB.out (by decide) e)
  have HZ13 : Hid (RowIn w13 gr r) := hku.block _ _ HZ12.out (fun e => type_ne HZ12.out HB.out (by decide) e)
  have HU13 : Hid (w13.ownsRow w0.heap.size 49 8 (.slice rla (allRows l).length rcc) (allRows l).length (flat RowE (allRows l))) := (row_of_heap HU12.out fun b hb => by
   obtain ⟨cur, hh⟩ := own_type HU12.out hb
   rw [hh]
   exact hku.block _ _ hh (fun e => type_ne hh HB.out (by decide) e))
  have HI13 : Hid (w13.heap[gi]? = some (.cells #[.bool (inAreaB ar r)] 4 (0, 0))) := hi13
  clear q0 q1 q2 q3 q4 q5 q6 q7 hi13 hu13 hku HB HE12 HX12 HZ12 HK12 HU12
  refine hK _ _ (fun a hF => ?_);clear hK K;refine seq_end ?_;replace hF := hF.kp [0, 3, 5, 6, 18, 19, 21, 22, 102, 103, 104, 109, 110, 111] rfl;refine hK _ _ ?_;clear hK
  obtain ⟨bl, hbl⟩ : ∃ y, inAreaB ar r = y := ⟨_, rfl⟩
  rw [hbl] at HI13
  have d0 : w13.cell? ⟨gi, 0, none⟩ = some (.bool bl) := boxed_cell (j := 0) HI13.out rfl
  obtain ⟨_, _, _, _, _, _, a6⟩ := HX13.out.cells
  obtain ⟨_, _, _, _, _, _, _, g7⟩ := HZ13.out.cells
  revert hF;refine zrs [4] [0, 3, 5, 6, 18, 19, 21, 102, 103, 104, 109, 110, 111, 118] fun a hF => ?_
  cases bl
  ·
   refine cond_no hF rfl ?_
   refine wp_skip ?_
   refine hKF _ _ ⟨hF.sub ⟨rfl, rfl, rfl, rfl, rfl, rfl, rfl, rfl, rfl, rfl, rfl, rfl, trivial⟩, ?_, HX13, HK13, HU13⟩
   rw [List.filter_cons_of_neg (by simp [hbl]), List.filter_nil, List.map_nil, List.append_nil]
   exact HE13
  ·
   refine cond_yes hF rfl ?_
   have hf1 : ([r].filter fun r => inAreaB ar r) = [r] := by simp [hbl]
   rw [hf1] at hKF
   clear hbl hf1
   revert hF;refine zrp [1, 4, 4, 4, 4] [5] fun a hF => ?_;revert hF;refine zos fun K hK => ?_
   refine (add_any w0 h g w13 _ 13 ar.at' r.at' HE13.out.chk (by have := HAF.out; have := HSVA.out; have := HQL.out; simp only [List.length_append, List.length_map]; omega)).mono ?_
   rintro e w14 ⟨rfl, hc14, ht14⟩
   have HC14 := Lib.hid hc14
   have HT14 := Lib.hid ht14
   clear d0 a6 g7 hc14 ht14
   refine hK _ _ (fun a hF => ?_);clear hK K;refine seq_end ?_;replace hF := hF.kp [0, 3, 5, 6, 18, 19, 102, 103, 104, 109, 110, 111] rfl
   refine hKF _ _ ⟨hF, HE13.out.add HC14.out HT14.out, HT14.out.keep HX13.out (by unfold ChkT; decide), HK13.out.trans (SvT.of_tupd HT14.out), ?_⟩
   refine row_of_heap HU13.out fun b hb => ?_
   obtain ⟨cur, hh⟩ := own_type HU13.out hb
   rw [hh]
   exact HT14.out.keep hh (by unfold ChkT; decide)
 clear hF HE9 HX HK9
 rintro a w10 ⟨hF, HE, HX, HK⟩
 have HAA := Lib.hid haa
 clear haa
 have HTL : Hid ((l.areas.take i).length = i) := by
  show _ = _
  rw [List.length_take]
  omega
 refine seq_cut (fun a' w' => FrF 156 [] [(0, .pointer (some ⟨g, 0, none⟩)), (3, .pointer (some ⟨gl, 0, none⟩)), (5, .func (.func 54) #[] #[.pointer (some ⟨gl, 0, none⟩), .pointer (some ⟨gv, 0, none⟩)]), (6, .pointer (some ⟨gR, 0, none⟩)), (19, .pointer (some ⟨ga, 0, none⟩)), (102, .slice l.aa l.an l.ac), (103, .int .i64 l.an), (104, .int .i64 i)] a' ∧ Hid (SevE w0 h g l gl gv gk gR w' (L ++ sevF (reachS l.aisles l.doors) l (allRows l) ++ arF (reachS l.aisles l.doors) l i ++ (((allRows l).filter fun r => inAreaB ar r).map fun r => (⟨13, ar.at', r.at'⟩ : FaultR)) ++ (((l.areas.take i).filter fun b => meetB ar.box b.box).map fun b => (⟨13, ar.at', b.at'⟩ : FaultR))) (allRows l)) ∧ Hid (AreaIn w' ga ar) ∧ Hid (KUpd (SvT w.heap.size) w w')) (fun KD hKD => ?_) ?_
 ·
  clear hKC
  obtain ⟨c0, c1, c2, c3, c4, c5, c6, c7⟩ := HE.out.lev.cells
  have haa := HAA.out
  have hiac : i ≤ l.ac := by omega
  revert hF;refine zrs [4, 4, 1, 5, 4, 1] [0, 3, 5, 6, 19, 102, 103, 104, 129, 130, 131] fun a hF => ?_
  clear haa hiac c0 c1 c2 c3 c4 c5 c6 c7
  refine wp_block ?_
  refine loop_fr (fun n a' w' => ∃ q : Nat, q + n = i ∧ FrF 156 [] [(0, .pointer (some ⟨g, 0, none⟩)), (3, .pointer (some ⟨gl, 0, none⟩)), (5, .func (.func 54) #[] #[.pointer (some ⟨gl, 0, none⟩), .pointer (some ⟨gv, 0, none⟩)]), (6, .pointer (some ⟨gR, 0, none⟩)), (19, .pointer (some ⟨ga, 0, none⟩)), (102, .slice l.aa l.an l.ac), (103, .int .i64 l.an), (104, .int .i64 i), (129, .slice (some ⟨bb, oo, none⟩) i l.ac), (130, .int .i64 i), (131, .int .i64 q)] a' ∧ Hid (SevE w0 h g l gl gv gk gR w' (L ++ sevF (reachS l.aisles l.doors) l (allRows l) ++ arF (reachS l.aisles l.doors) l i ++ (((allRows l).filter fun r => inAreaB ar r).map fun r => (⟨13, ar.at', r.at'⟩ : FaultR)) ++ ((((l.areas.take i).take q).filter fun b => meetB ar.box b.box).map fun b => (⟨13, ar.at', b.at'⟩ : FaultR))) (allRows l)) ∧ Hid (AreaIn w' ga ar) ∧ Hid (KUpd (SvT w.heap.size) w w')) i ⟨0, by omega, hF, by rw [List.take_zero, List.filter_nil, List.map_nil, List.append_nil]; exact HE, HX, HK⟩ ?_
  clear hF HE HX HK
  rintro rq a w11 ⟨q, hqk, hF, HE, HX, HK⟩ KE hKE
  by_cases hltq : q < i
  rotate_left
  ·
   revert hF;refine zrs [5] [0, 3, 5, 6, 19, 102, 103, 104, 129, 130, 131, 132] fun a hF => ?_;refine wp_seq_k (fun K hK => ?_)
   refine cond_no hF rfl ?_
   refine wp_exit ?_
   have hqe : (l.areas.take i).take q = l.areas.take i := List.take_of_length_le (by rw [HTL.out]; omega)
   rw [hqe] at HE
   exact hKD _ _ ⟨hF.sub ⟨rfl, rfl, rfl, rfl, rfl, rfl, rfl, rfl, trivial⟩, HE, HX, HK⟩
  have hqi : (q : Int) < (i : Nat) := by omega
  revert hF;refine zrs [5] [0, 3, 5, 6, 19, 102, 103, 104, 129, 130, 131, 132] fun a hF => ?_;refine wp_seq_k (fun K hK => ?_)
  refine cond_yes hF rfl ?_
  refine wp_skip ?_
  refine hK _ _ ?_;clear hK;replace hF := hF.kp [0, 3, 5, 6, 19, 102, 103, 104, 129, 130, 131] rfl
  clear hKD
  have hqa : q < l.areas.length := by omega
  have hqn : q < l.an := by omega
  have HTQ : Hid ((l.areas.take i).take (q + 1) = (l.areas.take i).take q ++ [l.areas[q]]) := by
   have h1 : q < (l.areas.take i).length := by rw [HTL.out]; exact hltq
   show _ = _
   rw [List.take_succ_eq_append_getElem h1, List.getElem_take]
  obtain ⟨b2, o2, haa2, d0, d1, d2, d3, d4, d5, d6⟩ := area_at (HL.out.areas.below HE.out.chk.below) q hqn hqa
  obtain ⟨rfl, rfl⟩ : bb = b2 ∧ oo = o2 := by
   rw [HAA.out] at haa2
   simpa using haa2
  clear haa2
  refine seq_cut (fun a' w' => FrF 156 [] [(0, .pointer (some ⟨g, 0, none⟩)), (3, .pointer (some ⟨gl, 0, none⟩)), (5, .func (.func 54) #[] #[.pointer (some ⟨gl, 0, none⟩), .pointer (some ⟨gv, 0, none⟩)]), (6, .pointer (some ⟨gR, 0, none⟩)), (19, .pointer (some ⟨ga, 0, none⟩)), (102, .slice l.aa l.an l.ac), (103, .int .i64 l.an), (104, .int .i64 i), (129, .slice (some ⟨bb, oo, none⟩) i l.ac), (130, .int .i64 i), (131, .int .i64 q)] a' ∧ Hid (SevE w0 h g l gl gv gk gR w' (L ++ sevF (reachS l.aisles l.doors) l (allRows l) ++ arF (reachS l.aisles l.doors) l i ++ (((allRows l).filter fun r => inAreaB ar r).map fun r => (⟨13, ar.at', r.at'⟩ : FaultR)) ++ ((((l.areas.take i).take (q + 1)).filter fun b => meetB ar.box b.box).map fun b => (⟨13, ar.at', b.at'⟩ : FaultR))) (allRows l)) ∧ Hid (AreaIn w' ga ar) ∧ Hid (KUpd (SvT w.heap.size) w w')) (fun KF hKF => ?_) ?_
  rotate_left
  ·
   clear hF HE HX HK d0 d1 d2 d3 d4 d5 d6
   rintro a w' ⟨hF, HE, HX, HK⟩
   have hws : IntKind.i64.wrap ((q : Int) + 1) = ((q + 1 : Nat) : Int) := wrap_succ (by omega)
   revert hF;refine zrg [4, 1] [0, 3, 5, 6, 19, 102, 103, 104, 129, 130, 131] fun a hF => ?_
   exact hKE (i - (q + 1)) _ _ (by omega) ⟨q + 1, by omega, hF, HE, HX, HK⟩
  clear hKE hqk
  rw [HTQ.out, List.filter_append, List.map_append, ← List.append_assoc] at hKF
  have HQL : Hid ((((l.areas.take i).take q).filter fun b => meetB ar.box b.box).length ≤ 100) := by
   refine Nat.le_trans (List.length_filter_le _ _) ?_
   rw [List.length_take]
   omega
  clear HTQ
  generalize l.areas[q] = br at *
  refine wp_block ?_
  refine wp_seq_k (fun K hK => ?_);revert hF;refine zrp [5, 4] [2, 3] fun a hF => ?_;refine seq_one ?_;revert hF;refine qe0 fun a hF => ?_;refine seq_one ?_;revert hF;refine qu2 fun a hF => ?_;refine seq_end ?_;replace hF := hF.kp [0, 3, 5, 6, 19, 24, 102, 103, 104, 129, 130, 131] rfl;refine hK _ _ ?_;clear hK
  have HZ : Hid (AreaIn (w11.alloc (.cells #[.string (bs br.name), .int .i64 br.box.x, .int .i64 br.box.y, .int .i64 br.box.x2, .int .i64 br.box.y2, .int .i64 br.holds, .int .i64 br.at'] 61)) w11.heap.size br) := World.alloc_heap_new w11 _
  have HBa := Lib.hid (Joins.below_alloc1 w11 (.cells #[.string (bs br.name), .int .i64 br.box.x, .int .i64 br.box.y, .int .i64 br.box.x2, .int .i64 br.box.y2, .int .i64 br.holds, .int .i64 br.at'] 61))
  have HE12 := Lib.hid (HE.out.down HBa.out)
  have HX12 := Lib.hid (HX.out.down HBa.out)
  have HK12 : Hid (KUpd (SvT w.heap.size) w (w11.alloc (.cells #[.string (bs br.name), .int .i64 br.box.x, .int .i64 br.box.y, .int .i64 br.box.x2, .int .i64 br.box.y2, .int .i64 br.holds, .int .i64 br.at'] 61))) := HK.out.trans (KUpd.of_below HBa.out)
  clear HE HX HK HBa d0 d1 d2 d3 d4 d5 d6
  generalize w11.alloc (.cells #[.string (bs br.name), .int .i64 br.box.x, .int .i64 br.box.y, .int .i64 br.box.x2, .int .i64 br.box.y2, .int .i64 br.holds, .int .i64 br.at'] 61) = w12 at *
  obtain ⟨gz, hgz⟩ : ∃ gz, gz = w11.heap.size := ⟨_, rfl⟩
  rw [← hgz] at hF HZ
  clear hgz
  obtain ⟨_, x1, x2, x3, x4, _, _⟩ := HX12.out.cells
  obtain ⟨_, y1, y2, y3, y4, _, _⟩ := HZ.out.cells
  refine wp_seq_k (fun K hK => ?_);revert hF;refine zrp [4, 4, 4, 4] [4] fun a hF => ?_;revert hF;refine zos fun K hK => ?_
  refine (meet_any w12 ar.box br.box).mono ?_
  rintro e w13 ⟨rfl, hb13⟩
  have HE13 := Lib.hid (HE12.out.down hb13)
  have HX13 := Lib.hid (HX12.out.down hb13)
  have HZ13 := Lib.hid (HZ.out.down hb13)
  have HK13 : Hid (KUpd (SvT w.heap.size) w w13) := HK12.out.trans (KUpd.of_below hb13)
  clear x1 x2 x3 x4 y1 y2 y3 y4 hb13 HE12 HX12 HZ HK12
  obtain ⟨bl, hbl⟩ : ∃ y, meetB ar.box br.box = y := ⟨_, rfl⟩
  rw [hbl]
  refine hK _ _ (fun a hF => ?_);clear hK K;refine seq_end ?_;replace hF := hF.kp [0, 3, 5, 6, 19, 24, 102, 103, 104, 129, 130, 131, 139] rfl;refine hK _ _ ?_;clear hK
  obtain ⟨_, _, _, _, _, _, x6⟩ := HX13.out.cells
  obtain ⟨_, _, _, _, _, _, y6⟩ := HZ13.out.cells
  cases bl
  ·
   refine cond_no hF rfl ?_
   refine wp_skip ?_
   refine hKF _ _ ⟨hF.sub ⟨rfl, rfl, rfl, rfl, rfl, rfl, rfl, rfl, rfl, rfl, rfl, trivial⟩, ?_, HX13, HK13⟩
   rw [List.filter_cons_of_neg (by simp [hbl]), List.filter_nil, List.map_nil, List.append_nil]
   exact HE13
  ·
   refine cond_yes hF rfl ?_
   have hf1 : ([br].filter fun b => meetB ar.box b.box) = [br] := by simp [hbl]
   rw [hf1] at hKF
   clear hbl hf1
   revert hF;refine zrp [1, 4, 4, 4, 4] [5] fun a hF => ?_;revert hF;refine zos fun K hK => ?_
   refine (add_any w0 h g w13 _ 13 ar.at' br.at' HE13.out.chk (by have := HAF.out; have := HSVA.out; have := HFL.out; have := HQL.out; simp only [List.length_append, List.length_map]; omega)).mono ?_
   rintro e w14 ⟨rfl, hc14, ht14⟩
   have HC14 := Lib.hid hc14
   have HT14 := Lib.hid ht14
   clear x6 y6 hc14 ht14
   refine hK _ _ (fun a hF => ?_);clear hK K;refine seq_end ?_;replace hF := hF.kp [0, 3, 5, 6, 19, 102, 103, 104, 129, 130, 131] rfl
   exact hKF _ _ ⟨hF, HE13.out.add HC14.out HT14.out, HT14.out.keep HX13.out (by unfold ChkT; decide), HK13.out.trans (SvT.of_tupd HT14.out)⟩
 clear hF HE HX HK
 rintro a w11 ⟨hF, HE, HX, HK⟩
 have HQL : Hid (((l.areas.take i).filter fun b => meetB ar.box b.box).length ≤ 100) := by
  refine Nat.le_trans (List.length_filter_le _ _) ?_
  rw [HTL.out]
  omega
 have cv : w11.cell? ⟨gv, 0, none⟩ = some (.slice (some ⟨gk, 0, none⟩) l.sn l.sn) := boxed_cell (j := 0) HE.out.rv rfl
 have HOP := Lib.hid (open_any w11 l gl gv gk (reachS l.aisles l.doors) 61 [.pointer (some ⟨ga, 0, none⟩)] (fun b => meetB ar.box b) (by kernel_rfl) HE.out.lev (HL.out.aisles.below HE.out.chk.below) HL.out.sn cv HE.out.rk (by rw [reachS_len]; exact HL.out.aisles.1)
  (fun wx hb b => ameet_any wx b ga ar (HX.out.down hb)))
 clear cv
 obtain ⟨y, hy⟩ : ∃ y, openB (reachS l.aisles l.doors) l (fun b => meetB ar.box b) = y := ⟨_, rfl⟩
 rw [hy] at HOP hKC
 clear hy
 refine wp_seq_k (fun K hK => ?_);revert hF;refine zrp [1, 4] [2, 3] fun a hF => ?_;refine seq_one ?_;refine op_callv [_] _ _ rfl rfl hF rfl rfl (by first | assumption | kernel_rfl) ⟨rfl, trivial⟩ (fun K hK => ?_);clear hF
 refine HOP.out.mono ?_
 rintro e w12 ⟨rfl, hb12⟩
 have HE12 := Lib.hid (HE.out.down hb12)
 have HX12 := Lib.hid (HX.out.down hb12)
 have HK12 : Hid (KUpd (SvT w.heap.size) w w12) := HK.out.trans (KUpd.of_below hb12)
 clear HE HX HK hb12 HOP
 obtain ⟨_, _, _, _, _, _, x6⟩ := HX12.out.cells
 cases y
 ·
  refine hK _ _ (fun a hF => ?_);clear hK K;revert hF;refine zre 3 [4] [0, 3, 5, 6, 19, 102, 103, 104, 150] fun a hF => ?_;refine hK _ _ ?_;clear hK
  refine cond_yes hF rfl ?_
  rw [if_neg (show ¬ (false = true) by decide)] at hKC
  revert hF;refine zrp [1, 4, 4] [3] fun a hF => ?_;revert hF;refine zos fun K hK => ?_
  refine (add_any w0 h g w12 _ 14 ar.at' (-1) HE12.out.chk (by have := HAF.out; have := HSVA.out; have := HFL.out; have := HQL.out; simp only [List.length_append, List.length_map]; omega)).mono ?_
  rintro e w13 ⟨rfl, hc13, ht13⟩
  have HC13 := Lib.hid hc13
  have HT13 := Lib.hid ht13
  clear x6 hc13 ht13
  refine hK _ _ (fun a hF => ?_);clear hK K;refine seq_end ?_;replace hF := hF.kp [0, 3, 5, 6, 102, 103, 104] rfl
  exact hKC _ _ ⟨hF, HE12.out.add HC13.out HT13.out, HK12.out.trans (SvT.of_tupd HT13.out)⟩
 ·
  refine hK _ _ (fun a hF => ?_);clear hK K;revert hF;refine zre 3 [4] [0, 3, 5, 6, 19, 102, 103, 104, 150] fun a hF => ?_;refine hK _ _ ?_;clear hK
  refine cond_no hF rfl ?_
  refine wp_skip ?_
  rw [if_pos (show (true = true) from rfl), List.append_nil] at hKC
  exact hKC _ _ ⟨hF.sub ⟨rfl, rfl, rfl, rfl, rfl, rfl, rfl, trivial⟩, HE12, HK12⟩
end Go.Proofs.YtmcdhggnpfhlmaaGreat
