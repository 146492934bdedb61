/- hall: Build: the walk. -/
import Derived.Test.YtmcdhggnpfhlmaaGreatQHMR21
import Derived.Test.YtmcdhggnpfhlmaaGreatQHMR22

set_option linter.unusedVariables false
set_option linter.unusedSimpArgs false
namespace Go.Proofs.YtmcdhggnpfhlmaaGreat
open Go.RowKit Go.IntWalk
set_option linter.unusedSimpArgs false
set_option linter.unusedVariables false

def sumT {α : Type} (c : α → Int) (xs : List α) (i : Nat) : Int := ((xs.take i).map c).sum
theorem sumT_next {α : Type} (c : α → Int) {xs : List α} {i : Nat} (h : i < xs.length) : sumT c xs (i + 1) = sumT c xs i + c xs[i] := by
 unfold sumT
 rw [List.take_succ_eq_append_getElem h, List.map_append, List.sum_append]
 simp
theorem sumT_all {α : Type} (c : α → Int) (xs : List α) : sumT c xs xs.length = (xs.map c).sum := by
 unfold sumT
 rw [List.take_length]
theorem sum_bd {α : Type} {c : α → Int} {B : Int} : ∀ {xs : List α}, (∀ x ∈ xs, 0 ≤ c x ∧ c x ≤ B) → 0 ≤ (xs.map c).sum ∧ (xs.map c).sum ≤ xs.length * B
 | [], _ => by simp
 | x :: xs, h => by
  obtain ⟨h1, h2⟩ := sum_bd (B := B) fun y hy => h y (List.mem_cons_of_mem x hy)
  obtain ⟨h3, h4⟩ := h x (List.mem_cons_self ..)
  rw [List.map_cons, List.sum_cons, List.length_cons]
  have : ((xs.length + 1 : Nat) : Int) * B = xs.length * B + B := by
   rw [Int.natCast_add, Int.add_mul]
   simp
  omega
theorem sumT_bd {α : Type} {c : α → Int} {B : Int} {xs : List α} (h : ∀ x ∈ xs, 0 ≤ c x ∧ c x ≤ B) (hB : 0 ≤ B) (i : Nat) : 0 ≤ sumT c xs i ∧ sumT c xs i ≤ xs.length * B := by
 obtain ⟨h1, h2⟩ := sum_bd (xs := xs.take i) (c := c) (B := B) fun x hx => h x (List.mem_of_mem_take hx)
 refine ⟨h1, Int.le_trans h2 (Int.mul_le_mul_of_nonneg_right ?_ hB)⟩
 rw [List.length_take]
 omega

theorem allRows_len {l : LevR} (hb : l.blocks.length ≤ 6) (hr : ∀ b ∈ l.blocks, b.rows.length ≤ 8) : (allRows l).length ≤ 48 := by
 have h1 := rowsB_len hr l.blocks.length
 rw [rowsB_all] at h1
 omega
theorem severalS_len {l : LevR} (hb : l.blocks.length ≤ 6) (hr : ∀ b ∈ l.blocks, b.rows.length ≤ 8) (ha : l.areas.length ≤ 60) : (severalS l).length ≤ 20000 := by
 unfold severalS
 have h0 := allRows_len hb hr
 rw [several_eq, List.length_append]
 have h1 := sevF_len (reachS l.aisles l.doors) l (rows := allRows l) (by omega)
 have h2 := arF_len (reachS l.aisles l.doors) l (by omega) (by omega) l.areas.length
 omega

/-- Build's variables while it counts. -/
structure CntSt (w0 : World) (h : HallR) (gc gh g5 : Nat) (w : World) (v : Int) : Prop where
 chk : Chk w0 h gc w []
 hall : HallIn w gh h
 base : w0.heap.size ≤ g5
 var : VarI w g5 v
section
variable {w0 w w' : World} {h : HallR} {gc gh g5 : Nat} {v v' : Int}
theorem CntSt.down (hs : CntSt w0 h gc gh g5 w v) (hb : Below w.heap.size w w') : CntSt w0 h gc gh g5 w' v := ⟨hs.chk.down hb, hs.hall.down hb, hs.base, (hb.block g5 (lt_of_block hs.var)).trans hs.var⟩
theorem CntSt.upd (hs : CntSt w0 h gc gh g5 w v) (hu : Upd (fun i => i = g5) w w') (hv : VarI w' g5 v') : CntSt w0 h gc gh g5 w' v' := by
 have hk : KUpd (fun b _ => b = g5) w w' := KUpd.of_upd hu fun _ _ _ e => e
 refine ⟨hs.chk.kupd (Upd.below hs.chk.below hs.chk.below.size hu fun i e => by rw [e]; exact hs.base) hk (fun b arr x hb e => type_ne hb hs.var (by decide) e) (fun b arr x hb e => type_ne hb hs.var (by decide) e), hk.block _ _ hs.hall (fun e => type_ne hs.hall hs.var (by decide) e), hs.base, hv⟩
end

set_option maxRecDepth 100000 in
set_option maxHeartbeats 64000000 in
theorem build_any (w0 : World) (h : HallR) (hh : h.In w0) (hsm : h.Sm) (hac : ∀ l ∈ h.levels, l.an ≤ l.ac) :
  Calls Tryz.prog 6 #[.agg #[.string (bs h.name), .int .i64 h.stage.x, .int .i64 h.stage.y, .slice h.la h.ln h.lc]] w0 fun e w' => (∃ la n c fa m d, e = .returned (.tuple #[.slice la n c, .slice fa m d]) ∧ Recs PlaceE w' la n (buildS h).1 ∧ Recs FaultE w' fa m (buildS h).2) ∧ Below w0.heap.size w0 w' := by
 have HH := Lib.hid hh
 have HSM := Lib.hid hsm
 have HAC := Lib.hid hac
 have HLL : Hid (h.levels.length = h.ln) := hh.levels.1
 have hln : h.ln ≤ 12 := hsm.ln
 have HLB : Hid (∀ l ∈ h.levels, l.blocks.length = l.bn ∧ l.areas.length = l.an ∧ l.bn ≤ 6 ∧ l.an ≤ 60 ∧ ∀ b ∈ l.blocks, b.rows.length = b.rn ∧ b.rn ≤ 8) := fun l hl => by
  have h1 := hh.lev l hl
  have h2 := hsm.lev l hl
  have h3 := h2.rest
  exact ⟨h1.blocks.1, h1.areas.1, h2.b, by omega, fun b hb => ⟨(h1.blk b hb).1.1, hsm.rn l hl b hb⟩⟩
 clear hh hsm hac
 refine enter_fr (N := 118) [.agg #[.string (bs h.name), .int .i64 h.stage.x, .int .i64 h.stage.y, .slice h.la h.ln h.lc]] (Tryz.func6) rfl Tryz.ntmps6 (by rfl) (fun a hF => ?_);replace hF := hF.kp [0] rfl;refine wp_seq_k (fun K hK => ?_);refine region_seq (l := [0, 1, 2]) (by kernel_rfl) ?_;refine seq_one ?_;revert hF;refine qe1 fun a hF => ?_;revert hF;refine zre 1 [2, 2] [1] fun a hF => ?_;refine hK _ _ ?_;clear hK
 have HX : Hid (HallIn (w0.alloc (.cells #[.string (bs h.name), .int .i64 h.stage.x, .int .i64 h.stage.y, .slice h.la h.ln h.lc] 26)) w0.heap.size h) := World.alloc_heap_new w0 _
 have HB : Hid (Below w0.heap.size w0 (w0.alloc (.cells #[.string (bs h.name), .int .i64 h.stage.x, .int .i64 h.stage.y, .slice h.la h.ln h.lc] 26))) := Joins.below_alloc1 w0 _
 generalize w0.alloc (.cells #[.string (bs h.name), .int .i64 h.stage.x, .int .i64 h.stage.y, .slice h.la h.ln h.lc] 26) = w1 at *
 obtain ⟨gh, hgh⟩ : ∃ g, g = w0.heap.size := ⟨_, rfl⟩
 rw [← hgh] at hF HX
 clear hgh
 obtain ⟨c0, c1, c2, c3⟩ := HX.out.cells
 refine wp_seq_k (fun K hK => ?_);revert hF;refine zrp [4, 4] [2, 3] fun a hF => ?_;refine seq_one ?_;revert hF;refine qe1 fun a hF => ?_;revert hF;refine zre 3 [2] [1, 4] fun a hF => ?_;refine hK _ _ ?_;clear hK
 clear c0 c1 c2 c3
 have HBa := Lib.hid (Joins.below_alloc1 w1 (.cells #[.string (bs h.name), .int .i64 h.stage.x, .int .i64 h.stage.y, .slice h.la h.ln h.lc, .slice none 0 0] 64))
 have HC : Hid (Chk w0 h w1.heap.size (w1.alloc (.cells #[.string (bs h.name), .int .i64 h.stage.x, .int .i64 h.stage.y, .slice h.la h.ln h.lc, .slice none 0 0] 64)) []) := ⟨HB.out.trans (HBa.out.mono HB.out.size), HB.out.size, .slice none 0 0, World.alloc_heap_new w1 _, nil_row⟩
 have HX2 := Lib.hid (HX.out.down HBa.out)
 clear HX HB HBa
 generalize w1.alloc (.cells #[.string (bs h.name), .int .i64 h.stage.x, .int .i64 h.stage.y, .slice h.la h.ln h.lc, .slice none 0 0] 64) = w2 at *
 obtain ⟨gc, hgc⟩ : ∃ g, g = w1.heap.size := ⟨_, rfl⟩
 rw [← hgc] at hF HC
 clear hgc
 refine wp_seq_k (fun K hK => ?_);revert hF;refine zrp [1, 1, 4, 1, 4, 1, 4, 1, 4] [9] fun a hF => ?_;revert hF;refine zos fun K hK => ?_
 refine (walk_any w0 h gc w2 [] HC.out (by simp) HH.out HSM.out).mono ?_
 rintro e w3 ⟨rfl, hc3, ht3⟩
 rw [List.nil_append] at hc3
 have HC3 := Lib.hid hc3
 have HX3 : Hid (HallIn w3 gh h) := ht3.keep HX2.out (by unfold ChkT; decide)
 clear HC HX2 hc3 ht3
 refine hK _ _ (fun a hF => ?_);clear hK K;refine seq_end ?_;replace hF := hF.kp [1, 4] rfl;refine hK _ _ ?_;clear hK
 have HFS : Hid (faultsS h = if singleS h ≠ [] then singleS h else if ¬ (coordB h.stage.x && coordB h.stage.y) = true then [⟨2, -1, -1⟩] else if 4000 < countS h then [⟨3, -1, -1⟩] else h.levels.flatMap severalS) := rfl
 obtain ⟨fv, hfv, hfo⟩ := HC3.out.row
 obtain ⟨fla, flc, rfl, hfr⟩ := OwnRecs.of_row hfo
 have HFR := Lib.hid hfr
 have c4 : w3.cell? ⟨gc, 4, none⟩ = some (.slice fla (singleS h).length flc) := boxed_cell (j := 4) hfv rfl
 clear hfv hfo hfr
 refine wp_seq_k (fun K hK => ?_)
 by_cases hz : 0 < (singleS h).length
 ·
  have hzi : (0 : Int) < ((singleS h).length : Nat) := by omega
  revert hF;refine zrs [1, 4, 4, 4, 4, 4] [1, 4, 34] fun a hF => ?_
  refine cond_yes hF rfl ?_
  have HRF : Hid (Recs FaultE w3 fla (singleS h).length (singleS h)) := HFR.out.recs
  have hne : singleS h ≠ [] := fun e => by rw [e] at hz; cases hz
  have HBS : Hid (buildS h = ([], singleS h)) := by
   show _ = _
   unfold buildS
   have : faultsS h = singleS h := by rw [HFS.out, if_pos hne]
   rw [this, if_neg hne]
  have HBW : Hid (Below w0.heap.size w0 w3) := HC3.out.below
  clear HC3 HX3 HFS HFR hz hzi hne
  have c4 : w3.drew.cell? ⟨gc, 4, none⟩ = some (.slice fla (singleS h).length flc) := c4
  refine wp_seq_k (fun K hK => ?_);refine region_any (by kernel_rfl) ?_;revert hF;refine zrb (fuel := 0) [1, 41, 73, 116, 130, 162] [2, 3] fun a hF => ?_;refine hK _ _ ?_;clear hK;refine wp_ret ?_;(try simp only [then_ret, block_ret, goto_ret]);revert hF;refine zq ?_
  refine ⟨⟨none, 0, 0, _, _, _, rfl, ?_, ?_⟩, below_d HBW.out⟩
  ·
   rw [HBS.out]
   exact ⟨rfl, fun i hi => absurd hi (Nat.not_lt_zero _)⟩
  ·
   rw [HBS.out]
   exact HRF.out
 have hzi : ¬ (0 : Int) < ((singleS h).length : Nat) := by omega
 revert hF;refine zrs [1, 4, 4, 4, 4, 4] [1, 4, 34] fun a hF => ?_
 refine cond_no hF rfl ?_
 refine wp_skip ?_
 refine hK _ _ ?_;clear hK;replace hF := hF.kp [1, 4] rfl
 have hs0 : singleS h = [] := List.length_eq_zero_iff.1 (by omega)
 have HNS := Lib.hid (noSingle hs0)
 have HS0 := Lib.hid hs0
 rw [HS0.out] at HC3 HFS
 clear hs0 hz hzi c4 HFR fla flc
 rw [if_neg (fun e => e rfl)] at HFS
 refine wp_seq_k (fun K hK => ?_);refine region_seq (l := [0, 1]) (by kernel_rfl) ?_;refine seq_one ?_;revert hF;refine qe0 fun a hF => ?_;refine seq_one ?_;revert hF;refine qu1 fun a hF => ?_;refine seq_end ?_;replace hF := hF.kp [1, 4, 5] rfl;refine hK _ _ ?_;clear hK
 have HBa := Lib.hid (Joins.below_alloc1 w3 (.cells #[.int .i64 0] 3))
 have HS : Hid (CntSt w0 h gc gh w3.heap.size (w3.alloc (.cells #[.int .i64 0] 3)) (sumT levC h.levels 0)) := ⟨HC3.out.down HBa.out, HX3.out.down HBa.out, HC3.out.below.size, World.alloc_heap_new w3 _⟩
 clear HC3 HX3 HBa
 generalize w3.alloc (.cells #[.int .i64 0] 3) = w4 at *
 obtain ⟨g5, hg5⟩ : ∃ g, g = w3.heap.size := ⟨_, rfl⟩
 rw [← hg5] at hF HS
 clear hg5
 have HRC : Hid (∀ l ∈ h.levels, ∀ b ∈ l.blocks, 0 ≤ rowsC b ∧ rowsC b ≤ 480) := fun l hl b hb => by
  obtain ⟨h1, h2⟩ := sum_bd (xs := b.rows) (c := fun r => ((seatsS r).length : Int)) (B := 60) fun r hr => ⟨by omega, by have := seats_len (HNS.out.rows l hl b hb r hr).1; omega⟩
  have := (HLB.out l hl).2.2.2.2 b hb
  exact ⟨h1, by unfold rowsC; omega⟩
 have HLC : Hid (∀ l ∈ h.levels, 0 ≤ levC l ∧ levC l ≤ 250000) := fun l hl => by
  obtain ⟨h1, h2⟩ := sum_bd (xs := l.blocks) (c := rowsC) (B := 480) fun b hb => HRC.out l hl b hb
  obtain ⟨h3, h4⟩ := sum_bd (xs := l.areas) (c := (·.holds)) (B := 4000) fun a ha => by have := HNS.out.areas l hl a ha; omega
  obtain ⟨q1, q2, q3, q4, _⟩ := HLB.out l hl
  unfold levC
  omega
 have HCB : Hid (∀ n, 0 ≤ sumT levC h.levels n ∧ sumT levC h.levels n ≤ 3000000) := fun n => by
  have := sumT_bd HLC.out (by omega) n
  have := HLL.out
  omega
 -- counting
 refine seq_cut (fun a' w' => FrF 118 [] [(1, .pointer (some ⟨gh, 0, none⟩)), (4, .pointer (some ⟨gc, 0, none⟩)), (5, .pointer (some ⟨g5, 0, none⟩))] a' ∧ Hid (CntSt w0 h gc gh g5 w' ((h.levels.map levC).sum))) (fun KA hKA => ?_) ?_
 ·
  obtain ⟨c0, c1, c2, c3⟩ := HS.out.hall.cells
  revert hF;refine zrs [4, 4, 4, 1] [1, 4, 5, 40, 41, 42] fun a hF => ?_
  clear c0 c1 c2 c3
  refine wp_block ?_
  refine loop_fr (fun m a' w' => ∃ n : Nat, n + m = h.ln ∧ FrF 118 [] [(1, .pointer (some ⟨gh, 0, none⟩)), (4, .pointer (some ⟨gc, 0, none⟩)), (5, .pointer (some ⟨g5, 0, none⟩)), (40, .slice h.la h.ln h.lc), (41, .int .i64 h.ln), (42, .int .i64 n)] a' ∧ Hid (CntSt w0 h gc gh g5 w' (sumT levC h.levels n))) h.ln ⟨0, by omega, hF, HS⟩ ?_
  clear hF HS
  rintro rk a w5 ⟨n, hnk, hF, HS⟩ KB hKB
  by_cases hlt : n < h.ln
  rotate_left
  ·
   revert hF;refine zrs [5] [1, 4, 5, 40, 41, 42, 43] fun a hF => ?_;refine wp_seq_k (fun K hK => ?_)
   refine cond_no hF rfl ?_
   refine wp_exit ?_
   have hne : n = h.levels.length := by rw [HLL.out]; omega
   rw [hne, sumT_all] at HS
   exact hKA _ _ ⟨hF.sub ⟨rfl, rfl, rfl, trivial⟩, HS⟩
  revert hF;refine zrs [5] [1, 4, 5, 40, 41, 42, 43] fun a hF => ?_;refine wp_seq_k (fun K hK => ?_)
  refine cond_yes hF rfl ?_
  refine wp_skip ?_
  refine hK _ _ ?_;clear hK;replace hF := hF.kp [1, 4, 5, 40, 41, 42] rfl
  clear hKA
  have hnl : n < h.levels.length := by rw [HLL.out]; exact hlt
  have hni : (n : Int) < h.ln := by omega
  obtain ⟨bb, oo, hla, d0, d1, d2, d3, d4, d5, d6, d7⟩ := lev_at (HH.out.levels.below HS.out.chk.below) n hlt hnl
  refine seq_cut (fun a' w' => FrF 118 [] [(1, .pointer (some ⟨gh, 0, none⟩)), (4, .pointer (some ⟨gc, 0, none⟩)), (5, .pointer (some ⟨g5, 0, none⟩)), (40, .slice h.la h.ln h.lc), (41, .int .i64 h.ln), (42, .int .i64 n)] a' ∧ Hid (CntSt w0 h gc gh g5 w' (sumT levC h.levels (n + 1)))) (fun KC hKC => ?_) ?_
  rotate_left
  ·
   clear hF HS d0 d1 d2 d3 d4 d5 d6 d7 hla
   rintro a w' ⟨hF, HS⟩
   have hws : IntKind.i64.wrap ((n : Int) + 1) = ((n + 1 : Nat) : Int) := wrap_succ (by omega)
   revert hF;refine zrg [4, 1] [1, 4, 5, 40, 41, 42] fun a hF => ?_
   exact hKB (h.ln - (n + 1)) _ _ (by omega) ⟨n + 1, by omega, hF, HS⟩
  clear hKB hnk
  rw [sumT_next levC hnl] at hKC
  have HCN := Lib.hid (HCB.out n)
  have hlm : h.levels[n] ∈ h.levels := List.getElem_mem hnl
  have HLV := Lib.hid (HH.out.lev _ hlm)
  have HLS := Lib.hid (HLB.out _ hlm)
  have HRR := Lib.hid (HNS.out.rows _ hlm)
  have HAA := Lib.hid (HNS.out.areas _ hlm)
  have HRCL := Lib.hid (HRC.out _ hlm)
  clear hlm
  generalize h.levels[n] = l at *
  generalize sumT levC h.levels n = v0 at *
  refine wp_block ?_
  refine wp_seq_k (fun K hK => ?_);revert hF;refine zrp [5, 4] [2, 3] fun a hF => ?_;refine seq_one ?_;revert hF;refine qe0 fun a hF => ?_;refine seq_one ?_;revert hF;refine qu2 fun a hF => ?_;refine seq_end ?_;replace hF := hF.kp [1, 4, 5, 7, 40, 41, 42] rfl;refine hK _ _ ?_;clear hK
  have HX : Hid (LevIn (w5.alloc (.cells #[.string (bs l.name), .int .i64 l.height, .slice l.ba l.bn l.bc, .slice l.aa l.an l.ac, .slice l.sa l.sn l.sc, .slice l.pa l.pn l.pc, .slice l.da l.dn l.dc, .int .i64 l.at'] 32)) w5.heap.size l) := World.alloc_heap_new w5 _
  have HBa := Lib.hid (Joins.below_alloc1 w5 (.cells #[.string (bs l.name), .int .i64 l.height, .slice l.ba l.bn l.bc, .slice l.aa l.an l.ac, .slice l.sa l.sn l.sc, .slice l.pa l.pn l.pc, .slice l.da l.dn l.dc, .int .i64 l.at'] 32))
  have HS6 : Hid (CntSt w0 h gc gh g5 (w5.alloc (.cells #[.string (bs l.name), .int .i64 l.height, .slice l.ba l.bn l.bc, .slice l.aa l.an l.ac, .slice l.sa l.sn l.sc, .slice l.pa l.pn l.pc, .slice l.da l.dn l.dc, .int .i64 l.at'] 32)) (v0 + sumT rowsC l.blocks 0)) := by
   have : v0 + sumT rowsC l.blocks 0 = v0 := by simp [sumT]
   rw [this]
   exact HS.out.down HBa.out
  clear HS HBa d0 d1 d2 d3 d4 d5 d6 d7 hla
  generalize w5.alloc (.cells #[.string (bs l.name), .int .i64 l.height, .slice l.ba l.bn l.bc, .slice l.aa l.an l.ac, .slice l.sa l.sn l.sc, .slice l.pa l.pn l.pc, .slice l.da l.dn l.dc, .int .i64 l.at'] 32) = w6 at *
  obtain ⟨gl, hgl⟩ : ∃ g, g = w5.heap.size := ⟨_, rfl⟩
  rw [← hgl] at hF HX
  clear hgl
  have hbn : l.bn ≤ 6 := HLS.out.2.2.1
  have han : l.an ≤ 60 := HLS.out.2.2.2.1
  have HBB : Hid (∀ i, 0 ≤ sumT rowsC l.blocks i ∧ sumT rowsC l.blocks i ≤ 3000) := fun i => by
   have := sumT_bd HRCL.out (by omega) i
   have := HLS.out.1
   omega
  have HAB : Hid (∀ j, 0 ≤ sumT (fun x : AreaR => x.holds) l.areas j ∧ sumT (fun x : AreaR => x.holds) l.areas j ≤ 240000) := fun j => by
   have := sumT_bd (c := fun x : AreaR => x.holds) (B := 4000) (fun a ha => by have := HAA.out a ha; omega) (by omega) j
   have := HLS.out.2.1
   omega
  refine seq_cut (fun a' w' => FrF 118 [] [(1, .pointer (some ⟨gh, 0, none⟩)), (4, .pointer (some ⟨gc, 0, none⟩)), (5, .pointer (some ⟨g5, 0, none⟩)), (7, .pointer (some ⟨gl, 0, none⟩)), (40, .slice h.la h.ln h.lc), (41, .int .i64 h.ln), (42, .int .i64 n)] a' ∧ Hid (CntSt w0 h gc gh g5 w' (v0 + (l.blocks.map rowsC).sum)) ∧ Hid (LevIn w' gl l)) (fun KD hKD => ?_) ?_
  ·
   clear hKC
   obtain ⟨d0, d1, d2, d3, d4, d5, d6, d7⟩ := HX.out.cells
   revert hF;refine zrs [4, 4, 4, 1] [1, 4, 5, 7, 40, 41, 42, 47, 48, 49] fun a hF => ?_
   clear d0 d1 d2 d3 d4 d5 d6 d7
   refine wp_block ?_
   refine loop_fr (fun m a' w' => ∃ i : Nat, i + m = l.bn ∧ FrF 118 [] [(1, .pointer (some ⟨gh, 0, none⟩)), (4, .pointer (some ⟨gc, 0, none⟩)), (5, .pointer (some ⟨g5, 0, none⟩)), (7, .pointer (some ⟨gl, 0, none⟩)), (40, .slice h.la h.ln h.lc), (41, .int .i64 h.ln), (42, .int .i64 n), (47, .slice l.ba l.bn l.bc), (48, .int .i64 l.bn), (49, .int .i64 i)] a' ∧ Hid (CntSt w0 h gc gh g5 w' (v0 + sumT rowsC l.blocks i)) ∧ Hid (LevIn w' gl l)) l.bn ⟨0, by omega, hF, HS6, HX⟩ ?_
   clear hF HS6 HX
   rintro ri a w7 ⟨i, hik, hF, HS, HX⟩ KE hKE
   by_cases hlti : i < l.bn
   rotate_left
   ·
    revert hF;refine zrs [5] [1, 4, 5, 7, 40, 41, 42, 47, 48, 49, 50] fun a hF => ?_;refine wp_seq_k (fun K hK => ?_)
    refine cond_no hF rfl ?_
    refine wp_exit ?_
    have hie : i = l.blocks.length := by rw [HLS.out.1]; omega
    rw [hie, sumT_all] at HS
    exact hKD _ _ ⟨hF.sub ⟨rfl, rfl, rfl, rfl, rfl, rfl, rfl, trivial⟩, HS, HX⟩
   revert hF;refine zrs [5] [1, 4, 5, 7, 40, 41, 42, 47, 48, 49, 50] fun a hF => ?_;refine wp_seq_k (fun K hK => ?_)
   refine cond_yes hF rfl ?_
   refine wp_skip ?_
   refine hK _ _ ?_;clear hK;replace hF := hF.kp [1, 4, 5, 7, 40, 41, 42, 47, 48, 49] rfl
   clear hKD
   have hil : i < l.blocks.length := by rw [HLS.out.1]; exact hlti
   have hii : (i : Int) < l.bn := by omega
   obtain ⟨bb, oo, hba, d0, d1, d2⟩ := blk_at (HLV.out.blocks.below HS.out.chk.below) i hlti hil
   refine seq_cut (fun a' w' => FrF 118 [] [(1, .pointer (some ⟨gh, 0, none⟩)), (4, .pointer (some ⟨gc, 0, none⟩)), (5, .pointer (some ⟨g5, 0, none⟩)), (7, .pointer (some ⟨gl, 0, none⟩)), (40, .slice h.la h.ln h.lc), (41, .int .i64 h.ln), (42, .int .i64 n), (47, .slice l.ba l.bn l.bc), (48, .int .i64 l.bn), (49, .int .i64 i)] a' ∧ Hid (CntSt w0 h gc gh g5 w' (v0 + sumT rowsC l.blocks (i + 1))) ∧ Hid (LevIn w' gl l)) (fun KF hKF => ?_) ?_
   rotate_left
   ·
    clear hF HS HX d0 d1 d2 hba
    rintro a w' ⟨hF, HS, HX⟩
    have hws : IntKind.i64.wrap ((i : Int) + 1) = ((i + 1 : Nat) : Int) := wrap_succ (by omega)
    revert hF;refine zrg [4, 1] [1, 4, 5, 7, 40, 41, 42, 47, 48, 49] fun a hF => ?_
    exact hKE (l.bn - (i + 1)) _ _ (by omega) ⟨i + 1, by omega, hF, HS, HX⟩
   clear hKE hik
   rw [sumT_next rowsC hil] at hKF
   have HBI := Lib.hid (HBB.out i)
   have hbm : l.blocks[i] ∈ l.blocks := List.getElem_mem hil
   have HBV := Lib.hid (HLV.out.blk _ hbm)
   have HBS := Lib.hid (HLS.out.2.2.2.2 _ hbm)
   have HRB := Lib.hid (HRR.out _ hbm)
   clear hbm
   generalize l.blocks[i] = b at *
   generalize sumT rowsC l.blocks i = v1 at *
   refine wp_block ?_
   refine wp_seq_k (fun K hK => ?_);revert hF;refine zrp [5, 4] [2, 3] fun a hF => ?_;refine seq_one ?_;revert hF;refine qe0 fun a hF => ?_;refine seq_one ?_;revert hF;refine qu2 fun a hF => ?_;refine seq_end ?_;replace hF := hF.kp [1, 4, 5, 7, 9, 40, 41, 42, 47, 48, 49] rfl;refine hK _ _ ?_;clear hK
   have HY : Hid (BlkIn (w7.alloc (.cells #[.string (bs b.name), .slice b.ra b.rn b.rc, .int .i64 b.at'] 57)) w7.heap.size b) := World.alloc_heap_new w7 _
   have HBa := Lib.hid (Joins.below_alloc1 w7 (.cells #[.string (bs b.name), .slice b.ra b.rn b.rc, .int .i64 b.at'] 57))
   have HS8 : Hid (CntSt w0 h gc gh g5 (w7.alloc (.cells #[.string (bs b.name), .slice b.ra b.rn b.rc, .int .i64 b.at'] 57)) (v0 + v1 + sumT (fun r => ((seatsS r).length : Int)) b.rows 0)) := by
    have : v0 + v1 + sumT (fun r => ((seatsS r).length : Int)) b.rows 0 = v0 + v1 := by simp [sumT]
    rw [this]
    exact HS.out.down HBa.out
   have HX8 := Lib.hid (HX.out.down HBa.out)
   clear HS HX HBa d0 d1 d2 hba
   generalize w7.alloc (.cells #[.string (bs b.name), .slice b.ra b.rn b.rc, .int .i64 b.at'] 57) = w8 at *
   obtain ⟨gb, hgb⟩ : ∃ g, g = w7.heap.size := ⟨_, rfl⟩
   rw [← hgb] at hF HY
   clear hgb
   have hrn : b.rn ≤ 8 := HBS.out.2
   have HRN : Hid (∀ k, 0 ≤ sumT (fun r => ((seatsS r).length : Int)) b.rows k ∧ sumT (fun r => ((seatsS r).length : Int)) b.rows k ≤ 480) := fun k => by
    have := sumT_bd (c := fun r => ((seatsS r).length : Int)) (B := 60) (fun r hr => ⟨by omega, by have := seats_len (HRB.out r hr).1; omega⟩) (by omega) k
    have := HBS.out.1
    omega
   obtain ⟨d0, d1, d2⟩ := HY.out.cells
   revert hF;refine zrs [4, 4, 4, 1] [1, 4, 5, 7, 40, 41, 42, 47, 48, 49, 54, 55, 56] fun a hF => ?_
   clear d0 d1 d2 HY
   refine wp_block ?_
   refine loop_fr (fun m a' w' => ∃ k : Nat, k + m = b.rn ∧ FrF 118 [] [(1, .pointer (some ⟨gh, 0, none⟩)), (4, .pointer (some ⟨gc, 0, none⟩)), (5, .pointer (some ⟨g5, 0, none⟩)), (7, .pointer (some ⟨gl, 0, none⟩)), (40, .slice h.la h.ln h.lc), (41, .int .i64 h.ln), (42, .int .i64 n), (47, .slice l.ba l.bn l.bc), (48, .int .i64 l.bn), (49, .int .i64 i), (54, .slice b.ra b.rn b.rc), (55, .int .i64 b.rn), (56, .int .i64 k)] a' ∧ Hid (CntSt w0 h gc gh g5 w' (v0 + v1 + sumT (fun r => ((seatsS r).length : Int)) b.rows k)) ∧ Hid (LevIn w' gl l)) b.rn ⟨0, by omega, hF, HS8, HX8⟩ ?_
   clear hF HS8 HX8
   rintro rj a w9 ⟨k, hkk, hF, HS, HX⟩ KG hKG
   by_cases hltk : k < b.rn
   rotate_left
   ·
    revert hF;refine zrs [5] [1, 4, 5, 7, 40, 41, 42, 47, 48, 49, 54, 55, 56, 57] fun a hF => ?_;refine wp_seq_k (fun K hK => ?_)
    refine cond_no hF rfl ?_
    refine wp_exit ?_
    have hke : k = b.rows.length := by rw [HBS.out.1]; omega
    rw [hke, sumT_all] at HS
    refine hKF _ _ ⟨hF.sub ⟨rfl, rfl, rfl, rfl, rfl, rfl, rfl, rfl, rfl, rfl, trivial⟩, ?_, HX⟩
    rw [← Int.add_assoc]
    exact HS
   revert hF;refine zrs [5] [1, 4, 5, 7, 40, 41, 42, 47, 48, 49, 54, 55, 56, 57] fun a hF => ?_;refine wp_seq_k (fun K hK => ?_)
   refine cond_yes hF rfl ?_
   refine wp_skip ?_
   refine hK _ _ ?_;clear hK;replace hF := hF.kp [1, 4, 5, 7, 40, 41, 42, 47, 48, 49, 54, 55, 56] rfl
   clear hKF
   have hkl : k < b.rows.length := by rw [HBS.out.1]; exact hltk
   have hki : (k : Int) < b.rn := by omega
   obtain ⟨bb, oo, hra, d0, d1, d2, d3, d4, d5, d6, d7⟩ := row_at (HBV.out.1.below HS.out.chk.below) k hltk hkl
   refine seq_cut (fun a' w' => FrF 118 [] [(1, .pointer (some ⟨gh, 0, none⟩)), (4, .pointer (some ⟨gc, 0, none⟩)), (5, .pointer (some ⟨g5, 0, none⟩)), (7, .pointer (some ⟨gl, 0, none⟩)), (40, .slice h.la h.ln h.lc), (41, .int .i64 h.ln), (42, .int .i64 n), (47, .slice l.ba l.bn l.bc), (48, .int .i64 l.bn), (49, .int .i64 i), (54, .slice b.ra b.rn b.rc), (55, .int .i64 b.rn), (56, .int .i64 k)] a' ∧ Hid (CntSt w0 h gc gh g5 w' (v0 + v1 + sumT (fun r => ((seatsS r).length : Int)) b.rows (k + 1))) ∧ Hid (LevIn w' gl l)) (fun KH hKH => ?_) ?_
   rotate_left
   ·
    clear hF HS HX d0 d1 d2 d3 d4 d5 d6 d7 hra
    rintro a w' ⟨hF, HS, HX⟩
    have hws : IntKind.i64.wrap ((k : Int) + 1) = ((k + 1 : Nat) : Int) := wrap_succ (by omega)
    revert hF;refine zrg [4, 1] [1, 4, 5, 7, 40, 41, 42, 47, 48, 49, 54, 55, 56] fun a hF => ?_
    exact hKG (b.rn - (k + 1)) _ _ (by omega) ⟨k + 1, by omega, hF, HS, HX⟩
   clear hKG hkk
   rw [sumT_next (fun r => ((seatsS r).length : Int)) hkl, ← Int.add_assoc] at hKH
   have HRK := Lib.hid (HRN.out k)
   have hrm : b.rows[k] ∈ b.rows := List.getElem_mem hkl
   have HRI := Lib.hid (HBV.out.2.2 _ hrm)
   have HROK := Lib.hid (HRB.out _ hrm).1
   clear hrm
   generalize b.rows[k] = r at *
   generalize sumT (fun r => ((seatsS r).length : Int)) b.rows k = v2 at *
   refine wp_block ?_
   refine wp_seq_k (fun K hK => ?_);revert hF;refine zrp [5, 4] [2, 3] fun a hF => ?_;refine seq_one ?_;revert hF;refine qe0 fun a hF => ?_;refine seq_one ?_;revert hF;refine qu2 fun a hF => ?_;refine seq_end ?_;replace hF := hF.kp [1, 4, 5, 7, 11, 40, 41, 42, 47, 48, 49, 54, 55, 56] rfl;refine hK _ _ ?_;clear hK
   have HZ : Hid (RowIn (w9.alloc (.cells #[.string (bs r.name), .int .i64 r.x, .int .i64 r.y, .int .i64 r.fr, .int .i64 r.to, .int .i64 r.step, .slice r.ma r.mn r.mc, .int .i64 r.at'] 49)) w9.heap.size r) := World.alloc_heap_new w9 _
   have HBa := Lib.hid (Joins.below_alloc1 w9 (.cells #[.string (bs r.name), .int .i64 r.x, .int .i64 r.y, .int .i64 r.fr, .int .i64 r.to, .int .i64 r.step, .slice r.ma r.mn r.mc, .int .i64 r.at'] 49))
   have HS10 := Lib.hid (HS.out.down HBa.out)
   have HX10 := Lib.hid (HX.out.down HBa.out)
   clear HS HX HBa d0 d1 d2 d3 d4 d5 d6 d7 hra
   generalize w9.alloc (.cells #[.string (bs r.name), .int .i64 r.x, .int .i64 r.y, .int .i64 r.fr, .int .i64 r.to, .int .i64 r.step, .slice r.ma r.mn r.mc, .int .i64 r.at'] 49) = w10 at *
   obtain ⟨gr, hgr⟩ : ∃ g, g = w9.heap.size := ⟨_, rfl⟩
   rw [← hgr] at hF HZ
   clear hgr
   obtain ⟨q0, q1, q2, q3, q4, q5, q6, q7⟩ := HZ.out.cells
   revert hF;refine zrp [4, 4] [2] fun a hF => ?_;revert hF;refine zos fun K hK => ?_
   refine (count_any w0 w10 r HROK.out g5 (v0 + v1 + v2) HS10.out.chk.below HRI.out HS10.out.base HS10.out.var (by have := HCN.out; have := HBI.out; have := HRK.out; omega) (by have := HCN.out; have := HBI.out; have := HRK.out; have := seats_len HROK.out; omega)).mono ?_
   rintro e w11 ⟨rfl, hv11, hu11⟩
   have HS11 : Hid (CntSt w0 h gc gh g5 w11 (v0 + v1 + v2 + ((seatsS r).length : Int))) := HS10.out.upd hu11 hv11
   have HX11 : Hid (LevIn w11 gl l) := (hu11.block gl (lt_of_block HX10.out) (type_ne HX10.out HS10.out.var (by decide))).trans HX10.out
   clear q0 q1 q2 q3 q4 q5 q6 q7 HZ HS10 HX10 hv11 hu11
   refine hK _ _ (fun a hF => ?_);clear hK K;refine seq_end ?_;replace hF := hF.kp [1, 4, 5, 7, 40, 41, 42, 47, 48, 49, 54, 55, 56] rfl
   exact hKH _ _ ⟨hF, HS11, HX11⟩
  clear hF HS6 HX
  rintro a w7 ⟨hF, HS, HX⟩
  have HBZ : Hid (0 ≤ (l.blocks.map rowsC).sum ∧ (l.blocks.map rowsC).sum ≤ 3000) := by
   have := HBB.out l.blocks.length
   rw [sumT_all] at this
   exact this
  have HS7 : Hid (CntSt w0 h gc gh g5 w7 (v0 + (l.blocks.map rowsC).sum + sumT (fun x : AreaR => x.holds) l.areas 0)) := by
   have : v0 + (l.blocks.map rowsC).sum + sumT (fun x : AreaR => x.holds) l.areas 0 = v0 + (l.blocks.map rowsC).sum := by simp [sumT]
   rw [this]
   exact HS.out
  have HLE : Hid (levC l = (l.blocks.map rowsC).sum + (l.areas.map (fun x : AreaR => x.holds)).sum) := rfl
  rw [HLE.out, ← Int.add_assoc] at hKC
  clear HS HLE HRR
  generalize (l.blocks.map rowsC).sum = v1 at *
  obtain ⟨d0, d1, d2, d3, d4, d5, d6, d7⟩ := HX.out.cells
  revert hF;refine zrs [4, 4, 4, 1] [1, 4, 5, 40, 41, 42, 66, 67, 68] fun a hF => ?_
  clear d0 d1 d2 d3 d4 d5 d6 d7 HX
  refine wp_block ?_
  refine loop_fr (fun m a' w' => ∃ j : Nat, j + m = l.an ∧ FrF 118 [] [(1, .pointer (some ⟨gh, 0, none⟩)), (4, .pointer (some ⟨gc, 0, none⟩)), (5, .pointer (some ⟨g5, 0, none⟩)), (40, .slice h.la h.ln h.lc), (41, .int .i64 h.ln), (42, .int .i64 n), (66, .slice l.aa l.an l.ac), (67, .int .i64 l.an), (68, .int .i64 j)] a' ∧ Hid (CntSt w0 h gc gh g5 w' (v0 + v1 + sumT (fun x : AreaR => x.holds) l.areas j))) l.an ⟨0, by omega, hF, HS7⟩ ?_
  clear hF HS7
  rintro rj a w8 ⟨j, hjk, hF, HS⟩ KE hKE
  by_cases hltj : j < l.an
  rotate_left
  ·
   revert hF;refine zrs [5] [1, 4, 5, 40, 41, 42, 66, 67, 68, 69] fun a hF => ?_;refine wp_seq_k (fun K hK => ?_)
   refine cond_no hF rfl ?_
   refine wp_exit ?_
   have hje : j = l.areas.length := by rw [HLS.out.2.1]; omega
   rw [hje, sumT_all] at HS
   exact hKC _ _ ⟨hF.sub ⟨rfl, rfl, rfl, rfl, rfl, rfl, trivial⟩, HS⟩
  revert hF;refine zrs [5] [1, 4, 5, 40, 41, 42, 66, 67, 68, 69] fun a hF => ?_;refine wp_seq_k (fun K hK => ?_)
  refine cond_yes hF rfl ?_
  refine wp_skip ?_
  refine hK _ _ ?_;clear hK;replace hF := hF.kp [1, 4, 5, 40, 41, 42, 66, 67, 68] rfl
  clear hKC
  have hjl : j < l.areas.length := by rw [HLS.out.2.1]; exact hltj
  have hji : (j : Int) < l.an := by omega
  obtain ⟨bb, oo, haa, d0, d1, d2, d3, d4, d5, d6⟩ := area_at (HLV.out.areas.below HS.out.chk.below) j hltj hjl
  refine seq_cut (fun a' w' => FrF 118 [] [(1, .pointer (some ⟨gh, 0, none⟩)), (4, .pointer (some ⟨gc, 0, none⟩)), (5, .pointer (some ⟨g5, 0, none⟩)), (40, .slice h.la h.ln h.lc), (41, .int .i64 h.ln), (42, .int .i64 n), (66, .slice l.aa l.an l.ac), (67, .int .i64 l.an), (68, .int .i64 j)] a' ∧ Hid (CntSt w0 h gc gh g5 w' (v0 + v1 + sumT (fun x : AreaR => x.holds) l.areas (j + 1)))) (fun KF hKF => ?_) ?_
  rotate_left
  ·
   clear hF HS d0 d1 d2 d3 d4 d5 d6 haa
   rintro a w' ⟨hF, HS⟩
   have hws : IntKind.i64.wrap ((j : Int) + 1) = ((j + 1 : Nat) : Int) := wrap_succ (by omega)
   revert hF;refine zrg [4, 1] [1, 4, 5, 40, 41, 42, 66, 67, 68] fun a hF => ?_
   exact hKE (l.an - (j + 1)) _ _ (by omega) ⟨j + 1, by omega, hF, HS⟩
  clear hKE hjk
  rw [sumT_next (fun x : AreaR => x.holds) hjl, ← Int.add_assoc] at hKF
  have HAJ := Lib.hid (HAB.out j)
  have HARO := Lib.hid (HAA.out _ (List.getElem_mem hjl))
  generalize l.areas[j] = ar at *
  generalize sumT (fun x : AreaR => x.holds) l.areas j = v2 at *
  refine wp_block ?_
  refine wp_seq_k (fun K hK => ?_);revert hF;refine zrp [5, 4] [2, 3] fun a hF => ?_;refine seq_one ?_;revert hF;refine qe0 fun a hF => ?_;refine seq_one ?_;revert hF;refine qu2 fun a hF => ?_;refine seq_end ?_;replace hF := hF.kp [1, 4, 5, 13, 40, 41, 42, 66, 67, 68] rfl;refine hK _ _ ?_;clear hK
  have HY : Hid (AreaIn (w8.alloc (.cells #[.string (bs ar.name), .int .i64 ar.box.x, .int .i64 ar.box.y, .int .i64 ar.box.x2, .int .i64 ar.box.y2, .int .i64 ar.holds, .int .i64 ar.at'] 61)) w8.heap.size ar) := World.alloc_heap_new w8 _
  have HBa := Lib.hid (Joins.below_alloc1 w8 (.cells #[.string (bs ar.name), .int .i64 ar.box.x, .int .i64 ar.box.y, .int .i64 ar.box.x2, .int .i64 ar.box.y2, .int .i64 ar.holds, .int .i64 ar.at'] 61))
  have HS9 := Lib.hid (HS.out.down HBa.out)
  clear HS HBa d0 d1 d2 d3 d4 d5 d6 haa
  generalize w8.alloc (.cells #[.string (bs ar.name), .int .i64 ar.box.x, .int .i64 ar.box.y, .int .i64 ar.box.x2, .int .i64 ar.box.y2, .int .i64 ar.holds, .int .i64 ar.at'] 61) = w9 at *
  obtain ⟨ga, hga⟩ : ∃ g, g = w8.heap.size := ⟨_, rfl⟩
  rw [← hga] at hF HY
  clear hga
  have x5 := HY.out.cells.2.2.2.2.2.1
  have c5 : w9.cell? ⟨g5, 0, none⟩ = some (.int .i64 (v0 + v1 + v2)) := boxed_cell (j := 0) HS9.out.var rfl
  have f5 := free_var (o := 0) HS9.out.var
  have hws : IntKind.i64.wrap (v0 + v1 + v2 + ar.holds) = v0 + v1 + v2 + ar.holds := by
   have := HCN.out
   have := HBZ.out
   have := HAJ.out
   have := HARO.out.2
   exact wrap_in (by omega) (by omega)
  revert hF;refine zrp [4, 4, 4, 5] [4] fun a hF => ?_;refine seq_one ?_;revert hF;refine qu2 fun a hF => ?_;refine seq_end ?_;replace hF := hF.kp [1, 4, 5, 40, 41, 42, 66, 67, 68] rfl
  exact hKF _ _ ⟨hF, HS9.out.upd (Upd.setCell _ g5 0 _ rfl) (set_var HS9.out.var)⟩
 clear hF HS HRC HLC HCB
 rintro a w5 ⟨hF, HS⟩
 have HCT : Hid (countS h = (h.levels.map levC).sum) := rfl
 rw [← HCT.out] at HS
 clear HCT
 refine seq_cut (fun a' w' => FrF 118 [] [(1, .pointer (some ⟨gh, 0, none⟩)), (4, .pointer (some ⟨gc, 0, none⟩))] a' ∧ Hid (Chk w0 h gc w' (faultsS h)) ∧ Hid (HallIn w' gh h) ∧ Hid (faultsS h = [] → countS h ≤ 4000)) (fun KA hKA => ?_) ?_
 ·
  refine wp_block ?_
  obtain ⟨_, c1, c2, c3⟩ := HS.out.hall.cells
  refine wp_seq_k (fun K hK => ?_);revert hF;refine zrp [4, 4, 4, 4, 4, 4] [6, 7, 8, 9] fun a hF => ?_;refine seq_one ?_;revert hF;refine qe2 fun a hF => ?_
  have HR := Lib.hid (recs_alloc IntE w5 3 [h.stage.x, h.stage.y] #[.int .i64 h.stage.x, .int .i64 h.stage.y] rfl)
  have HBa := Lib.hid (Joins.below_alloc1 w5 (.cells #[.int .i64 h.stage.x, .int .i64 h.stage.y] 3))
  have HS6 := Lib.hid (HS.out.down HBa.out)
  have HC := Lib.hid (coords_any _ _ _ 2 _ HR.out (by simp))
  clear c1 c2 c3 HS HR HBa
  generalize w5.alloc (.cells #[.int .i64 h.stage.x, .int .i64 h.stage.y] 3) = w6 at *
  revert hF;refine zos fun K hK => ?_
  refine HC.out.mono ?_
  rintro e w7 ⟨rfl, hb7⟩
  have HS7 := Lib.hid (HS6.out.down hb7)
  have HE : Hid ([h.stage.x, h.stage.y].all coordB = (coordB h.stage.x && coordB h.stage.y)) := by simp [Hid]
  rw [HE.out]
  clear HC HS6 hb7 HE
  generalize (coordB h.stage.x && coordB h.stage.y) = y at *
  cases y
  ·
   rw [if_pos (by decide)] at HFS
   refine hK _ _ (fun a hF => ?_);clear hK K;revert hF;refine zre 8 [4, 2] [1, 4, 5, 89] fun a hF => ?_;refine hK _ _ ?_;clear hK
   refine cond_yes hF rfl ?_
   revert hF;refine zrp [1] [1] fun a hF => ?_;revert hF;refine zos fun K hK => ?_
   refine (add_any w0 h gc w7 [] 2 (-1) (-1) HS7.out.chk (by simp)).mono ?_
   rintro e w8 ⟨rfl, hc8, ht8⟩
   have HC8 := Lib.hid hc8
   have HX8 : Hid (HallIn w8 gh h) := ht8.keep HS7.out.hall (by unfold ChkT; decide)
   clear hc8 ht8 HS7
   refine hK _ _ (fun a hF => ?_);clear hK K;refine seq_end ?_;replace hF := hF.kp [1, 4] rfl
   refine hKA _ _ ⟨hF, ?_, HX8, fun e => ?_⟩
   ·
    rw [HFS.out]; exact HC8
   ·
    rw [HFS.out] at e; cases e
  rw [if_neg (by decide)] at HFS
  refine hK _ _ (fun a hF => ?_);clear hK K;revert hF;refine zre 8 [4, 2] [1, 4, 5, 89] fun a hF => ?_;refine hK _ _ ?_;clear hK
  refine cond_no hF rfl ?_
  have c5 : w7.cell? ⟨g5, 0, none⟩ = some (.int .i64 (countS h)) := boxed_cell (j := 0) HS7.out.var rfl
  by_cases hct : 4000 < countS h
  ·
   have hcb : decide (4000 < countS h) = true := decide_eq_true hct
   rw [if_pos hct] at HFS
   revert hF;refine zrs [4, 4, 2] [1, 4, 101] fun a hF => ?_
   refine cond_yes hF rfl ?_
   clear c5 hcb
   revert hF;refine zrp [1] [1] fun a hF => ?_;revert hF;refine zos fun K hK => ?_
   refine (add_any w0 h gc w7 [] 3 (-1) (-1) HS7.out.chk (by simp)).mono ?_
   rintro e w8 ⟨rfl, hc8, ht8⟩
   have HC8 := Lib.hid hc8
   have HX8 : Hid (HallIn w8 gh h) := ht8.keep HS7.out.hall (by unfold ChkT; decide)
   clear hc8 ht8 HS7
   refine hK _ _ (fun a hF => ?_);clear hK K;refine seq_end ?_;replace hF := hF.kp [1, 4] rfl
   refine hKA _ _ ⟨hF, ?_, HX8, fun e => ?_⟩
   ·
    rw [HFS.out]; exact HC8
   ·
    rw [HFS.out] at e; cases e
  have hcb : decide (4000 < countS h) = false := decide_eq_false hct
  rw [if_neg hct] at HFS
  revert hF;refine zrs [4, 4, 2] [1, 4, 101] fun a hF => ?_
  refine cond_no hF rfl ?_
  clear c5 hcb
  obtain ⟨_, c1, c2, c3⟩ := HS7.out.hall.cells
  have HC7 : Hid (Chk w0 h gc w7 ((h.levels.take 0).flatMap severalS)) := HS7.out.chk
  have HX7 : Hid (HallIn w7 gh h) := HS7.out.hall
  have HSL : Hid (∀ n, ((h.levels.take n).flatMap severalS).length ≤ n * 20000) := fun n => by
   suffices hh : ∀ xs : List LevR, (∀ l ∈ xs, l ∈ h.levels) → (xs.flatMap severalS).length ≤ xs.length * 20000 by
    have := hh (h.levels.take n) (fun l hl => List.mem_of_mem_take hl)
    rw [List.length_take] at this
    omega
   intro xs
   induction xs with
   | nil => intro _; simp
   | cons x xs ih =>
    intro hx
    obtain ⟨q1, q2, q3, q4, q5⟩ := HLB.out x (hx x (List.mem_cons_self ..))
    have h1 := severalS_len (l := x) (by omega) (fun b hb => by have := q5 b hb; omega) (by omega)
    have h2 := ih fun l hl => hx l (List.mem_cons_of_mem _ hl)
    rw [List.flatMap_cons, List.length_append, List.length_cons, Nat.succ_mul]
    omega
  clear HS7
  revert hF;refine zrs [4, 4, 4, 1] [1, 4, 79, 80, 81] fun a hF => ?_
  clear c1 c2 c3
  refine wp_block ?_
  refine loop_fr (fun m a' w' => ∃ n : Nat, n + m = h.ln ∧ FrF 118 [] [(1, .pointer (some ⟨gh, 0, none⟩)), (4, .pointer (some ⟨gc, 0, none⟩)), (79, .slice h.la h.ln h.lc), (80, .int .i64 h.ln), (81, .int .i64 n)] a' ∧ Hid (Chk w0 h gc w' ((h.levels.take n).flatMap severalS)) ∧ Hid (HallIn w' gh h)) h.ln ⟨0, by omega, hF, HC7, HX7⟩ ?_
  clear hF HC7 HX7
  rintro rk a w8 ⟨n, hnk, hF, HC, HX⟩ KB hKB
  by_cases hlt : n < h.ln
  rotate_left
  ·
   revert hF;refine zrs [5] [1, 4, 79, 80, 81, 82] fun a hF => ?_;refine wp_seq_k (fun K hK => ?_)
   refine cond_no hF rfl ?_
   refine wp_exit ?_
   rw [List.take_of_length_le (by rw [HLL.out]; omega)] at HC
   refine hKA _ _ ⟨hF.sub ⟨rfl, rfl, trivial⟩, ?_, HX, fun _ => by omega⟩
   rw [HFS.out]
   exact HC
  revert hF;refine zrs [5] [1, 4, 79, 80, 81, 82] fun a hF => ?_;refine wp_seq_k (fun K hK => ?_)
  refine cond_yes hF rfl ?_
  refine wp_skip ?_
  refine hK _ _ ?_;clear hK;replace hF := hF.kp [1, 4, 79, 80, 81] rfl
  clear hKA
  have hnl : n < h.levels.length := by rw [HLL.out]; exact hlt
  have hni : (n : Int) < h.ln := by omega
  obtain ⟨bb, oo, hla, d0, d1, d2, d3, d4, d5, d6, d7⟩ := lev_at (HH.out.levels.below HC.out.below) n hlt hnl
  refine seq_cut (fun a' w' => FrF 118 [] [(1, .pointer (some ⟨gh, 0, none⟩)), (4, .pointer (some ⟨gc, 0, none⟩)), (79, .slice h.la h.ln h.lc), (80, .int .i64 h.ln), (81, .int .i64 n)] a' ∧ Hid (Chk w0 h gc w' ((h.levels.take (n + 1)).flatMap severalS)) ∧ Hid (HallIn w' gh h)) (fun KC hKC => ?_) ?_
  rotate_left
  ·
   clear hF HC HX d0 d1 d2 d3 d4 d5 d6 d7 hla
   rintro a w' ⟨hF, HC, HX⟩
   have hws : IntKind.i64.wrap ((n : Int) + 1) = ((n + 1 : Nat) : Int) := wrap_succ (by omega)
   revert hF;refine zrg [4, 1] [1, 4, 79, 80, 81] fun a hF => ?_
   exact hKB (h.ln - (n + 1)) _ _ (by omega) ⟨n + 1, by omega, hF, HC, HX⟩
  clear hKB hnk
  have HTN : Hid ((h.levels.take (n + 1)).flatMap severalS = (h.levels.take n).flatMap severalS ++ severalS h.levels[n]) := by
   show _ = _
   rw [List.take_succ_eq_append_getElem hnl, List.flatMap_append]
   simp
  rw [HTN.out] at hKC
  clear HTN
  have HSN := Lib.hid (HSL.out n)
  have hlm : h.levels[n] ∈ h.levels := List.getElem_mem hnl
  have HLV := Lib.hid (HH.out.lev _ hlm)
  have HLM := Lib.hid (HSM.out.lev _ hlm)
  have HRM := Lib.hid (HSM.out.rn _ hlm)
  have HRR := Lib.hid (HNS.out.rows _ hlm)
  have HAL := Lib.hid (HAC.out _ hlm)
  clear hlm
  generalize h.levels[n] = l at *
  generalize (h.levels.take n).flatMap severalS = L at *
  refine wp_block ?_
  refine wp_seq_k (fun K hK => ?_);revert hF;refine zrp [5, 4] [2, 3] fun a hF => ?_;refine seq_one ?_;revert hF;refine qe0 fun a hF => ?_;refine seq_one ?_;revert hF;refine qu2 fun a hF => ?_;refine seq_end ?_;replace hF := hF.kp [1, 4, 15, 79, 80, 81] rfl;refine hK _ _ ?_;clear hK
  have HY : Hid (LevIn (w8.alloc (.cells #[.string (bs l.name), .int .i64 l.height, .slice l.ba l.bn l.bc, .slice l.aa l.an l.ac, .slice l.sa l.sn l.sc, .slice l.pa l.pn l.pc, .slice l.da l.dn l.dc, .int .i64 l.at'] 32)) w8.heap.size l) := World.alloc_heap_new w8 _
  have HBa := Lib.hid (Joins.below_alloc1 w8 (.cells #[.string (bs l.name), .int .i64 l.height, .slice l.ba l.bn l.bc, .slice l.aa l.an l.ac, .slice l.sa l.sn l.sc, .slice l.pa l.pn l.pc, .slice l.da l.dn l.dc, .int .i64 l.at'] 32))
  have HC9 := Lib.hid (HC.out.down HBa.out)
  have HX9 := Lib.hid (HX.out.down HBa.out)
  clear HC HX HBa d0 d1 d2 d3 d4 d5 d6 d7 hla
  generalize w8.alloc (.cells #[.string (bs l.name), .int .i64 l.height, .slice l.ba l.bn l.bc, .slice l.aa l.an l.ac, .slice l.sa l.sn l.sc, .slice l.pa l.pn l.pc, .slice l.da l.dn l.dc, .int .i64 l.at'] 32) = w9 at *
  obtain ⟨gl, hgl⟩ : ∃ g, g = w8.heap.size := ⟨_, rfl⟩
  rw [← hgl] at hF HY
  clear hgl
  obtain ⟨d0, d1, d2, d3, d4, d5, d6, d7⟩ := HY.out.cells
  revert hF;refine zrp [1, 4] [2] fun a hF => ?_;revert hF;refine zos fun K hK => ?_
  refine (several_any w0 h gc w9 L HC9.out (by have := HSN.out; omega) l HLV.out HLM.out HRM.out (fun b hb r hr => (HRR.out b hb r hr).1) HAL.out).mono ?_
  rintro e w10 ⟨rfl, hc10, hk10⟩
  have HC10 := Lib.hid hc10
  have HX10 : Hid (HallIn w10 gh h) := hk10.block _ _ HX9.out (by
   rintro (e | ⟨arr, T, x, e, hT⟩)
   ·
    have := lt_of_block HX9.out
    omega
   ·
    cases e
    rcases hT with (h1 | h1) | h1 | h1 | h1 | h1 <;> exact absurd h1 (by decide))
  clear d0 d1 d2 d3 d4 d5 d6 d7 HY HC9 HX9 hc10 hk10
  refine hK _ _ (fun a hF => ?_);clear hK K;refine seq_end ?_;replace hF := hF.kp [1, 4, 79, 80, 81] rfl
  exact hKC _ _ ⟨hF, HC10, HX10⟩
 clear hF HS HFS
 rintro a w8 ⟨hF, HC, HX, HCT⟩
 obtain ⟨fv, hfv, hfo⟩ := HC.out.row
 obtain ⟨fla, flc, rfl, hfr⟩ := OwnRecs.of_row hfo
 have HFR := Lib.hid hfr
 have HBS : Hid (buildS h = if faultsS h = [] then (placesS h, []) else ([], faultsS h)) := rfl
 generalize faultsS h = F at *
 have c4 : w8.cell? ⟨gc, 4, none⟩ = some (.slice fla F.length flc) := boxed_cell (j := 4) hfv rfl
 clear hfv hfo hfr
 refine wp_seq_k (fun K hK => ?_)
 by_cases hz : 0 < F.length
 ·
  have hzi : (0 : Int) < (F.length : Nat) := by omega
  revert hF;refine zrs [1, 4, 4, 4, 4, 4] [1, 4, 111] fun a hF => ?_
  refine cond_yes hF rfl ?_
  have HRF : Hid (Recs FaultE w8 fla F.length F) := HFR.out.recs
  have hne : F ≠ [] := fun e => by rw [e] at hz; cases hz
  rw [if_neg hne] at HBS
  have HBW : Hid (Below w0.heap.size w0 w8) := HC.out.below
  clear HC HX HFR hz hzi hne HCT
  have c4 : w8.drew.cell? ⟨gc, 4, none⟩ = some (.slice fla F.length flc) := c4
  refine wp_seq_k (fun K hK => ?_);refine region_any (by kernel_rfl) ?_;revert hF;refine zrb (fuel := 0) [1, 41, 73, 116, 130, 162] [2, 3] fun a hF => ?_;refine hK _ _ ?_;clear hK;refine wp_ret ?_;(try simp only [then_ret, block_ret, goto_ret]);revert hF;refine zq ?_
  refine ⟨⟨none, 0, 0, _, _, _, rfl, ?_, ?_⟩, below_d HBW.out⟩
  ·
   rw [HBS.out]
   exact ⟨rfl, fun i hi => absurd hi (Nat.not_lt_zero _)⟩
  ·
   rw [HBS.out]
   exact HRF.out
 have hzi : ¬ (0 : Int) < (F.length : Nat) := by omega
 revert hF;refine zrs [1, 4, 4, 4, 4, 4] [1, 4, 111] fun a hF => ?_
 refine cond_no hF rfl ?_
 refine wp_skip ?_
 refine hK _ _ ?_;clear hK;replace hF := hF.kp [1, 4] rfl
 have hf0 : F = [] := List.length_eq_zero_iff.1 (by omega)
 have HPO := Lib.hid (planOk_of HS0.out (HCT.out hf0) HSM.out (fun l hl => by have := (HLB.out l hl).1; omega))
 rw [if_pos hf0] at HBS
 have HBW : Hid (Below w0.heap.size w0 w8) := HC.out.below
 clear hf0 hz hzi c4 HFR HC HCT
 obtain ⟨c0, c1, c2, c3⟩ := HX.out.cells
 refine wp_seq_k (fun K hK => ?_);revert hF;refine zrp [4] [1, 2, 3] fun a hF => ?_;revert hF;refine zos fun K hK => ?_
 refine (places_any w8 h (HH.out.below HBW.out) HPO.out).mono ?_
 rintro e w9 ⟨⟨la, c, rfl, hr9⟩, hb9⟩
 have HR9 := Lib.hid hr9
 have HB9 : Hid (Below w0.heap.size w0 w9) := HBW.out.trans (hb9.mono HBW.out.size)
 clear c0 c1 c2 c3 HX HBW hr9 hb9
 refine hK _ _ (fun a hF => ?_);clear hK K;revert hF;refine zre 2 [2, 2] [2, 3] fun a hF => ?_;refine hK _ _ ?_;clear hK;refine wp_ret ?_;(try simp only [then_ret, block_ret, goto_ret]);revert hF;refine zq ?_
 refine ⟨⟨la, (placesS h).length, c, none, 0, 0, rfl, ?_, ?_⟩, HB9.out⟩
 ·
  rw [HBS.out]
  exact HR9.out
 ·
  rw [HBS.out]
  exact ⟨rfl, fun i hi => absurd hi (Nat.not_lt_zero _)⟩
end Go.Proofs.YtmcdhggnpfhlmaaGreat
