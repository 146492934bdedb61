/- hall: the checker: row: the walk. -/
import Derived.Test.YtmcdhggnpfhlmaaGreatQHMR08

set_option linter.unusedVariables false
set_option linter.unusedSimpArgs false
namespace Go.Proofs.YtmcdhggnpfhlmaaGreat
open Go.RowKit Go.IntWalk Go.Maps Go.WideMaps
set_option linter.unusedSimpArgs false
set_option linter.unusedVariables false

def badK (m : MarkR) : Bool := decide (m.kind < 1) || decide (4 < m.kind)
def badS (r : RowR) (m : MarkR) : Bool := decide (m.seat < r.fr) || decide (r.to < m.seat)
theorem marksS_eq (r : RowR) : marksS r = if r.marks.any badK then 1 else if r.marks.any (badS r) then 11 else if !decide ((r.marks.map (·.seat)).Nodup) then 9
 else if r.marks.any (fun m => decide (m.kind = 4) && !wheelB r.marks m.wth) then 11 else 0 := rfl

/-- Which seats have been named so far; which of them as wheelchair places. -/
def seenM (ms : List MarkR) (i : Nat) (s : Int) : Bool := (ms.take i).any fun m => decide (m.seat = s)
def wheelM (ms : List MarkR) (i : Nat) (s : Int) : Bool := (ms.take i).any fun m => decide (m.seat = s) && decide (m.kind = 2)
theorem wheelM_zero (ms : List MarkR) : wheelM ms 0 = fun _ => false := by funext s; simp [wheelM]
theorem seenM_zero (ms : List MarkR) : seenM ms 0 = fun _ => false := by funext s; simp [seenM]
theorem wheelM_all (ms : List MarkR) : wheelM ms ms.length = wheelB ms := by funext s; simp [wheelM, wheelB]
theorem wheelM_next {ms : List MarkR} {i : Nat} (h : i < ms.length) : (fun s => if s = ms[i].seat then (wheelM ms i ms[i].seat || decide (ms[i].kind = 2)) else wheelM ms i s) = wheelM ms (i + 1) := by
 funext s
 unfold wheelM
 rw [List.take_succ_eq_append_getElem h, List.any_append]
 by_cases e : s = ms[i].seat
 ·
  subst e; simp
 ·
  have : ¬ ms[i].seat = s := fun h => e h.symm
  simp [e, this]
theorem seenM_next {ms : List MarkR} {i : Nat} (h : i < ms.length) : (fun s => if s = ms[i].seat then true else seenM ms i s) = seenM ms (i + 1) := by
 funext s
 unfold seenM
 rw [List.take_succ_eq_append_getElem h, List.any_append]
 by_cases e : s = ms[i].seat
 ·
  subst e; simp
 ·
  have : ¬ ms[i].seat = s := fun h => e h.symm
  simp [e, this]
theorem nodup_next {ms : List MarkR} {i : Nat} (h : i < ms.length) (hn : ((ms.take i).map (·.seat)).Nodup) (hs : seenM ms i ms[i].seat = false) : ((ms.take (i + 1)).map (·.seat)).Nodup := by
 rw [List.take_succ_eq_append_getElem h, List.map_append, List.nodup_append]
 refine ⟨hn, by simp, fun a ha b hb => ?_⟩
 simp at hb
 subst hb
 rintro rfl
 unfold seenM at hs
 rw [List.any_eq_false] at hs
 obtain ⟨m, hm, he⟩ := List.mem_map.1 ha
 exact absurd (by simpa using he) (by simpa using hs m hm)
theorem nodup_not {ms : List MarkR} {i : Nat} (h : i < ms.length) (hs : seenM ms i ms[i].seat = true) : ¬ (ms.map (·.seat)).Nodup := by
 intro hn
 have h1 : ((ms.take (i + 1)).map (·.seat)).Nodup := by
  rw [List.map_take]
  exact hn.sublist (List.take_sublist _ _)
 rw [List.take_succ_eq_append_getElem h, List.map_append, List.nodup_append] at h1
 unfold seenM at hs
 obtain ⟨m, hm, he⟩ := List.any_eq_true.1 hs
 exact h1.2.2 m.seat (List.mem_map.2 ⟨m, hm, rfl⟩) ms[i].seat (by simp) (by simpa using he)
theorem any_at {α : Type} {p : α → Bool} {xs : List α} {i : Nat} (h : i < xs.length) (hp : p xs[i] = true) : xs.any p = true := List.any_eq_true.2 ⟨xs[i], List.getElem_mem h, hp⟩
theorem any_none {α : Type} {p : α → Bool} {xs : List α} (h : ∀ j (hj : j < xs.length), p xs[j] = false) : xs.any p = false := by
 rw [List.any_eq_false]
 intro x hx
 obtain ⟨j, hj, rfl⟩ := List.getElem_of_mem hx
 rw [h j hj]
 decide

/-- What stays in memory while a row is looked at. -/
structure RInv (w : World) (gr gv M1 M2 : Nat) (r : RowR) (n1 n2 : Nat) (f1 f2 : Int → Bool) (w' : World) : Prop where
 below : Below w.heap.size w w'
 row : RowIn w' gr r
 m1 : BMap w' M1 n1 f1
 m2 : BMap w' M2 n2 f2
 var : VarM w' gv M1
 ne : M1 ≠ M2
theorem RInv.down {w : World} {gr gv M1 M2 n1 n2 : Nat} {r : RowR} {f1 f2 : Int → Bool} {w1 w2 : World} (h : RInv w gr gv M1 M2 r n1 n2 f1 f2 w1) (hb : Below w1.heap.size w1 w2) : RInv w gr gv M1 M2 r n1 n2 f1 f2 w2 :=
 ⟨h.below.trans (hb.mono h.below.size), h.row.down hb, h.m1.down hb, h.m2.down hb, h.var.down hb, h.ne⟩
theorem RInv.set1 {w : World} {gr gv M1 M2 n1 n2 m : Nat} {r : RowR} {f1 f2 f : Int → Bool} {w1 w2 : World} (h : RInv w gr gv M1 M2 r n1 n2 f1 f2 w1) (hM : w.heap.size ≤ M1) (hm : BMap w2 M1 m f) (hg : w1.grownBy w2 (some M1)) : RInv w gr gv M1 M2 r m n2 f f2 w2 := by
 refine ⟨h.below.grown hg h.below.size (fun b hb => by cases hb; exact hM), ?_, hm, h.m2.heap ?_, ?_, h.ne⟩
 ·
  exact (hg.block gr (lt_of_block h.row) (fun e => map_ne h.row h.m1.blk (by cases e; rfl))).trans h.row
 ·
  obtain ⟨es, c, e⟩ := h.m2.blk
  exact hg.block M2 (lt_of_block e) (fun e => h.ne (by cases e; rfl))
 ·
  exact (hg.block gv (lt_of_block h.var) (fun e => map_ne h.var h.m1.blk (by cases e; rfl))).trans h.var
theorem RInv.set2 {w : World} {gr gv M1 M2 n1 n2 m : Nat} {r : RowR} {f1 f2 f : Int → Bool} {w1 w2 : World} (h : RInv w gr gv M1 M2 r n1 n2 f1 f2 w1) (hM : w.heap.size ≤ M2) (hm : BMap w2 M2 m f) (hg : w1.grownBy w2 (some M2)) : RInv w gr gv M1 M2 r n1 m f1 f w2 := by
 refine ⟨h.below.grown hg h.below.size (fun b hb => by cases hb; exact hM), ?_, h.m1.heap ?_, hm, ?_, h.ne⟩
 ·
  exact (hg.block gr (lt_of_block h.row) (fun e => map_ne h.row h.m2.blk (by cases e; rfl))).trans h.row
 ·
  obtain ⟨es, c, e⟩ := h.m1.blk
  exact hg.block M1 (lt_of_block e) (fun e => h.ne (by cases e; rfl))
 ·
  exact (hg.block gv (lt_of_block h.var) (fun e => map_ne h.var h.m2.blk (by cases e; rfl))).trans h.var

set_option maxRecDepth 100000 in
set_option maxHeartbeats 40000000 in
theorem row_any (w0 : World) (h : HallR) (g : Nat) (w : World) (L : List FaultR) (n i k : Nat) (hc : Chk w0 h g w L) (hL : L.length ≤ 800000) (hi : h.In w0) (l : LevR) (hl : h.levels[n]? = some l) (bk : BlkR) (hbk : l.blocks[i]? = some bk) (r : RowR) (hrk : bk.rows[k]? = some r) (hmn : r.mn ≤ 1000) :
  Calls Tryz.prog 16 #[.pointer (some ⟨g, 0, none⟩), .int .i64 n, .int .i64 i, .int .i64 k] w fun en w' => en = .returned (.tuple #[]) ∧ Chk w0 h g w' (L ++ rowFault bk.rows k r) ∧ TUpd ChkT w w' := by
 obtain ⟨hn, hle⟩ := List.getElem?_eq_some_iff.1 hl
 obtain ⟨hib, hbe⟩ := List.getElem?_eq_some_iff.1 hbk
 obtain ⟨hkb, hre⟩ := List.getElem?_eq_some_iff.1 hrk
 have hnl : n < h.ln := by have := hi.levels.1; omega
 have hni : (n : Int) < h.ln := by omega
 have HC := Lib.hid hc
 have hli : l.In w0 := by rw [← hle]; exact hi.lev _ (List.getElem_mem hn)
 have hbi : bk.In w0 := by rw [← hbe]; exact hli.blk _ (List.getElem_mem hib)
 have hri : r.In w0 := by rw [← hre]; exact hbi.2.2 _ (List.getElem_mem hkb)
 have hil : i < l.bn := by have := hli.blocks.1; omega
 have hii : (i : Int) < l.bn := by omega
 have hkl : k < bk.rn := by have := hbi.1.1; omega
 have hki : (k : Int) < bk.rn := by omega
 have c3 := hc.cell3
 obtain ⟨b, o, hla, c0, c1, c2, c4, c5, c6, c7, c8⟩ := lev_at (hi.levels.below hc.below) n hnl hn
 rw [hle] at c2
 obtain ⟨b2, o2, hba, d0, d1, d2⟩ := blk_at (hli.blocks.below hc.below) i hil hib
 rw [hbe] at d1
 obtain ⟨b3, o3, hra, e0, e1, e2, e3, e4, e5, e6, e7⟩ := row_at (hbi.1.below hc.below) k hkl hkb
 rw [hre] at e0 e1 e2 e3 e4 e5 e6 e7
 have HROWS : Hid (Recs RowE w0 (some ⟨b3, o3, none⟩) bk.rn bk.rows) := by
  have := hbi.1
  rw [hra] at this
  exact this
 have HRI := Lib.hid hri
 have HBI := Lib.hid hbi
 have HIX := Lib.hid (idx_found (p := fun x : RowR => decide (x.name = r.name)) hkb (by simp [hre]))
 have HRE := Lib.hid hre
 clear hc hi hl hle hbk hbe hrk hre hli hbi hri c0 c1 c4 c5 c6 c7 c8 d0 d2
 refine enter_fr (N := 197) [.pointer (some ⟨g, 0, none⟩), .int .i64 n, .int .i64 i, .int .i64 k] (Tryz.func16) rfl Tryz.ntmps16 (by rfl) (fun a hF => ?_);replace hF := hF.kp [0, 1, 2, 3] rfl
 refine wp_scope_straight ?_
 revert hF;refine zrs [1, 4, 4, 4, 4, 1, 5, 4, 4, 1, 5, 4, 4, 2] [0, 3, 8] fun a hF => ?_
 clear c2 c3 d1 hla hba hni hii
 refine wp_seq_k (fun K hK => ?_);revert hF;refine zrp [1, 1, 5, 4] [4, 5] fun a hF => ?_;refine seq_one ?_;revert hF;refine qe0 fun a hF => ?_;refine seq_one ?_;revert hF;refine qu2 fun a hF => ?_;refine seq_end ?_;replace hF := hF.kp [0, 3, 8, 9] rfl;refine hK _ _ ?_;clear hK
 have HB1 := Lib.hid (Joins.below_alloc1 w (.cells #[.string (bs r.name), .int .i64 r.x, .int .i64 r.y, .int .i64 r.fr, .int .i64 r.to, .int .i64 r.step, .slice r.ma r.mn r.mc, .int .i64 r.at'] 49))
 have HR1 : Hid (RowIn (w.alloc (.cells #[.string (bs r.name), .int .i64 r.x, .int .i64 r.y, .int .i64 r.fr, .int .i64 r.to, .int .i64 r.step, .slice r.ma r.mn r.mc, .int .i64 r.at'] 49)) w.heap.size r) := World.alloc_heap_new w _
 clear e0 e1 e2 e3 e4 e5 e6 e7 hra
 generalize w.alloc (.cells #[.string (bs r.name), .int .i64 r.x, .int .i64 r.y, .int .i64 r.fr, .int .i64 r.to, .int .i64 r.step, .slice r.ma r.mn r.mc, .int .i64 r.at'] 49) = w1 at *
 obtain ⟨gr, hgr⟩ : ∃ gr, gr = w.heap.size := ⟨_, rfl⟩
 rw [← hgr] at hF HR1
 clear hgr
 refine wp_seq_k (fun K hK => ?_);revert hF;refine zrp [1, 4] [2, 3] fun a hF => ?_;revert hF;refine zos fun K hK => ?_
 refine (index_row w1 (some ⟨b3, o3, none⟩) bk.rn bk.rc bk.rows ((HROWS.out.below HC.out.below).below HB1.out) HBI.out.2.1 45 [.pointer (some ⟨gr, 0, none⟩)] (fun y => decide (y.name = r.name)) (by kernel_rfl) (fun wx hb j hj => cl_row wx bk.rows[j] gr r (HR1.out.down hb))).mono ?_
 rintro e w2 ⟨rfl, hb2⟩
 have HB2 : Hid (Below w.heap.size w w2) := HB1.out.trans (hb2.mono HB1.out.size)
 have HR2 := Lib.hid (HR1.out.down hb2)
 clear HB1 HR1 hb2
 have HFD : Hid (idxS (fun y : RowR => decide (y.name = r.name)) bk.rows = (bk.rows.findIdx fun y => decide (y.name = r.name) : Nat)) := HIX.out.1
 have hfd := HIX.out.2
 rw [HFD.out]
 have HRF : Hid (rowFault bk.rows k r = if bk.rows.findIdx (fun y => decide (y.name = r.name)) < k then [⟨9, r.at', ((bk.rows[bk.rows.findIdx fun y => decide (y.name = r.name)]?).map (·.at')).getD 0⟩]
  else if r.fr < 1 ∨ r.to < r.fr ∨ 10000 < r.to ∨ r.step < 1 ∨ ¬ (coordB r.x = true) ∨ ¬ (coordB r.y = true) then [⟨2, r.at', -1⟩]
  else if r.fr < r.to ∧ (10000 < r.step ∨ ¬ (coordB (r.x + (r.to - r.fr) * r.step) = true)) then [⟨2, r.at', -1⟩]
  else if 60 ≤ r.to - r.fr ∨ 60 < r.marks.length then [⟨3, r.at', -1⟩]
  else if marksS r = 0 then [] else [⟨marksS r, r.at', -1⟩]) := rfl
 generalize rowFault bk.rows k r = RF at *
 clear HIX HFD
 generalize bk.rows.findIdx (fun y => decide (y.name = r.name)) = fi at *
 refine hK _ _ (fun a hF => ?_);clear hK K;revert hF;refine zre 3 [2] [0, 3, 8, 9, 10] fun a hF => ?_;refine hK _ _ ?_;clear hK;revert hF;refine zrs [2, 2] [0, 3, 8, 9, 10, 11, 12] fun a hF => ?_;refine wp_seq_k (fun K hK => ?_)
 have hmm := @run_makeMap Tryz.prog
 refine region_seq (l := [0, 1, 2, 3, 4]) (by kernel_rfl) ?_;refine seq_one ?_;revert hF;refine qe0 fun a hF => ?_
 have HM1 := Lib.hid (BMap.made w2)
 have HBa := Lib.hid (Joins.below_alloc1 w2 (.map #[] 0))
 have HB3 : Hid (Below w.heap.size w (w2.alloc (.map #[] 0))) := HB2.out.trans (HBa.out.mono HB2.out.size)
 have HR3 := Lib.hid (HR2.out.down HBa.out)
 have hM1 : w.heap.size ≤ w2.heap.size := HB2.out.size
 clear HB2 HR2 HBa
 generalize w2.alloc (.map #[] 0) = w3 at *
 generalize w2.heap.size = M1 at *
 refine seq_one ?_;revert hF;refine qe0 fun a hF => ?_
 have hM12 : M1 ≠ w3.heap.size := by
  obtain ⟨es, c, e⟩ := HM1.out.blk
  exact Nat.ne_of_lt (lt_of_block e)
 have HM2 := Lib.hid (BMap.made w3)
 have HBa := Lib.hid (Joins.below_alloc1 w3 (.map #[] 0))
 have HB4 : Hid (Below w.heap.size w (w3.alloc (.map #[] 0))) := HB3.out.trans (HBa.out.mono HB3.out.size)
 have HR4 := Lib.hid (HR3.out.down HBa.out)
 have HM1 := Lib.hid (HM1.out.down HBa.out)
 have hM2 : w.heap.size ≤ w3.heap.size := HB3.out.size
 clear HB3 HR3 HBa
 generalize w3.alloc (.map #[] 0) = w4 at *
 generalize w3.heap.size = M2 at *
 refine seq_one ?_;revert hF;refine qe0 fun a hF => ?_;refine seq_one ?_;revert hF;refine qu2 fun a hF => ?_
 have HV5 : Hid (VarM (w4.alloc (.cells #[.map (some M1)] 92)) w4.heap.size M1) := World.alloc_heap_new w4 _
 have HBa := Lib.hid (Joins.below_alloc1 w4 (.cells #[.map (some M1)] 92))
 have HB5 : Hid (Below w.heap.size w (w4.alloc (.cells #[.map (some M1)] 92))) := HB4.out.trans (HBa.out.mono HB4.out.size)
 have HR5 := Lib.hid (HR4.out.down HBa.out)
 have HM15 := Lib.hid (HM1.out.down HBa.out)
 have HM25 := Lib.hid (HM2.out.down HBa.out)
 clear HB4 HR4 HM1 HM2 HBa
 generalize w4.alloc (.cells #[.map (some M1)] 92) = w5 at *
 generalize w4.heap.size = gv at *
 revert hF;refine zre 4 [2] [0, 3, 8, 9, 10, 11, 12, 13, 14] fun a hF => ?_;refine hK _ _ ?_;clear hK
 clear hmm
 refine wp_seq_k (fun K hK => ?_)
 refine wp_label ?_
 refine hK _ _ ?_;clear hK
 refine seq_cut (fun a' w' => ∃ e other : Int, FrF 197 [] [(0, .pointer (some ⟨g, 0, none⟩)), (9, .pointer (some ⟨gr, 0, none⟩)), (11, .int .i64 e), (12, .int .i64 other)] a' ∧ Hid (Below w.heap.size w w') ∧ Hid (RowIn w' gr r) ∧ Hid (RF = if e = 0 then [] else [⟨e, r.at', other⟩])) (fun KS hKS => ?_) ?_
 rotate_left
 ·
  clear hF HRF HB5 HR5 HM15 HM25 HV5
  rintro a w6 ⟨e, other, hF, HB6, HR6, HE⟩
  have HC6 := Lib.hid (HC.out.down HB6.out)
  obtain ⟨d0, d1, d2, d3, d4, d5, d6, d7⟩ := HR6.out.cells
  clear d0 d1 d2 d3 d4 d5 d6
  by_cases he : e = 0
  ·
   have HE2 : Hid (RF = []) := HE.out.trans (if_pos he)
   have heb : (e != 0) = false := by simp [he]
   clear he
   revert hF;refine zrs [1, 4] [0, 9, 11, 12, 190] fun a hF => ?_
   refine cond_no hF rfl ?_
   refine wp_skip ?_
   (try simp only [then_exit, block_exit, block_norm, goto_norm, ↓reduceIte, Nat.reduceEqDiff]);refine end_fr (fn := Tryz.f16) (rs := []) rfl [] hF trivial ?_
   refine ⟨rfl, ?_, TUpd.of_below HB6.out⟩
   rw [HE2.out, List.append_nil]
   exact HC6.out
  ·
   have HE2 : Hid (RF = [⟨e, r.at', other⟩]) := HE.out.trans (if_neg he)
   have heb : (e != 0) = true := by simp [he]
   clear he
   revert hF;refine zrs [1, 4] [0, 9, 11, 12, 190] fun a hF => ?_
   refine cond_yes hF rfl ?_
   revert hF;refine zrp [1, 1, 4, 4, 1] [5] fun a hF => ?_;revert hF;refine zos fun K hK => ?_
   refine (add_any w0 h g _ L e r.at' other HC6.out (by omega)).mono ?_
   rintro en w7 ⟨rfl, hc7, ht7⟩
   refine hK _ _ (fun a hF => ?_);clear hK K;refine seq_end ?_;replace hF := hF.kp [] rfl;(try simp only [then_exit, block_exit, block_norm, goto_norm, ↓reduceIte, Nat.reduceEqDiff]);refine end_fr (fn := Tryz.f16) (rs := []) rfl [] hF trivial ?_
   refine ⟨rfl, ?_, (TUpd.of_below HB6.out).trans ht7⟩
   rw [HE2.out]
   exact hc7
 refine wp_block ?_
 by_cases hlt : fi < k
 ·
  have hlti : (fi : Int) < k := by omega
  have hfl2 : fi < bk.rn := by omega
  have hfl3 : fi < bk.rows.length := by omega
  have hfl4 : (fi : Int) < bk.rn := by omega
  have HAT : Hid (((bk.rows[fi]?).map (·.at')).getD 0 = bk.rows[fi].at') := by simp [Hid, hfl3]
  have HRF2 := Lib.hid (HRF.out.trans (if_pos hlt))
  clear HRF
  revert hF;refine zrs [1, 1, 5, 2] [0, 8, 9, 10, 11, 12, 13, 14, 110] fun a hF => ?_
  refine cond_yes hF rfl ?_
  obtain ⟨b', o', hra', e0, e1, e2, e3, e4, e5, e6, e7⟩ := row_at ((HROWS.out.below HC.out.below).below (below_d HB5.out)) fi hfl2 hfl3
  cases hra'
  clear e0 e1 e2 e3 e4 e5 e6
  generalize bk.rows[fi].at' = at2 at *
  refine region_any (by kernel_rfl) ?_;revert hF;refine zrb (fuel := 0) [1, 33, 74, 105, 148, 162, 194] [0, 9, 11, 12] fun a hF => ?_
  exact hKS _ _ ⟨9, at2, hF, below_d HB5.out, HR5.out, by rw [HRF2.out, HAT.out]; rfl⟩
 have hlti : ¬ (fi : Int) < k := by omega
 have HRF2 := Lib.hid (HRF.out.trans (if_neg hlt))
 clear HRF
 revert hF;refine zrs [1, 1, 5, 2] [0, 8, 9, 10, 11, 12, 13, 14, 110] fun a hF => ?_
 refine cond_no hF rfl ?_
 clear hlti hlt hki hkl hfd HROWS
 obtain ⟨c0, c1, c2, c3, c4, c5, c6, c7⟩ := HR5.out.cells
 clear c0
 refine wp_seq_k (fun K hK => ?_)
 by_cases h1 : r.fr < 1
 ·
  have bh1 : decide (r.fr < 1) = true := decide_eq_true h1
  have HRF3 := Lib.hid (HRF2.out.trans (if_pos (Or.inl h1)))
  clear HRF2
  revert hF;refine zrg [4, 4, 4, 1, 0, 0, 0, 0, 0, 5, 1, 0, 0, 0, 5, 1, 0, 0, 0, 5, 1, 0, 0, 0, 0, 0, 0, 0, 5, 2] [0, 9, 11, 12, 13, 14, 119] fun a hF => ?_;refine hK _ _ ?_;clear hK
  refine cond_yes hF rfl ?_
  revert hF;refine zrg [2] [0, 9, 11, 12] fun a hF => ?_
  exact hKS _ _ ⟨2, -1, hF, HB5, HR5, HRF3.out⟩
 have bh1 : decide (r.fr < 1) = false := decide_eq_false h1
 by_cases h2 : r.to < r.fr
 ·
  have bh2 : decide (r.to < r.fr) = true := decide_eq_true h2
  have HRF3 := Lib.hid (HRF2.out.trans (if_pos (Or.inr (Or.inl h2))))
  clear HRF2
  revert hF;refine zrg [4, 4, 4, 1, 4, 4, 4, 4, 5, 5, 1, 0, 0, 0, 5, 1, 0, 0, 0, 5, 1, 0, 0, 0, 0, 0, 0, 0, 5, 2] [0, 9, 11, 12, 13, 14, 119] fun a hF => ?_;refine hK _ _ ?_;clear hK
  refine cond_yes hF rfl ?_
  revert hF;refine zrg [2] [0, 9, 11, 12] fun a hF => ?_
  exact hKS _ _ ⟨2, -1, hF, HB5, HR5, HRF3.out⟩
 have bh2 : decide (r.to < r.fr) = false := decide_eq_false h2
 by_cases h3 : 10000 < r.to
 ·
  have bh3 : decide (10000 < r.to) = true := decide_eq_true h3
  have HRF3 := Lib.hid (HRF2.out.trans (if_pos (Or.inr (Or.inr (Or.inl h3)))))
  clear HRF2
  revert hF;refine zrg [4, 4, 4, 1, 4, 4, 4, 4, 5, 5, 1, 4, 4, 4, 5, 1, 0, 0, 0, 5, 1, 0, 0, 0, 0, 0, 0, 0, 5, 2] [0, 9, 11, 12, 13, 14, 119] fun a hF => ?_;refine hK _ _ ?_;clear hK
  refine cond_yes hF rfl ?_
  revert hF;refine zrg [2] [0, 9, 11, 12] fun a hF => ?_
  exact hKS _ _ ⟨2, -1, hF, HB5, HR5, HRF3.out⟩
 have bh3 : decide (10000 < r.to) = false := decide_eq_false h3
 by_cases h4 : r.step < 1
 ·
  have bh4 : decide (r.step < 1) = true := decide_eq_true h4
  have HRF3 := Lib.hid (HRF2.out.trans (if_pos (Or.inr (Or.inr (Or.inr (Or.inl h4))))))
  clear HRF2
  revert hF;refine zrg [4, 4, 4, 1, 4, 4, 4, 4, 5, 5, 1, 4, 4, 4, 5, 1, 4, 4, 4, 5, 1, 0, 0, 0, 0, 0, 0, 0, 5, 2] [0, 9, 11, 12, 13, 14, 119] fun a hF => ?_;refine hK _ _ ?_;clear hK
  refine cond_yes hF rfl ?_
  revert hF;refine zrg [2] [0, 9, 11, 12] fun a hF => ?_
  exact hKS _ _ ⟨2, -1, hF, HB5, HR5, HRF3.out⟩
 have bh4 : decide (r.step < 1) = false := decide_eq_false h4
 revert hF;refine zrp [4, 4, 4, 1, 4, 4, 4, 4, 5, 5, 1, 4, 4, 4, 5, 1, 4, 4, 4, 5, 1, 4, 4, 4, 4] [25, 26, 27, 28, 29] fun a hF => ?_;refine seq_one ?_;revert hF;refine qe2 fun a hF => ?_
 have HRX := Lib.hid (recs_alloc IntE w5 3 [r.x, r.y] #[.int .i64 r.x, .int .i64 r.y] rfl)
 have HBa := Lib.hid (Joins.below_alloc1 w5 (.cells #[.int .i64 r.x, .int .i64 r.y] 3))
 have HB6 : Hid (Below w.heap.size w (w5.alloc (.cells #[.int .i64 r.x, .int .i64 r.y] 3))) := HB5.out.trans (HBa.out.mono HB5.out.size)
 have HR6 := Lib.hid (HR5.out.down HBa.out)
 have HM16 := Lib.hid (HM15.out.down HBa.out)
 have HM26 := Lib.hid (HM25.out.down HBa.out)
 have HV6 := Lib.hid (HV5.out.down HBa.out)
 have HCO := Lib.hid (coords_any _ _ _ 2 _ HRX.out (by simp))
 have HCE : Hid ([r.x, r.y].all coordB = (coordB r.x && coordB r.y)) := by simp [Hid]
 clear HB5 HR5 HM15 HM25 HV5 HBa HRX
 generalize w5.alloc (.cells #[.int .i64 r.x, .int .i64 r.y] 3) = w6 at *
 generalize w5.heap.size = gz at *
 revert hF;refine zos fun K hK => ?_
 refine HCO.out.mono ?_
 rintro e w7 ⟨rfl, hb7⟩
 have HB7 : Hid (Below w.heap.size w w7) := HB6.out.trans (hb7.mono HB6.out.size)
 have HR7 := Lib.hid (HR6.out.down hb7)
 have HM17 := Lib.hid (HM16.out.down hb7)
 have HM27 := Lib.hid (HM26.out.down hb7)
 have HV7 := Lib.hid (HV6.out.down hb7)
 clear HB6 HR6 HM16 HM26 HV6 hb7 HCO c1 c2 c3 c4 c5 c6 c7
 generalize [r.x, r.y].all coordB = yc at *
 cases yc
 ·
  have HRF3 : Hid (RF = [⟨2, r.at', -1⟩]) := HRF2.out.trans (if_pos (by
   have := HCE.out
   cases hx : coordB r.x
   ·
    exact Or.inr (Or.inr (Or.inr (Or.inr (Or.inl (by decide)))))
   ·
    cases hy : coordB r.y
    ·
     exact Or.inr (Or.inr (Or.inr (Or.inr (Or.inr (by decide)))))
    ·
     rw [hx, hy] at this; cases this))
  clear HRF2
  refine hK _ _ (fun a hF => ?_);clear hK K;revert hF;refine zre 27 [4, 5, 2] [0, 9, 11, 12, 13, 14, 119] fun a hF => ?_;refine hK _ _ ?_;clear hK
  refine cond_yes hF rfl ?_
  revert hF;refine zrg [2] [0, 9, 11, 12] fun a hF => ?_
  exact hKS _ _ ⟨2, -1, hF, HB7, HR7, HRF3.out⟩
 have hxy : coordB r.x = true ∧ coordB r.y = true := by
  have := HCE.out
  cases hx : coordB r.x
  ·
   rw [hx] at this; cases this
  ·
   cases hy : coordB r.y
   ·
    rw [hx, hy] at this; cases this
   ·
    exact ⟨rfl, rfl⟩
 have HRF3 := Lib.hid (HRF2.out.trans (if_neg (by
  rintro (h | h | h | h | h | h)
  ·
   exact h1 h
  ·
   exact h2 h
  ·
   exact h3 h
  ·
   exact h4 h
  ·
   exact h hxy.1
  ·
   exact h hxy.2)))
 clear HRF2 HCE
 have hx0 : 0 ≤ r.x ∧ r.x ≤ 10000 := by
  have := hxy.1
  unfold coordB at this
  simpa using this
 clear hxy
 refine hK _ _ (fun a hF => ?_);clear hK K;revert hF;refine zre 27 [4, 5, 2] [0, 9, 11, 12, 13, 14, 119] fun a hF => ?_;refine hK _ _ ?_;clear hK
 refine cond_no hF rfl ?_
 obtain ⟨c0, c1, c2, c3, c4, c5, c6, c7⟩ := HR7.out.cells
 clear c0 bh1 bh2 bh3 bh4
 have HI : Hid (RInv w gr gv M1 M2 r 0 0 (fun _ => false) (fun _ => false) w7) := ⟨HB7.out, HR7.out, HM17.out, HM27.out, HV7.out, hM12⟩
 clear HB7 HR7 HM17 HM27 HV7
 have hs1 : IntKind.i64.wrap (r.to - r.fr) = r.to - r.fr := wrap_in (by omega) (by omega)
 refine wp_seq_k (fun K hK => ?_)
 have HTAIL : ∀ (a : Act) (w9 : World), FrF 197 [] [(0, .pointer (some ⟨g, 0, none⟩)), (9, .pointer (some ⟨gr, 0, none⟩)), (11, .int .i64 0), (12, .int .i64 (-1)), (13, .pointer (some ⟨gv, 0, none⟩)), (14, .map (some M2)), (149, .bool false)] a → RInv w gr gv M1 M2 r 0 0 (fun _ => false) (fun _ => false) w9 →
   (RF = if 60 ≤ r.to - r.fr ∨ 60 < r.marks.length then [⟨3, r.at', -1⟩] else if marksS r = 0 then [] else [⟨marksS r, r.at', -1⟩]) → K a w9 := by
  intro a w9 hF hi hrf
  have HI := Lib.hid hi
  have HRF4 := Lib.hid hrf
  clear hi hrf
  refine hK _ _ ?_;clear hK
  refine cond_no hF rfl ?_
  obtain ⟨c0, c1, c2, c3, c4, c5, c6, c7⟩ := HI.out.row.cells
  clear c0 c1 c2 c5 c7
  have HML := Lib.hid HRI.out.marks.1
  by_cases h7 : 60 ≤ r.to - r.fr
  ·
   have bh7 : decide (60 ≤ r.to - r.fr) = true := decide_eq_true h7
   have HRF5 := Lib.hid (HRF4.out.trans (if_pos (Or.inl h7)))
   revert hF;refine zrs [4, 4, 4, 4, 5, 4, 1, 0, 0, 0, 0, 5, 2] [0, 9, 11, 12, 13, 14, 176] fun a hF => ?_
   refine cond_yes hF rfl ?_
   revert hF;refine zrg [2] [0, 9, 11, 12] fun a hF => ?_
   exact hKS _ _ ⟨3, -1, hF, HI.out.below, HI.out.row, HRF5.out⟩
  have bh7 : decide (60 ≤ r.to - r.fr) = false := decide_eq_false h7
  by_cases h8 : 60 < r.mn
  ·
   have h8i : (60 : Int) < r.mn := by omega
   have HRF5 := Lib.hid (HRF4.out.trans (if_pos (Or.inr (by rw [HML.out]; exact h8))))
   revert hF;refine zrs [4, 4, 4, 4, 5, 4, 1, 4, 4, 4, 4, 5, 2] [0, 9, 11, 12, 13, 14, 176] fun a hF => ?_
   refine cond_yes hF rfl ?_
   revert hF;refine zrg [2] [0, 9, 11, 12] fun a hF => ?_
   exact hKS _ _ ⟨3, -1, hF, HI.out.below, HI.out.row, HRF5.out⟩
  have h8i : ¬ (60 : Int) < r.mn := by omega
  have HRF5 := Lib.hid (HRF4.out.trans (if_neg (fun h => h.elim h7 (fun h => h8 (by rw [HML.out] at h; exact h)))))
  revert hF;refine zrs [4, 4, 4, 4, 5, 4, 1, 4, 4, 4, 4, 5, 2] [0, 9, 11, 12, 13, 14, 176] fun a hF => ?_
  refine cond_no hF rfl ?_
  clear h8i bh7 hs1 c3 c4
  have HRF6 : Hid (∀ e, marksS r = e → RF = if e = 0 then [] else [⟨e, r.at', -1⟩]) := fun e he => by rw [HRF5.out, he]
  clear HRF4 HRF5
  refine seq_cut (fun a' w' => FrF 197 [] [(0, .pointer (some ⟨g, 0, none⟩)), (9, .pointer (some ⟨gr, 0, none⟩)), (11, .int .i64 0), (12, .int .i64 (-1)), (13, .pointer (some ⟨gv, 0, none⟩)), (14, .map (some M2))] a' ∧ Hid (RInv w gr gv M1 M2 r r.mn 0 (wheelM r.marks r.mn) (fun _ => false) w') ∧ Hid (∀ j (hj : j < r.marks.length), j < r.mn → badK r.marks[j] = false)) (fun KX hKX => ?_) ?_
  ·
   skip
   revert hF;refine zrs [4, 4, 4, 1] [0, 9, 11, 12, 13, 14, 44, 45, 46] fun a hF => ?_
   refine wp_block ?_
   refine loop_fr (fun n a' w' => ∃ i : Nat, i + n = r.mn ∧ FrF 197 [] [(0, .pointer (some ⟨g, 0, none⟩)), (9, .pointer (some ⟨gr, 0, none⟩)), (11, .int .i64 0), (12, .int .i64 (-1)), (13, .pointer (some ⟨gv, 0, none⟩)), (14, .map (some M2)), (44, .slice r.ma r.mn r.mc), (45, .int .i64 r.mn), (46, .int .i64 i)] a' ∧ Hid (RInv w gr gv M1 M2 r i 0 (wheelM r.marks i) (fun _ => false) w') ∧ Hid (∀ j (hj : j < r.marks.length), j < i → badK r.marks[j] = false)) r.mn ⟨0, by omega, hF, by rw [wheelM_zero]; exact HI, fun j _ hj => absurd hj (Nat.not_lt_zero _)⟩ ?_
   clear hF HI c6
   rintro rk a wr ⟨i, hik, hF, HI, HP⟩ KB hKB
   by_cases hlt : i < r.mn
   rotate_left
   ·
    revert hF;refine zrs [5] [0, 9, 11, 12, 13, 14, 44, 45, 46, 47] fun a hF => ?_;refine wp_seq_k (fun K hK => ?_)
    refine cond_no hF rfl ?_
    refine wp_exit ?_
    have hie : i = r.mn := by omega
    subst hie
    exact hKX _ _ ⟨hF.sub ⟨rfl, rfl, rfl, rfl, rfl, rfl, trivial⟩, HI, HP⟩
   revert hF;refine zrs [5] [0, 9, 11, 12, 13, 14, 44, 45, 46, 47] fun a hF => ?_;refine wp_seq_k (fun K hK => ?_)
   refine cond_yes hF rfl ?_
   refine wp_skip ?_
   refine hK _ _ ?_;clear hK
   clear hKX
   replace hF := hF.kp [0, 9, 11, 12, 13, 14, 44, 45, 46] rfl
   have hil2 : i < r.marks.length := by rw [HML.out]; exact hlt
   have hii2 : (i : Int) < r.mn := by omega
   have HKEY := Lib.hid (HRI.out.keys r.marks[i] (List.getElem_mem hil2))
   obtain ⟨b, o, hma, e0, e1, e2⟩ := mark_at (HRI.out.marks.below (HC.out.below.trans (HI.out.below.mono HC.out.below.size))) i hlt hil2
   refine seq_cut (fun a' w' => FrF 197 [] [(0, .pointer (some ⟨g, 0, none⟩)), (9, .pointer (some ⟨gr, 0, none⟩)), (11, .int .i64 0), (12, .int .i64 (-1)), (13, .pointer (some ⟨gv, 0, none⟩)), (14, .map (some M2)), (44, .slice r.ma r.mn r.mc), (45, .int .i64 r.mn), (46, .int .i64 i)] a' ∧ Hid (RInv w gr gv M1 M2 r (i + 1) 0 (wheelM r.marks (i + 1)) (fun _ => false) w') ∧ Hid (∀ j (hj : j < r.marks.length), j < i + 1 → badK r.marks[j] = false)) (fun KC hKC => ?_) ?_
   rotate_left
   ·
    clear hF HI HP e0 e1 e2 hma
    rintro a w' ⟨hF, HI, HP⟩
    have hws : IntKind.i64.wrap ((i : Int) + 1) = ((i + 1 : Nat) : Int) := wrap_succ (by omega)
    revert hF;refine zrg [4, 1] [0, 9, 11, 12, 13, 14, 44, 45, 46] fun a hF => ?_
    exact hKB (r.mn - (i + 1)) _ _ (by omega) ⟨i + 1, by omega, hF, HI, HP⟩
   clear hKB hik
   refine wp_block ?_
   refine wp_seq_k (fun K hK => ?_);revert hF;refine zrp [5, 4] [2, 3] fun a hF => ?_;refine seq_one ?_;revert hF;refine qe0 fun a hF => ?_;refine seq_one ?_;revert hF;refine qu2 fun a hF => ?_;refine seq_end ?_;replace hF := hF.kp [0, 9, 11, 12, 13, 14, 16, 44, 45, 46] rfl;refine hK _ _ ?_;clear hK
   have HMK : Hid (MarkIn (wr.alloc (.cells #[.int .i64 r.marks[i].kind, .int .i64 r.marks[i].seat, .int .i64 r.marks[i].wth] 46)) wr.heap.size r.marks[i]) := World.alloc_heap_new wr _
   have HI2 := Lib.hid (HI.out.down (Joins.below_alloc1 wr (.cells #[.int .i64 r.marks[i].kind, .int .i64 r.marks[i].seat, .int .i64 r.marks[i].wth] 46)))
   clear HI e0 e1 e2 hma
   generalize wr.alloc (.cells #[.int .i64 r.marks[i].kind, .int .i64 r.marks[i].seat, .int .i64 r.marks[i].wth] 46) = w2 at *
   generalize wr.heap.size = gm at *
   obtain ⟨m0, m1, m2⟩ := HMK.out.cells
   have HMB : Hid (badK r.marks[i] = true → RF = [⟨1, r.at', -1⟩]) := fun hb => HRF6.out 1 (by rw [marksS_eq, if_pos (any_at hil2 hb)])
   have HPN : Hid (badK r.marks[i] = false → ∀ j (hj : j < r.marks.length), j < i + 1 → badK r.marks[j] = false) := fun hb j hj hji => by
    by_cases e : j = i
    ·
     subst e; exact hb
    ·
     exact HP.out j hj (by omega)
   have HBK : Hid (badK r.marks[i] = (decide (r.marks[i].kind < 1) || decide (4 < r.marks[i].kind))) := rfl
   have HWN := Lib.hid (wheelM_next hil2)
   clear m2
   generalize r.marks[i].kind = mk at *
   generalize r.marks[i].seat = ms at *
   generalize badK r.marks[i] = bk1 at *
   refine wp_seq_k (fun KA hKA => ?_)
   by_cases k1 : mk < 1
   ·
    have bk : decide (mk < 1) = true := decide_eq_true k1
    revert hF;refine zrs [4, 4, 4, 1, 0, 0, 0, 5] [0, 9, 11, 12, 13, 14, 16, 44, 45, 46, 57] fun a hF => ?_
    refine cond_yes hF rfl ?_
    revert hF;refine zrs [2] [0, 9, 11, 12] fun a hF => ?_
    refine wp_exit ?_
    exact hKS _ _ ⟨1, -1, hF, HI2.out.below, HI2.out.row, HMB.out (by rw [HBK.out, bk]; rfl)⟩
   have bk : decide (mk < 1) = false := decide_eq_false k1
   by_cases k2 : 4 < mk
   ·
    have bk2 : decide (4 < mk) = true := decide_eq_true k2
    revert hF;refine zrs [4, 4, 4, 1, 4, 4, 4, 5] [0, 9, 11, 12, 13, 14, 16, 44, 45, 46, 57] fun a hF => ?_
    refine cond_yes hF rfl ?_
    revert hF;refine zrs [2] [0, 9, 11, 12] fun a hF => ?_
    refine wp_exit ?_
    exact hKS _ _ ⟨1, -1, hF, HI2.out.below, HI2.out.row, HMB.out (by rw [HBK.out, bk, bk2]; rfl)⟩
   have bk2 : decide (4 < mk) = false := decide_eq_false k2
   revert hF;refine zrs [4, 4, 4, 1, 4, 4, 4, 5] [0, 9, 11, 12, 13, 14, 16, 44, 45, 46, 57] fun a hF => ?_
   refine cond_no hF rfl ?_
   refine wp_skip ?_
   refine hKA _ _ ?_;clear hKA;replace hF := hF.kp [0, 9, 11, 12, 13, 14, 16, 44, 45, 46] rfl
   have hb0 : bk1 = false := by rw [HBK.out, bk, bk2]; rfl
   have HPN2 := Lib.hid (HPN.out hb0)
   have cv : w2.cell? ⟨gv, 0, none⟩ = some (.map (some M1)) := boxed_cell (j := 0) HI2.out.var rfl
   have hl := HI2.out.m1.look HKEY.out.1
   clear bk bk2 hb0 HBK HMB HPN k1 k2
   obtain ⟨wm, hwm⟩ : ∃ b, wheelM r.marks i ms = b := ⟨_, rfl⟩
   rw [hwm] at hl HWN
   obtain ⟨kb, hkb2⟩ : ∃ b, decide (mk = 2) = b := ⟨_, rfl⟩
   have hkb3 : (mk == 2) = kb := by rw [← hkb2]; rfl
   rw [hkb2] at HWN
   clear hkb2 hwm
   cases wm
   ·
    obtain ⟨w3, hMU, hbm, hg⟩ := HI2.out.m1.set HKEY.out.1 (by omega) kb
    have HI3 := Lib.hid (HI2.out.set1 hM1 hbm hg)
    clear hbm hg
    revert hF;refine zrp [4, 4, 4, 4, 4, 4, 5, 1, 4, 4, 4, 5] [12] fun a hF => ?_;refine seq_one ?_;revert hF;refine qu3 fun a hF => ?_;refine seq_end ?_;replace hF := hF.kp [0, 9, 11, 12, 13, 14, 44, 45, 46] rfl
    refine hKC _ _ ⟨hF, ?_, HPN2⟩
    rw [← HWN.out]
    exact HI3
   ·
    obtain ⟨w3, hMU, hbm, hg⟩ := HI2.out.m1.set HKEY.out.1 (by omega) true
    have HI3 := Lib.hid (HI2.out.set1 hM1 hbm hg)
    clear hbm hg
    revert hF;refine zrp [4, 4, 4, 4, 4, 4, 5, 1, 0, 0, 0, 5] [12] fun a hF => ?_;refine seq_one ?_;revert hF;refine qu3 fun a hF => ?_;refine seq_end ?_;replace hF := hF.kp [0, 9, 11, 12, 13, 14, 44, 45, 46] rfl
    refine hKC _ _ ⟨hF, ?_, HPN2⟩
    rw [← HWN.out]
    exact HI3
  clear HI hF c6
  rintro a w9 ⟨hF, HI, HK0⟩
  obtain ⟨c0, c1, c2, c3, c4, c5, c6, c7⟩ := HI.out.row.cells
  clear c0 c1 c2 c5 c7
  have HA0 : Hid (r.marks.any badK = false) := any_none fun j hj => HK0.out j hj (by rw [← HML.out]; exact hj)
  clear HK0
  refine seq_cut (fun a' w' => FrF 197 [] [(0, .pointer (some ⟨g, 0, none⟩)), (9, .pointer (some ⟨gr, 0, none⟩)), (11, .int .i64 0), (12, .int .i64 (-1)), (13, .pointer (some ⟨gv, 0, none⟩)), (14, .map (some M2))] a' ∧ Hid (RInv w gr gv M1 M2 r r.mn 0 (wheelM r.marks r.mn) (fun _ => false) w') ∧ Hid (∀ j (hj : j < r.marks.length), j < r.mn → badS r r.marks[j] = false)) (fun KX hKX => ?_) ?_
  ·
   skip
   revert hF;refine zrs [4, 4, 4, 1] [0, 9, 11, 12, 13, 14, 72, 73, 74] fun a hF => ?_
   refine wp_block ?_
   refine loop_fr (fun n a' w' => ∃ i : Nat, i + n = r.mn ∧ FrF 197 [] [(0, .pointer (some ⟨g, 0, none⟩)), (9, .pointer (some ⟨gr, 0, none⟩)), (11, .int .i64 0), (12, .int .i64 (-1)), (13, .pointer (some ⟨gv, 0, none⟩)), (14, .map (some M2)), (72, .slice r.ma r.mn r.mc), (73, .int .i64 r.mn), (74, .int .i64 i)] a' ∧ Hid (RInv w gr gv M1 M2 r r.mn 0 (wheelM r.marks r.mn) (fun _ => false) w') ∧ Hid (∀ j (hj : j < r.marks.length), j < i → badS r r.marks[j] = false)) r.mn ⟨0, by omega, hF, HI, fun j _ hj => absurd hj (Nat.not_lt_zero _)⟩ ?_
   clear hF HI c6 c3 c4
   rintro rk a wr ⟨i, hik, hF, HI, HP⟩ KB hKB
   by_cases hlt : i < r.mn
   rotate_left
   ·
    revert hF;refine zrs [5] [0, 9, 11, 12, 13, 14, 72, 73, 74, 75] fun a hF => ?_;refine wp_seq_k (fun K hK => ?_)
    refine cond_no hF rfl ?_
    refine wp_exit ?_
    have hie : i = r.mn := by omega
    subst hie
    exact hKX _ _ ⟨hF.sub ⟨rfl, rfl, rfl, rfl, rfl, rfl, trivial⟩, HI, HP⟩
   revert hF;refine zrs [5] [0, 9, 11, 12, 13, 14, 72, 73, 74, 75] fun a hF => ?_;refine wp_seq_k (fun K hK => ?_)
   refine cond_yes hF rfl ?_
   refine wp_skip ?_
   refine hK _ _ ?_;clear hK
   clear hKX
   replace hF := hF.kp [0, 9, 11, 12, 13, 14, 72, 73, 74] rfl
   have hil2 : i < r.marks.length := by rw [HML.out]; exact hlt
   have hii2 : (i : Int) < r.mn := by omega
   have HKEY := Lib.hid (HRI.out.keys r.marks[i] (List.getElem_mem hil2))
   obtain ⟨b, o, hma, e0, e1, e2⟩ := mark_at (HRI.out.marks.below (HC.out.below.trans (HI.out.below.mono HC.out.below.size))) i hlt hil2
   refine seq_cut (fun a' w' => FrF 197 [] [(0, .pointer (some ⟨g, 0, none⟩)), (9, .pointer (some ⟨gr, 0, none⟩)), (11, .int .i64 0), (12, .int .i64 (-1)), (13, .pointer (some ⟨gv, 0, none⟩)), (14, .map (some M2)), (72, .slice r.ma r.mn r.mc), (73, .int .i64 r.mn), (74, .int .i64 i)] a' ∧ Hid (RInv w gr gv M1 M2 r r.mn 0 (wheelM r.marks r.mn) (fun _ => false) w') ∧ Hid (∀ j (hj : j < r.marks.length), j < i + 1 → badS r r.marks[j] = false)) (fun KC hKC => ?_) ?_
   rotate_left
   ·
    clear hF HI HP e0 e1 e2 hma
    rintro a w' ⟨hF, HI, HP⟩
    have hws : IntKind.i64.wrap ((i : Int) + 1) = ((i + 1 : Nat) : Int) := wrap_succ (by omega)
    revert hF;refine zrg [4, 1] [0, 9, 11, 12, 13, 14, 72, 73, 74] fun a hF => ?_
    exact hKB (r.mn - (i + 1)) _ _ (by omega) ⟨i + 1, by omega, hF, HI, HP⟩
   clear hKB hik
   refine wp_block ?_
   refine wp_seq_k (fun K hK => ?_);revert hF;refine zrp [5, 4] [2, 3] fun a hF => ?_;refine seq_one ?_;revert hF;refine qe0 fun a hF => ?_;refine seq_one ?_;revert hF;refine qu2 fun a hF => ?_;refine seq_end ?_;replace hF := hF.kp [0, 9, 11, 12, 13, 14, 18, 72, 73, 74] rfl;refine hK _ _ ?_;clear hK
   have HMK : Hid (MarkIn (wr.alloc (.cells #[.int .i64 r.marks[i].kind, .int .i64 r.marks[i].seat, .int .i64 r.marks[i].wth] 46)) wr.heap.size r.marks[i]) := World.alloc_heap_new wr _
   have HI2 := Lib.hid (HI.out.down (Joins.below_alloc1 wr (.cells #[.int .i64 r.marks[i].kind, .int .i64 r.marks[i].seat, .int .i64 r.marks[i].wth] 46)))
   clear HI e0 e1 e2 hma
   generalize wr.alloc (.cells #[.int .i64 r.marks[i].kind, .int .i64 r.marks[i].seat, .int .i64 r.marks[i].wth] 46) = w2 at *
   generalize wr.heap.size = gm at *
   obtain ⟨m0, m1, m2⟩ := HMK.out.cells
   have HMB : Hid (badS r r.marks[i] = true → RF = [⟨11, r.at', -1⟩]) := fun hb => HRF6.out 11 (by rw [marksS_eq, HA0.out, if_neg (by decide), if_pos (any_at hil2 hb)])
   have HPN : Hid (badS r r.marks[i] = false → ∀ j (hj : j < r.marks.length), j < i + 1 → badS r r.marks[j] = false) := fun hb j hj hji => by
    by_cases e : j = i
    ·
     subst e; exact hb
    ·
     exact HP.out j hj (by omega)
   have HBK : Hid (badS r r.marks[i] = (decide (r.marks[i].seat < r.fr) || decide (r.to < r.marks[i].seat))) := rfl
   obtain ⟨c0, c1, c2, c3, c4, c5, c6, c7⟩ := HI2.out.row.cells
   clear c0 c1 c2 c5 c6 c7 m0 m2
   generalize r.marks[i].seat = ms at *
   generalize badS r r.marks[i] = bk1 at *
   by_cases k1 : ms < r.fr
   ·
    have bk : decide (ms < r.fr) = true := decide_eq_true k1
    revert hF;refine zrs [4, 4, 4, 4, 5, 1, 0, 0, 0, 0, 0, 5] [0, 9, 11, 12, 13, 14, 72, 73, 74, 89] fun a hF => ?_
    refine cond_yes hF rfl ?_
    revert hF;refine zrs [2] [0, 9, 11, 12] fun a hF => ?_
    refine wp_exit ?_
    exact hKS _ _ ⟨11, -1, hF, HI2.out.below, HI2.out.row, HMB.out (by rw [HBK.out, bk]; rfl)⟩
   have bk : decide (ms < r.fr) = false := decide_eq_false k1
   by_cases k2 : r.to < ms
   ·
    have bk2 : decide (r.to < ms) = true := decide_eq_true k2
    revert hF;refine zrs [4, 4, 4, 4, 5, 1, 4, 4, 4, 4, 5, 5] [0, 9, 11, 12, 13, 14, 72, 73, 74, 89] fun a hF => ?_
    refine cond_yes hF rfl ?_
    revert hF;refine zrs [2] [0, 9, 11, 12] fun a hF => ?_
    refine wp_exit ?_
    exact hKS _ _ ⟨11, -1, hF, HI2.out.below, HI2.out.row, HMB.out (by rw [HBK.out, bk, bk2]; rfl)⟩
   have bk2 : decide (r.to < ms) = false := decide_eq_false k2
   revert hF;refine zrs [4, 4, 4, 4, 5, 1, 4, 4, 4, 4, 5, 5] [0, 9, 11, 12, 13, 14, 72, 73, 74, 89] fun a hF => ?_
   refine cond_no hF rfl ?_
   refine wp_skip ?_
   exact hKC _ _ ⟨hF.sub ⟨rfl, rfl, rfl, rfl, rfl, rfl, rfl, rfl, rfl, trivial⟩, HI2, HPN.out (by rw [HBK.out, bk, bk2]; rfl)⟩
  clear HI hF c6 c3 c4
  rintro a w9 ⟨hF, HI, HK0⟩
  obtain ⟨c0, c1, c2, c3, c4, c5, c6, c7⟩ := HI.out.row.cells
  clear c0 c1 c2 c3 c4 c5 c7
  have HA1 : Hid (r.marks.any (badS r) = false) := any_none fun j hj => HK0.out j hj (by rw [← HML.out]; exact hj)
  clear HK0
  refine seq_cut (fun a' w' => FrF 197 [] [(0, .pointer (some ⟨g, 0, none⟩)), (9, .pointer (some ⟨gr, 0, none⟩)), (11, .int .i64 0), (12, .int .i64 (-1)), (13, .pointer (some ⟨gv, 0, none⟩))] a' ∧ Hid (RInv w gr gv M1 M2 r r.mn (r.mn) (wheelM r.marks r.mn) (seenM r.marks (r.mn)) w') ∧ Hid (((r.marks.take (r.mn)).map (·.seat)).Nodup)) (fun KX hKX => ?_) ?_
  ·
   skip
   revert hF;refine zrs [4, 4, 4, 1] [0, 9, 11, 12, 13, 14, 92, 93, 94] fun a hF => ?_
   refine wp_block ?_
   refine loop_fr (fun n a' w' => ∃ i : Nat, i + n = r.mn ∧ FrF 197 [] [(0, .pointer (some ⟨g, 0, none⟩)), (9, .pointer (some ⟨gr, 0, none⟩)), (11, .int .i64 0), (12, .int .i64 (-1)), (13, .pointer (some ⟨gv, 0, none⟩)), (14, .map (some M2)), (92, .slice r.ma r.mn r.mc), (93, .int .i64 r.mn), (94, .int .i64 i)] a' ∧ Hid (RInv w gr gv M1 M2 r r.mn (i) (wheelM r.marks r.mn) (seenM r.marks (i)) w') ∧ Hid (((r.marks.take (i)).map (·.seat)).Nodup)) r.mn ⟨0, by omega, hF, by rw [seenM_zero]; exact HI, by simp [Hid]⟩ ?_
   clear hF HI c6
   rintro rk a wr ⟨i, hik, hF, HI, HP⟩ KB hKB
   by_cases hlt : i < r.mn
   rotate_left
   ·
    revert hF;refine zrs [5] [0, 9, 11, 12, 13, 14, 92, 93, 94, 95] fun a hF => ?_;refine wp_seq_k (fun K hK => ?_)
    refine cond_no hF rfl ?_
    refine wp_exit ?_
    have hie : i = r.mn := by omega
    subst hie
    exact hKX _ _ ⟨hF.sub ⟨rfl, rfl, rfl, rfl, rfl, trivial⟩, HI, HP⟩
   revert hF;refine zrs [5] [0, 9, 11, 12, 13, 14, 92, 93, 94, 95] fun a hF => ?_;refine wp_seq_k (fun K hK => ?_)
   refine cond_yes hF rfl ?_
   refine wp_skip ?_
   refine hK _ _ ?_;clear hK
   clear hKX
   replace hF := hF.kp [0, 9, 11, 12, 13, 14, 92, 93, 94] rfl
   have hil2 : i < r.marks.length := by rw [HML.out]; exact hlt
   have hii2 : (i : Int) < r.mn := by omega
   have HKEY := Lib.hid (HRI.out.keys r.marks[i] (List.getElem_mem hil2))
   obtain ⟨b, o, hma, e0, e1, e2⟩ := mark_at (HRI.out.marks.below (HC.out.below.trans (HI.out.below.mono HC.out.below.size))) i hlt hil2
   refine seq_cut (fun a' w' => FrF 197 [] [(0, .pointer (some ⟨g, 0, none⟩)), (9, .pointer (some ⟨gr, 0, none⟩)), (11, .int .i64 0), (12, .int .i64 (-1)), (13, .pointer (some ⟨gv, 0, none⟩)), (14, .map (some M2)), (92, .slice r.ma r.mn r.mc), (93, .int .i64 r.mn), (94, .int .i64 i)] a' ∧ Hid (RInv w gr gv M1 M2 r r.mn (i + 1) (wheelM r.marks r.mn) (seenM r.marks (i + 1)) w') ∧ Hid (((r.marks.take (i + 1)).map (·.seat)).Nodup)) (fun KC hKC => ?_) ?_
   rotate_left
   ·
    clear hF HI HP e0 e1 e2 hma
    rintro a w' ⟨hF, HI, HP⟩
    have hws : IntKind.i64.wrap ((i : Int) + 1) = ((i + 1 : Nat) : Int) := wrap_succ (by omega)
    revert hF;refine zrg [4, 1] [0, 9, 11, 12, 13, 14, 92, 93, 94] fun a hF => ?_
    exact hKB (r.mn - (i + 1)) _ _ (by omega) ⟨i + 1, by omega, hF, HI, HP⟩
   clear hKB hik
   refine wp_block ?_
   refine wp_seq_k (fun K hK => ?_);revert hF;refine zrp [5, 4] [2, 3] fun a hF => ?_;refine seq_one ?_;revert hF;refine qe0 fun a hF => ?_;refine seq_one ?_;revert hF;refine qu2 fun a hF => ?_;refine seq_end ?_;replace hF := hF.kp [0, 9, 11, 12, 13, 14, 20, 92, 93, 94] rfl;refine hK _ _ ?_;clear hK
   have HMK : Hid (MarkIn (wr.alloc (.cells #[.int .i64 r.marks[i].kind, .int .i64 r.marks[i].seat, .int .i64 r.marks[i].wth] 46)) wr.heap.size r.marks[i]) := World.alloc_heap_new wr _
   have HI2 := Lib.hid (HI.out.down (Joins.below_alloc1 wr (.cells #[.int .i64 r.marks[i].kind, .int .i64 r.marks[i].seat, .int .i64 r.marks[i].wth] 46)))
   clear HI e0 e1 e2 hma
   generalize wr.alloc (.cells #[.int .i64 r.marks[i].kind, .int .i64 r.marks[i].seat, .int .i64 r.marks[i].wth] 46) = w2 at *
   generalize wr.heap.size = gm at *
   obtain ⟨m0, m1, m2⟩ := HMK.out.cells
   have HMB : Hid (seenM r.marks i r.marks[i].seat = true → RF = [⟨9, r.at', -1⟩]) := fun hb => HRF6.out 9 (by rw [marksS_eq, HA0.out, HA1.out, if_neg (by decide), if_neg (by decide), if_pos (by simp [nodup_not hil2 hb])])
   have HPN : Hid (seenM r.marks i r.marks[i].seat = false → ((r.marks.take (i + 1)).map (·.seat)).Nodup) := fun hb => nodup_next hil2 HP.out hb
   have HSN := Lib.hid (seenM_next hil2)
   have hl := HI2.out.m2.look HKEY.out.1
   obtain ⟨w3, hMU, hbm, hg⟩ := HI2.out.m2.set HKEY.out.1 (by omega) true
   have HI3 := Lib.hid (HI2.out.set2 hM2 hbm hg)
   clear hbm hg m0 m2
   generalize r.marks[i].seat = ms at *
   rw [HSN.out] at HI3
   clear HSN
   obtain ⟨sm, hsm⟩ : ∃ b, seenM r.marks i ms = b := ⟨_, rfl⟩
   rw [hsm] at hl HMB HPN
   clear hsm
   refine wp_seq_k (fun KA hKA => ?_)
   cases sm
   rotate_left
   ·
    revert hF;refine zrs [1, 4, 4, 5] [0, 9, 11, 12, 13, 14, 20, 92, 93, 94, 101] fun a hF => ?_
    refine cond_yes hF rfl ?_
    revert hF;refine zrs [2] [0, 9, 11, 12] fun a hF => ?_
    refine wp_exit ?_
    exact hKS _ _ ⟨9, -1, hF, HI2.out.below, HI2.out.row, HMB.out rfl⟩
   revert hF;refine zrs [1, 4, 4, 5] [0, 9, 11, 12, 13, 14, 20, 92, 93, 94, 101] fun a hF => ?_
   refine cond_no hF rfl ?_
   refine wp_skip ?_
   refine hKA _ _ ?_;clear hKA;replace hF := hF.kp [0, 9, 11, 12, 13, 14, 20, 92, 93, 94] rfl;revert hF;refine zrp [1, 4, 4] [3] fun a hF => ?_;refine seq_one ?_;revert hF;refine qu2 fun a hF => ?_;refine seq_end ?_;replace hF := hF.kp [0, 9, 11, 12, 13, 14, 92, 93, 94] rfl
   exact hKC _ _ ⟨hF, HI3, HPN.out rfl⟩
  clear HI hF c6
  rintro a w9 ⟨hF, HI, HK0⟩
  have HND : Hid ((r.marks.map (·.seat)).Nodup) := by
   have := HK0.out
   rw [← HML.out, List.take_length] at this
   exact this
  clear HK0
  obtain ⟨c0, c1, c2, c3, c4, c5, c6, c7⟩ := HI.out.row.cells
  clear c0 c1 c2 c3 c4 c5 c7
  have HWB : Hid (wheelM r.marks r.mn = wheelB r.marks) := by
   show _ = _
   rw [← HML.out, wheelM_all]
  have HEND : Hid (RF = if r.marks.any (fun m => decide (m.kind = 4) && !wheelB r.marks m.wth) then [⟨11, r.at', -1⟩] else []) := by
   show _ = _
   cases hx : r.marks.any (fun m => decide (m.kind = 4) && !wheelB r.marks m.wth)
   ·
    rw [HRF6.out 0 (by rw [marksS_eq, HA0.out, HA1.out, if_neg (by decide), if_neg (by decide), if_neg (by simp [HND.out]), hx]; rfl)]
    rfl
   ·
    rw [HRF6.out 11 (by rw [marksS_eq, HA0.out, HA1.out, if_neg (by decide), if_neg (by decide), if_neg (by simp [HND.out]), hx]; rfl)]
    rfl
  have HCM := Lib.hid (contains_mark w9 r.ma r.mn r.mc r.marks (HRI.out.marks.below (HC.out.below.trans (HI.out.below.mono HC.out.below.size))) HRI.out.mn 47 [.pointer (some ⟨gv, 0, none⟩)] (fun m => decide (m.kind = 4) && !wheelB r.marks m.wth) (by kernel_rfl)
   (fun wx hb j hj => cl_row2 wx r.marks[j] gv M1 r.mn (wheelB r.marks) (HI.out.var.down hb) (by have := HI.out.m1.down hb; rw [HWB.out] at this; exact this) (HRI.out.keys r.marks[j] (List.getElem_mem hj)).2))
  generalize r.marks.any (fun m => decide (m.kind = 4) && !wheelB r.marks m.wth) = yf at *
  refine wp_seq_k (fun K hK => ?_);revert hF;refine zrp [4, 4, 4] [3] fun a hF => ?_;revert hF;refine zos fun K hK => ?_
  refine HCM.out.mono ?_
  rintro e w10 ⟨rfl, hb10⟩
  have HI10 := Lib.hid (HI.out.down hb10)
  clear HI hb10 HCM c6
  cases yf
  ·
   refine hK _ _ (fun a hF => ?_);clear hK K;refine seq_end ?_;replace hF := hF.kp [0, 9, 11, 12, 109] rfl;refine hK _ _ ?_;clear hK
   refine cond_no hF rfl ?_
   refine wp_skip ?_
   exact hKS _ _ ⟨0, -1, hF.sub ⟨rfl, rfl, rfl, rfl, trivial⟩, HI10.out.below, HI10.out.row, HEND.out⟩
  ·
   refine hK _ _ (fun a hF => ?_);clear hK K;refine seq_end ?_;replace hF := hF.kp [0, 9, 11, 12, 109] rfl;refine hK _ _ ?_;clear hK
   refine cond_yes hF rfl ?_
   revert hF;refine zrg [2] [0, 9, 11, 12] fun a hF => ?_
   exact hKS _ _ ⟨11, -1, hF, HI10.out.below, HI10.out.row, HEND.out⟩
 by_cases h5 : r.fr < r.to
 rotate_left
 ·
  have bh5 : decide (r.fr < r.to) = false := decide_eq_false h5
  have HRF4 := Lib.hid (HRF3.out.trans (if_neg (fun h => h5 h.1)))
  revert hF;refine zrg [4, 4, 4, 4, 5, 1, 0, 0, 0, 0, 0, 0, 0, 0, 0, 0, 0, 0, 0, 0, 0, 0, 0, 0, 0, 5, 2] [0, 9, 11, 12, 13, 14, 149] fun a hF => ?_
  exact HTAIL _ _ (hF.sub ⟨rfl, rfl, rfl, rfl, rfl, rfl, rfl, trivial⟩) HI.out HRF4.out
 have bh5 : decide (r.fr < r.to) = true := decide_eq_true h5
 by_cases h6 : 10000 < r.step
 ·
  have bh6 : decide (10000 < r.step) = true := decide_eq_true h6
  have HRF4 := Lib.hid (HRF3.out.trans (if_pos ⟨h5, Or.inl h6⟩))
  revert hF;refine zrg [4, 4, 4, 4, 5, 1, 4, 4, 4, 1, 0, 0, 0, 0, 0, 0, 0, 0, 0, 0, 0, 0, 0, 0, 5, 5, 2] [0, 9, 11, 12, 13, 14, 149] fun a hF => ?_;refine hK _ _ ?_;clear hK
  refine cond_yes hF rfl ?_
  revert hF;refine zrg [2] [0, 9, 11, 12] fun a hF => ?_
  exact hKS _ _ ⟨2, -1, hF, HI.out.below, HI.out.row, HRF4.out⟩
 have bh6 : decide (10000 < r.step) = false := decide_eq_false h6
 obtain ⟨p, hp⟩ : ∃ p, (r.to - r.fr) * r.step = p := ⟨_, rfl⟩
 have hp0 : 0 ≤ p := by rw [← hp]; exact Int.mul_nonneg (by omega) (by omega)
 have hp1 : p ≤ 10000 * 10000 := by rw [← hp]; exact Int.mul_le_mul (by omega) (by omega) (by omega) (by omega)
 have hs2 : IntKind.i64.wrap ((r.to - r.fr) * r.step) = p := by rw [hp]; exact wrap_in (by omega) (by omega)
 have hs3 : IntKind.i64.wrap (r.x + p) = r.x + p := wrap_in (by omega) (by omega)
 rw [hp] at HRF3
 have HPX := Lib.hid hp
 clear hp
 revert hF;refine zrp [4, 4, 4, 4, 5, 1, 4, 4, 4, 1, 4, 4, 4, 4, 4, 4, 5, 4, 4, 5, 5] [21, 22, 23, 24, 25, 26] fun a hF => ?_;refine seq_one ?_;revert hF;refine qe1 fun a hF => ?_
 have HRX := Lib.hid (recs_alloc IntE w7 3 [r.x + p] #[.int .i64 (r.x + p)] rfl)
 have HIa := Lib.hid (HI.out.down (Joins.below_alloc1 w7 (.cells #[.int .i64 (r.x + p)] 3)))
 have HCO := Lib.hid (coords_any _ _ _ 1 _ HRX.out (by simp))
 have HCE : Hid ([r.x + p].all coordB = coordB (r.x + p)) := by simp [Hid]
 clear HI HRX
 generalize w7.alloc (.cells #[.int .i64 (r.x + p)] 3) = w8 at *
 generalize w7.heap.size = gz2 at *
 revert hF;refine zos fun K hK => ?_
 refine HCO.out.mono ?_
 rintro e w9 ⟨rfl, hb9⟩
 have HI9 := Lib.hid (HIa.out.down hb9)
 clear HIa hb9 HCO c1 c2 c3 c4 c5 c6 c7
 generalize [r.x + p].all coordB = yc at *
 cases yc
 ·
  have HRF4 := Lib.hid (HRF3.out.trans (if_pos ⟨h5, Or.inr (by rw [← HCE.out]; decide)⟩))
  refine hK _ _ (fun a hF => ?_);clear hK K;revert hF;refine zre 23 [4, 5, 5, 2] [0, 9, 11, 12, 13, 14, 149] fun a hF => ?_;refine hK _ _ ?_;clear hK
  refine cond_yes hF rfl ?_
  revert hF;refine zrg [2] [0, 9, 11, 12] fun a hF => ?_
  exact hKS _ _ ⟨2, -1, hF, HI9.out.below, HI9.out.row, HRF4.out⟩
 have HRF4 := Lib.hid (HRF3.out.trans (if_neg (fun h => h.2.elim h6 (fun h => h (by rw [← HCE.out])))))
 refine hK _ _ (fun a hF => ?_);clear hK K;revert hF;refine zre 23 [4, 5, 5, 2] [0, 9, 11, 12, 13, 14, 149] fun a hF => ?_
 exact HTAIL _ _ (hF.sub ⟨rfl, rfl, rfl, rfl, rfl, rfl, rfl, trivial⟩) HI9.out HRF4.out
end Go.Proofs.YtmcdhggnpfhlmaaGreat
