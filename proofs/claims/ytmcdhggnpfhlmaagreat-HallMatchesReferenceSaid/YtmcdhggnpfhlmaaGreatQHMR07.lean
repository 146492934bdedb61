/- hall: the checker: level, block, area; hall: the checker: block, area; hall: the checker: area. -/
import Derived.Test.YtmcdhggnpfhlmaaGreatQHMR06

set_option linter.unusedVariables false
set_option linter.unusedSimpArgs false
namespace Go.Proofs.YtmcdhggnpfhlmaaGreat
open Go.RowKit Go.IntWalk
set_option linter.unusedSimpArgs false
set_option linter.unusedVariables false

theorem idx_found {α : Type} {p : α → Bool} {xs : List α} {i : Nat} (hi : i < xs.length) (h : p xs[i] = true) : idxS p xs = (xs.findIdx p : Nat) ∧ xs.findIdx p ≤ i := by
 have h1 : xs.findIdx p ≤ i := by
  rcases Nat.lt_or_ge i (xs.findIdx p) with h2 | h2
  ·
   have := List.not_of_lt_findIdx h2
   rw [h] at this
   cases this
  ·
   exact h2
 unfold idxS
 rw [if_pos (by omega)]
 exact ⟨rfl, h1⟩

theorem run_max4 (P : Program) (w : World) (ts : Array TypeId) (t : TypeId) (x y z u : Nat) : (Builtin.max_ ts t #[.int .i64 x, .int .i64 y, .int .i64 z, .int .i64 u]).run P w = .ok (.int .i64 ((max (max (max x y) z) u : Nat) : Int)) w := by
 have h2 : ∀ a b : Nat, (Builtin.max2 (.int .i64 a) (.int .i64 b)).run P w = .ok (.int .i64 ((max a b : Nat) : Int)) w := by
  intro a b
  unfold Builtin.max2
  by_cases h : (b : Int) > (a : Int)
  ·
   simp [h]
   omega
  ·
   simp [h]
   omega
 unfold Builtin.max_
 show (List.foldlM Builtin.max2 (.int .i64 x) [.int .i64 y, .int .i64 z, .int .i64 u]).run P w = _
 simp only [List.foldlM_cons, List.foldlM_nil, Sem.run_bind, h2, Result.andThen_ok, Sem.run_pure]

/-- A level that is small enough. -/
structure LevR.Sm (l : LevR) : Prop where
 b : l.bn ≤ 6
 rest : l.sn + l.pn + l.dn + l.an ≤ 60

theorem Chk.cell3 {w0 w : World} {h : HallR} {g : Nat} {L : List FaultR} (hc : Chk w0 h g w L) : w.cell? ⟨g, 3, none⟩ = some (.slice h.la h.ln h.lc) := by
 obtain ⟨v, hg, _⟩ := hc.row
 exact boxed_cell (j := 3) hg rfl

set_option maxRecDepth 100000 in
set_option maxHeartbeats 16000000 in
theorem level_any (w0 : World) (h : HallR) (g : Nat) (w : World) (L : List FaultR) (n : Nat) (hc : Chk w0 h g w L) (hL : L.length ≤ 800000) (hi : h.In w0) (hn : n < h.levels.length) (hsm : h.levels[n].Sm) :
  Calls Tryz.prog 14 #[.pointer (some ⟨g, 0, none⟩), .int .i64 n] w fun en w' => en = .returned (.tuple #[]) ∧ Chk w0 h g w' (L ++ levelFault h.levels n h.levels[n]) ∧ TUpd ChkT w w' := by
 have hll : h.levels.length = h.ln := hi.levels.1
 have hnl : n < h.ln := by omega
 have hni : (n : Int) < h.ln := by omega
 have HC := Lib.hid hc
 have HI := Lib.hid hi
 have HLL := Lib.hid hll
 have HSM := Lib.hid hsm
 have HLI := Lib.hid (hi.lev h.levels[n] (List.getElem_mem hn))
 have c3 := hc.cell3
 obtain ⟨b, o, hla, c0, c1, c2, c4, c5, c6, c7, c8⟩ := lev_at (hi.levels.below hc.below) n hnl hn
 have HIX := Lib.hid (idx_found (p := fun x => decide (x.name = h.levels[n].name)) hn (by simp))
 clear hc hi hll hsm
 have HLF : Hid (levelFault h.levels n h.levels[n] = levelFault h.levels n h.levels[n]) := rfl
 obtain ⟨l, hl⟩ : ∃ l, h.levels[n] = l := ⟨_, rfl⟩
 have HNL := Lib.hid hl
 rw [hl] at c0 c1 c2 c4 c5 c6 c7 c8 HSM HLI HIX ⊢
 clear hl HLF
 refine enter_fr (N := 91) [.pointer (some ⟨g, 0, none⟩), .int .i64 n] (Tryz.func14) rfl Tryz.ntmps14 (by rfl) (fun a hF => ?_);replace hF := hF.kp [0, 1] rfl;refine wp_seq_k (fun K hK => ?_);revert hF;refine zrp [1, 4, 4, 4, 4, 1, 5, 4] [8, 9] fun a hF => ?_;refine seq_one ?_;revert hF;refine qe0 fun a hF => ?_;refine seq_one ?_;revert hF;refine qu2 fun a hF => ?_;refine seq_end ?_;replace hF := hF.kp [0, 1, 4] rfl;refine hK _ _ ?_;clear hK
 have HBa := Lib.hid (Joins.below_alloc1 w (.cells #[.string (bs l.name), .int .i64 l.height, .slice l.ba l.bn l.bc, .slice l.aa l.an l.ac, .slice l.sa l.sn l.sc, .slice l.pa l.pn l.pc, .slice l.da l.dn l.dc, .int .i64 l.at'] 32))
 have HX : Hid (LevIn (w.alloc (.cells #[.string (bs l.name), .int .i64 l.height, .slice l.ba l.bn l.bc, .slice l.aa l.an l.ac, .slice l.sa l.sn l.sc, .slice l.pa l.pn l.pc, .slice l.da l.dn l.dc, .int .i64 l.at'] 32)) w.heap.size l) := World.alloc_heap_new w _
 have HC1 := Lib.hid (HC.out.down HBa.out)
 have HT1 : Hid (TUpd ChkT w (w.alloc (.cells #[.string (bs l.name), .int .i64 l.height, .slice l.ba l.bn l.bc, .slice l.aa l.an l.ac, .slice l.sa l.sn l.sc, .slice l.pa l.pn l.pc, .slice l.da l.dn l.dc, .int .i64 l.at'] 32))) := TUpd.of_below HBa.out
 clear HC c0 c1 c2 c3 c4 c5 c6 c7 c8 HBa hla
 generalize w.alloc (.cells #[.string (bs l.name), .int .i64 l.height, .slice l.ba l.bn l.bc, .slice l.aa l.an l.ac, .slice l.sa l.sn l.sc, .slice l.pa l.pn l.pc, .slice l.da l.dn l.dc, .int .i64 l.at'] 32) = w1 at *
 obtain ⟨gl, hgl⟩ : ∃ gl, gl = w.heap.size := ⟨_, rfl⟩
 rw [← hgl] at hF HX
 clear hgl
 refine wp_seq_k (fun K hK => ?_)
 have c3 := HC1.out.cell3
 revert hF;refine zrp [1, 4, 4, 4, 4, 4] [6, 7] fun a hF => ?_;revert hF;refine zos fun K hK => ?_
 refine (index_lev w1 h.la h.ln h.lc h.levels (HI.out.levels.below HC1.out.below) HI.out.ln 36 [.pointer (some ⟨gl, 0, none⟩)] (fun x => decide (x.name = l.name)) (by kernel_rfl) (fun wx hb j hj => cl_level wx h.levels[j] gl l (HX.out.down hb))).mono ?_
 rintro e w2 ⟨rfl, hb2⟩
 have HC2 := Lib.hid (HC1.out.down hb2)
 have HX2 := Lib.hid (HX.out.down hb2)
 have HT2 : Hid (TUpd ChkT w w2) := HT1.out.trans (TUpd.of_below hb2)
 clear HC1 HX HT1 hb2 c3
 have HFD : Hid (idxS (fun x => decide (x.name = l.name)) h.levels = (h.levels.findIdx fun x => decide (x.name = l.name) : Nat)) := HIX.out.1
 have hfd := HIX.out.2
 rw [HFD.out]
 have HLF : Hid (levelFault h.levels n l = if h.levels.findIdx (fun x => decide (x.name = l.name)) < n then [⟨9, l.at', ((h.levels[h.levels.findIdx fun x => decide (x.name = l.name)]?).map (·.at')).getD 0⟩]
  else if 8 ≤ n ∨ 40 < l.blocks.length + l.areas.length ∨ 40 < l.aisles.length ∨ 40 < l.pillars.length ∨ 40 < l.doors.length then [⟨3, l.at', -1⟩]
  else if !coordB l.height || ((l.aisles ++ l.pillars).any fun b => !boxB b) || (l.doors.any fun p => !(coordB p.x && coordB p.y)) then [⟨2, l.at', -1⟩] else []) := rfl
 clear HIX HFD
 generalize h.levels.findIdx (fun x => decide (x.name = l.name)) = fi at *
 refine hK _ _ (fun a hF => ?_);clear hK K;revert hF;refine zre 7 [2] [0, 1, 4, 5] fun a hF => ?_;refine hK _ _ ?_;clear hK;refine wp_seq_k (fun K hK => ?_)
 obtain ⟨d0, d1, d2, d3, d4, d5, d6, d7⟩ := HX2.out.cells
 revert hF;refine zrp [4, 4, 4, 4] [4, 5, 6] fun a hF => ?_;refine seq_one ?_;revert hF;refine qe2 fun a hF => ?_
 have HBb := Lib.hid (Joins.below_alloc1 w2 (.cells #[.slice l.sa l.sn l.sc, .slice l.pa l.pn l.pc] 29))
 have hNN : (w2.alloc (.cells #[.slice l.sa l.sn l.sc, .slice l.pa l.pn l.pc] 29)).heap[w2.heap.size]? = some (.cells #[.slice l.sa l.sn l.sc, .slice l.pa l.pn l.pc] 29 (0, 0)) := World.alloc_heap_new w2 _
 have HLG : Hid (LogsAt (w2.alloc (.cells #[.slice l.sa l.sn l.sc, .slice l.pa l.pn l.pc] 29)) (some ⟨w2.heap.size, 0, none⟩) 2 [l.aisles, l.pillars]) := by
  have hl3 := HLI.out.below (HC2.out.below.trans (HBb.out.mono HC2.out.below.size))
  refine ⟨rfl, fun i hi => ?_⟩
  have : i = 0 ∨ i = 1 := by omega
  rcases this with rfl | rfl
  ·
   refine ⟨_, _, _, rfl, boxed_cell (j := 0) hNN rfl, l.sa, l.sc, ?_, ?_, hl3.sa0⟩
   ·
    rw [← hl3.aisles.1]; rfl
   ·
    show Recs BoxE _ l.sa l.aisles.length l.aisles
    rw [hl3.aisles.1]
    exact hl3.aisles
  ·
   refine ⟨_, _, _, rfl, boxed_cell (j := 1) hNN rfl, l.pa, l.pc, ?_, ?_, hl3.pa0⟩
   ·
    rw [← hl3.pillars.1]; rfl
   ·
    show Recs BoxE _ l.pa l.pillars.length l.pillars
    rw [hl3.pillars.1]
    exact hl3.pillars
 have HSZ : Hid (sumL [l.aisles, l.pillars] ≤ 100000) := by
  have h1 := HLI.out.aisles.1
  have h2 := HLI.out.pillars.1
  have h3 := HSM.out.rest
  simp [Hid, sumL]
  omega
 have HC3 := Lib.hid (HC2.out.down HBb.out)
 have HX3 := Lib.hid (HX2.out.down HBb.out)
 have HT3 : Hid (TUpd ChkT w (w2.alloc (.cells #[.slice l.sa l.sn l.sc, .slice l.pa l.pn l.pc] 29))) := HT2.out.trans (TUpd.of_below HBb.out)
 clear HC2 HX2 HT2 HBb hNN d0 d1 d2 d3 d4 d5 d6 d7
 generalize w2.alloc (.cells #[.slice l.sa l.sn l.sc, .slice l.pa l.pn l.pc] 29) = w3 at *
 generalize w2.heap.size = gb at *
 revert hF;refine zos fun K hK => ?_
 refine (concat_box (some ⟨gb, 0, none⟩) 2 2 [l.aisles, l.pillars] w3 HLG.out (by omega) HSZ.out).mono ?_
 rintro e w4 ⟨vb, rfl, hvb, hb4⟩
 have HC4 := Lib.hid (HC3.out.down hb4)
 have HX4 := Lib.hid (HX3.out.down hb4)
 have HT4 : Hid (TUpd ChkT w w4) := HT3.out.trans (TUpd.of_below hb4)
 have hfl : [l.aisles, l.pillars].flatten = l.aisles ++ l.pillars := by simp
 rw [hfl] at hvb
 obtain ⟨ba, bc, rfl, hbr, _⟩ := Rcs.of_own hvb
 have HBR := Lib.hid hbr
 clear HC3 HX3 HT3 HLG HSZ hb4 hvb hbr hfl
 refine hK _ _ (fun a hF => ?_);clear hK K;revert hF;refine zre 6 [2] [0, 1, 4, 5, 6] fun a hF => ?_;refine hK _ _ ?_;clear hK
 have HBL : Hid ((l.aisles ++ l.pillars).length ≤ 60) := by
  have h1 := HLI.out.aisles.1
  have h2 := HLI.out.pillars.1
  have h3 := HSM.out.rest
  simp [Hid]
  omega
 have HLNS : Hid (l.blocks.length = l.bn ∧ l.areas.length = l.an ∧ l.aisles.length = l.sn ∧ l.pillars.length = l.pn ∧ l.doors.length = l.dn) := ⟨HLI.out.blocks.1, HLI.out.areas.1, HLI.out.aisles.1, HLI.out.pillars.1, HLI.out.doors.1⟩
 generalize (l.aisles ++ l.pillars).length = bl at *
 refine wp_block ?_
 obtain ⟨d0, d1, d2, d3, d4, d5, d6, d7⟩ := HX4.out.cells
 by_cases hlt : fi < n
 ·
  have hlti : (fi : Int) < n := by omega
  have HLF2 := Lib.hid (HLF.out.trans (if_pos hlt))
  revert hF;refine zrs [1, 1, 5, 2] [0, 1, 4, 5, 6, 28] fun a hF => ?_
  refine cond_yes hF rfl ?_
  have hfl2 : fi < h.ln := by omega
  have hfl3 : fi < h.levels.length := by rw [HLL.out]; exact hfl2
  have hfl4 : (fi : Int) < h.ln := by omega
  have HC5 := Lib.hid (HC4.out.down (below_d (Below.refl _ _)))
  have HT5 : Hid (TUpd ChkT w w4.drew) := HT4.out.trans (TUpd.of_below (below_d (Below.refl _ _)))
  have c3 := HC5.out.cell3
  have e7 : w4.drew.cell? ⟨gl, 7, none⟩ = some (.int .i64 l.at') := d7
  obtain ⟨b, o, hla, c0, c1, c2, c4, c5, c6, c7, c8⟩ := lev_at (HI.out.levels.below HC5.out.below) fi hfl2 hfl3
  have HAT : Hid (((h.levels[fi]?).map (·.at')).getD 0 = h.levels[fi].at') := by simp [Hid, hfl3]
  generalize h.levels[fi].at' = fat at *
  clear d0 d1 d2 d3 d4 d5 d6 d7 hlti c0 c1 c2 c4 c5 c6 c7
  refine region_any (by kernel_rfl) ?_;revert hF;refine zra (fuel := 1) [1, 41, 84, 97, 137, 169, 201, 244, 257, 298, 329, 372] [12] fun a hF => ?_;refine any_one (n := 12) (fuel := 0) (by kernel_rfl) ?_;revert hF;refine zoc fun K hK => ?_
  refine (add_any w0 h g _ L 9 l.at' fat HC5.out (by omega)).mono ?_
  rintro e w6 ⟨rfl, hc6, ht6⟩
  refine hK _ _ (fun a hF => ?_);clear hK K;refine any_end (by kernel_rfl) ?_;replace hF := hF.kp [] rfl;(try simp only [then_exit, block_exit, block_norm, goto_norm, ↓reduceIte, Nat.reduceEqDiff]);refine end_fr (fn := Tryz.f14) (rs := []) rfl [] hF trivial ?_
  refine ⟨rfl, ?_, HT5.out.trans ht6⟩
  rw [HLF2.out, HAT.out]
  exact hc6
 have hlti : ¬ (fi : Int) < n := by omega
 have HLF2 := Lib.hid (HLF.out.trans (if_neg hlt))
 revert hF;refine zrs [1, 1, 5, 2] [0, 1, 4, 5, 6, 28] fun a hF => ?_
 refine cond_no hF rfl ?_
 clear HLF hlti
 obtain ⟨ma, hma⟩ : ∃ ma, l.bn + l.an = ma := ⟨_, rfl⟩
 have hws : IntKind.i64.wrap ((l.bn : Int) + l.an) = (ma : Int) := by
  have h1 := HSM.out.rest
  have h2 := HSM.out.b
  rw [wrap_in (by omega) (by omega)]
  omega
 obtain ⟨mm, hmm⟩ : ∃ mm, max (max (max ma l.sn) l.pn) l.dn = mm := ⟨_, rfl⟩
 have HMM : Hid (40 < mm ↔ 40 < l.blocks.length + l.areas.length ∨ 40 < l.aisles.length ∨ 40 < l.pillars.length ∨ 40 < l.doors.length) := by
  obtain ⟨e1, e2, e3, e4, e5⟩ := HLNS.out
  show _ ↔ _
  rw [e1, e2, e3, e4, e5]
  omega
 have hmx : ∀ w, (Builtin.max_ #[3, 3, 3, 3] 3 #[.int .i64 ma, .int .i64 l.sn, .int .i64 l.pn, .int .i64 l.dn]).run Tryz.prog w = .ok (.int .i64 mm) w := fun w => by
  rw [run_max4, hmm]
 clear hma hmm
 by_cases h8 : 8 ≤ n
 ·
  have h8i : (8 : Int) ≤ n := by omega
  have HLF3 := Lib.hid (HLF2.out.trans (if_pos (Or.inl h8)))
  clear HLF2
  revert hF;refine zrs [1, 4, 1, 0, 0, 0, 0, 0, 0, 0, 0, 0, 0, 0, 0, 0, 0, 0, 0, 0, 0, 5, 2] [0, 4, 6, 45] fun a hF => ?_
  refine cond_yes hF rfl ?_
  revert hF;refine zrp [1, 4, 4] [3] fun a hF => ?_;revert hF;refine zos fun K hK => ?_
  refine (add_any w0 h g w4 L 3 l.at' (-1) HC4.out (by omega)).mono ?_
  rintro e w6 ⟨rfl, hc6, ht6⟩
  refine hK _ _ (fun a hF => ?_);clear hK K;refine seq_end ?_;replace hF := hF.kp [] rfl;(try simp only [then_exit, block_exit, block_norm, goto_norm, ↓reduceIte, Nat.reduceEqDiff]);refine end_fr (fn := Tryz.f14) (rs := []) rfl [] hF trivial ?_
  refine ⟨rfl, ?_, HT4.out.trans ht6⟩
  rw [HLF3.out]
  exact hc6
 have h8i : ¬ (8 : Int) ≤ n := by omega
 by_cases h40 : 40 < mm
 ·
  have h40i : (40 : Int) < mm := by omega
  have HLF3 := Lib.hid (HLF2.out.trans (if_pos (Or.inr (HMM.out.mp h40))))
  clear HLF2
  revert hF;refine zrs [1, 4, 1, 4, 4, 4, 4, 4, 4, 5, 4, 4, 4, 4, 4, 4, 4, 4, 4, 7, 4, 5, 2] [0, 4, 6, 45] fun a hF => ?_
  refine cond_yes hF rfl ?_
  revert hF;refine zrp [1, 4, 4] [3] fun a hF => ?_;revert hF;refine zos fun K hK => ?_
  refine (add_any w0 h g w4 L 3 l.at' (-1) HC4.out (by omega)).mono ?_
  rintro e w6 ⟨rfl, hc6, ht6⟩
  refine hK _ _ (fun a hF => ?_);clear hK K;refine seq_end ?_;replace hF := hF.kp [] rfl;(try simp only [then_exit, block_exit, block_norm, goto_norm, ↓reduceIte, Nat.reduceEqDiff]);refine end_fr (fn := Tryz.f14) (rs := []) rfl [] hF trivial ?_
  refine ⟨rfl, ?_, HT4.out.trans ht6⟩
  rw [HLF3.out]
  exact hc6
 have h40i : ¬ (40 : Int) < mm := by omega
 have HLF3 := Lib.hid (HLF2.out.trans (if_neg (fun h => h.elim h8 (fun h => h40 (HMM.out.mpr h)))))
 clear HLF2
 revert hF;refine zrs [1, 4, 1, 4, 4, 4, 4, 4, 4, 5, 4, 4, 4, 4, 4, 4, 4, 4, 4, 7, 4, 5, 2] [0, 4, 6, 45] fun a hF => ?_
 refine cond_no hF rfl ?_
 clear hmx hws h8i h40i HMM
 refine wp_seq_k (fun K hK => ?_);revert hF;refine zrp [4, 4] [2, 3, 4, 5, 6, 7, 8, 9, 10, 11, 12, 13, 14] fun a hF => ?_;refine seq_one ?_;revert hF;refine qe1 fun a hF => ?_
 have HRH := Lib.hid (recs_alloc IntE w4 3 [l.height] #[.int .i64 l.height] rfl)
 have HBh := Lib.hid (Joins.below_alloc1 w4 (.cells #[.int .i64 l.height] 3))
 have HC5 := Lib.hid (HC4.out.down HBh.out)
 have HX5 := Lib.hid (HX4.out.down HBh.out)
 have HT5 : Hid (TUpd ChkT w (w4.alloc (.cells #[.int .i64 l.height] 3))) := HT4.out.trans (TUpd.of_below HBh.out)
 have HBR5 := Lib.hid (HBR.out.below HBh.out)
 have HCO := Lib.hid (coords_any _ _ _ 1 _ HRH.out (by simp))
 have HCE : Hid ([l.height].all coordB = coordB l.height) := by simp [Hid]
 have HBY := Lib.hid (show (fun b => !boxB b) = (fun b => !boxB b) from rfl)
 clear HC4 HX4 HT4 HBR HBh d0 d1 d2 d3 d4 d5 d6 d7
 generalize w4.alloc (.cells #[.int .i64 l.height] 3) = w5 at *
 revert hF;refine zos fun K hK => ?_
 refine HCO.out.mono ?_
 rintro e w6 ⟨rfl, hb6⟩
 have HC6 := Lib.hid (HC5.out.down hb6)
 have HX6 := Lib.hid (HX5.out.down hb6)
 have HT6 : Hid (TUpd ChkT w w6) := HT5.out.trans (TUpd.of_below hb6)
 have HBR6 := Lib.hid (HBR5.out.below hb6)
 clear HC5 HX5 HT5 HBR5 hb6 HCO HRH HBY
 generalize [l.height].all coordB = yh at *
 rw [← HCE.out] at HLF3
 obtain ⟨d0, d1, d2, d3, d4, d5, d6, d7⟩ := HX6.out.cells
 obtain ⟨yb, hyb⟩ : ∃ yb, (l.aisles ++ l.pillars).any (fun b => !boxB b) = yb := ⟨_, rfl⟩
 obtain ⟨yd, hyd⟩ : ∃ yd, l.doors.any (fun p => !(coordB p.x && coordB p.y)) = yd := ⟨_, rfl⟩
 have HYB := Lib.hid hyb
 have HYD := Lib.hid hyd
 rw [hyb, hyd] at HLF3
 clear hyb hyd HCE
 cases yh
 ·
  have HLF4 : Hid (levelFault h.levels n l = [⟨2, l.at', -1⟩]) := HLF3.out
  clear HLF3
  refine hK _ _ (fun a hF => ?_);clear hK K;revert hF;refine zre 4 [4, 1, 0, 0, 5, 1, 0, 0, 0, 5, 2] [0, 4, 72] fun a hF => ?_;refine hK _ _ ?_;clear hK
  refine cond_yes hF rfl ?_
  revert hF;refine zrp [1, 4, 4] [3] fun a hF => ?_;revert hF;refine zos fun K hK => ?_
  refine (add_any w0 h g _ L 2 l.at' (-1) HC6.out (by omega)).mono ?_
  rintro e w9 ⟨rfl, hc9, ht9⟩
  refine hK _ _ (fun a hF => ?_);clear hK K;refine seq_end ?_;replace hF := hF.kp [] rfl;(try simp only [then_exit, block_exit, block_norm, goto_norm, ↓reduceIte, Nat.reduceEqDiff]);refine end_fr (fn := Tryz.f14) (rs := []) rfl [] hF trivial ?_
  refine ⟨rfl, ?_, HT6.out.trans ht9⟩
  rw [HLF4.out]
  exact hc9
 refine hK _ _ (fun a hF => ?_);clear hK K;revert hF;refine zrc 4 [4, 1, 1] [7, 8, 9, 10, 11, 12, 13, 14] fun a hF => ?_;revert hF;refine zos fun K hK => ?_
 refine (contains_box w6 ba bl bc (l.aisles ++ l.pillars) HBR6.out (by have := HBL.out; omega) 39 [] (fun b => !boxB b) (by kernel_rfl) (fun wx hb j hj => cl_box wx (l.aisles ++ l.pillars)[j])).mono ?_
 rintro e w7 ⟨rfl, hb7⟩
 have HC7 := Lib.hid (HC6.out.down hb7)
 have HX7 := Lib.hid (HX6.out.down hb7)
 have HT7 : Hid (TUpd ChkT w w7) := HT6.out.trans (TUpd.of_below hb7)
 clear HC6 HX6 HT6 hb7 HBR6 d0 d1 d2 d3 d4 d5 d6 d7
 obtain ⟨d0, d1, d2, d3, d4, d5, d6, d7⟩ := HX7.out.cells
 rw [HYB.out]
 cases yb
 rotate_left
 ·
  have HLF4 : Hid (levelFault h.levels n l = [⟨2, l.at', -1⟩]) := HLF3.out
  clear HLF3
  refine hK _ _ (fun a hF => ?_);clear hK K;revert hF;refine zre 8 [5, 1, 0, 0, 0, 5, 2] [0, 4, 72] fun a hF => ?_;refine hK _ _ ?_;clear hK
  refine cond_yes hF rfl ?_
  revert hF;refine zrp [1, 4, 4] [3] fun a hF => ?_;revert hF;refine zos fun K hK => ?_
  refine (add_any w0 h g _ L 2 l.at' (-1) HC7.out (by omega)).mono ?_
  rintro e w9 ⟨rfl, hc9, ht9⟩
  refine hK _ _ (fun a hF => ?_);clear hK K;refine seq_end ?_;replace hF := hF.kp [] rfl;(try simp only [then_exit, block_exit, block_norm, goto_norm, ↓reduceIte, Nat.reduceEqDiff]);refine end_fr (fn := Tryz.f14) (rs := []) rfl [] hF trivial ?_
  refine ⟨rfl, ?_, HT7.out.trans ht9⟩
  rw [HLF4.out]
  exact hc9
 refine hK _ _ (fun a hF => ?_);clear hK K;revert hF;refine zrc 8 [5, 1, 4, 4] [12, 13, 14] fun a hF => ?_;revert hF;refine zos fun K hK => ?_
 refine (contains_pnt w7 l.da l.dn l.dc l.doors (HLI.out.below HC7.out.below).doors HLI.out.dn 41 [] (fun p => !(coordB p.x && coordB p.y)) (by kernel_rfl) (fun wx hb j hj => cl_door wx l.doors[j])).mono ?_
 rintro e w8 ⟨rfl, hb8⟩
 have HC8 := Lib.hid (HC7.out.down hb8)
 have HX8 := Lib.hid (HX7.out.down hb8)
 have HT8 : Hid (TUpd ChkT w w8) := HT7.out.trans (TUpd.of_below hb8)
 clear HC7 HX7 HT7 hb8 d0 d1 d2 d3 d4 d5 d6 d7
 obtain ⟨d0, d1, d2, d3, d4, d5, d6, d7⟩ := HX8.out.cells
 rw [HYD.out]
 cases yd
 ·
  have HLF4 : Hid (levelFault h.levels n l = []) := HLF3.out
  refine hK _ _ (fun a hF => ?_);clear hK K;revert hF;refine zre 13 [5, 2] [0, 4, 72] fun a hF => ?_;refine hK _ _ ?_;clear hK
  refine cond_no hF rfl ?_
  refine wp_skip ?_
  (try simp only [then_exit, block_exit, block_norm, goto_norm, ↓reduceIte, Nat.reduceEqDiff]);refine end_fr (fn := Tryz.f14) (rs := []) rfl [] hF trivial ?_
  refine ⟨rfl, ?_, HT8.out⟩
  rw [HLF4.out, List.append_nil]
  exact HC8.out
 ·
  have HLF4 : Hid (levelFault h.levels n l = [⟨2, l.at', -1⟩]) := HLF3.out
  refine hK _ _ (fun a hF => ?_);clear hK K;revert hF;refine zre 13 [5, 2] [0, 4, 72] fun a hF => ?_;refine hK _ _ ?_;clear hK
  refine cond_yes hF rfl ?_
  revert hF;refine zrp [1, 4, 4] [3] fun a hF => ?_;revert hF;refine zos fun K hK => ?_
  refine (add_any w0 h g _ L 2 l.at' (-1) HC8.out (by omega)).mono ?_
  rintro e w9 ⟨rfl, hc9, ht9⟩
  refine hK _ _ (fun a hF => ?_);clear hK K;refine seq_end ?_;replace hF := hF.kp [] rfl;(try simp only [then_exit, block_exit, block_norm, goto_norm, ↓reduceIte, Nat.reduceEqDiff]);refine end_fr (fn := Tryz.f14) (rs := []) rfl [] hF trivial ?_
  refine ⟨rfl, ?_, HT8.out.trans ht9⟩
  rw [HLF4.out]
  exact hc9
end Go.Proofs.YtmcdhggnpfhlmaaGreat

namespace Go.Proofs.YtmcdhggnpfhlmaaGreat
open Go.RowKit Go.IntWalk
set_option linter.unusedSimpArgs false
set_option linter.unusedVariables false

set_option maxRecDepth 100000 in
set_option maxHeartbeats 16000000 in
theorem block_any (w0 : World) (h : HallR) (g : Nat) (w : World) (L : List FaultR) (n i : Nat) (hc : Chk w0 h g w L) (hL : L.length ≤ 800000) (hi : h.In w0) (l : LevR) (hl : h.levels[n]? = some l) (hib : i < l.blocks.length) :
  Calls Tryz.prog 15 #[.pointer (some ⟨g, 0, none⟩), .int .i64 n, .int .i64 i] w fun en w' => en = .returned (.tuple #[]) ∧ Chk w0 h g w' (L ++ blockFault l.blocks i l.blocks[i]) ∧ TUpd ChkT w w' := by
 obtain ⟨hn, hle⟩ := List.getElem?_eq_some_iff.1 hl
 have hll : h.levels.length = h.ln := hi.levels.1
 have hnl : n < h.ln := by omega
 have hni : (n : Int) < h.ln := by omega
 have HC := Lib.hid hc
 have HLI := Lib.hid (hi.lev h.levels[n] (List.getElem_mem hn))
 have c3 := hc.cell3
 obtain ⟨b, o, hla, c0, c1, c2, c4, c5, c6, c7, c8⟩ := lev_at (hi.levels.below hc.below) n hnl hn
 rw [hle] at c2 HLI
 clear hc hi hll c0 c1 c4 c5 c6 c7 c8 hl hle
 have hbl : i < l.bn := by have := HLI.out.blocks.1; omega
 have hbi : (i : Int) < l.bn := by omega
 have HIX := Lib.hid (idx_found (p := fun x : BlkR => decide (x.name = l.blocks[i].name)) hib (by simp))
 refine enter_fr (N := 51) [.pointer (some ⟨g, 0, none⟩), .int .i64 n, .int .i64 i] (Tryz.func15) rfl Tryz.ntmps15 (by rfl) (fun a hF => ?_);replace hF := hF.kp [0, 1, 2] rfl;refine wp_seq_k (fun K hK => ?_);refine region_seq (l := [0]) (by kernel_rfl) ?_;refine seq_one ?_;revert hF;refine qe1 fun a hF => ?_
 have HN : Hid ((w.alloc (.cells #[.int .i64 i] 3)).heap[w.heap.size]? = some (.cells #[.int .i64 i] 3 (0, 0))) := World.alloc_heap_new w _
 have HBa := Lib.hid (Joins.below_alloc1 w (.cells #[.int .i64 i] 3))
 have HC1 := Lib.hid (HC.out.down HBa.out)
 have HT1 : Hid (TUpd ChkT w (w.alloc (.cells #[.int .i64 i] 3))) := TUpd.of_below HBa.out
 have d2 := Below.cell_of HBa.out c2
 have d3 := Below.cell_of HBa.out c3
 clear HC HBa c2 c3
 generalize w.alloc (.cells #[.int .i64 i] 3) = w1 at *
 obtain ⟨gi, hgi⟩ : ∃ gi, gi = w.heap.size := ⟨_, rfl⟩
 rw [← hgi] at hF HN
 clear hgi
 refine seq_end ?_;replace hF := hF.kp [0, 1, 5] rfl;refine hK _ _ ?_;clear hK;refine wp_seq_k (fun K hK => ?_);revert hF;refine zrp [1, 4, 4, 4, 4, 1, 5, 4, 4] [9, 10] fun a hF => ?_;refine seq_one ?_;revert hF;refine qe0 fun a hF => ?_;refine seq_one ?_;revert hF;refine qu2 fun a hF => ?_;refine hK _ _ ?_;clear hK
 clear d2 d3 hla
 have HN2 : Hid ((w1.alloc (.cells #[.slice l.ba l.bn l.bc] 27)).heap[w1.heap.size]? = some (.cells #[.slice l.ba l.bn l.bc] 27 (0, 0))) := World.alloc_heap_new w1 _
 have HBa := Lib.hid (Joins.below_alloc1 w1 (.cells #[.slice l.ba l.bn l.bc] 27))
 have HC2 := Lib.hid (HC1.out.down HBa.out)
 have HT2 : Hid (TUpd ChkT w (w1.alloc (.cells #[.slice l.ba l.bn l.bc] 27))) := HT1.out.trans (TUpd.of_below HBa.out)
 have HN1 := Lib.hid ((HBa.out.block gi (lt_of_block HN.out)).trans HN.out)
 clear HC1 HT1 HN HBa
 generalize w1.alloc (.cells #[.slice l.ba l.bn l.bc] 27) = w2 at *
 obtain ⟨ga, hga⟩ : ∃ ga, ga = w1.heap.size := ⟨_, rfl⟩
 rw [← hga] at hF HN2
 clear hga
 have c1 : w2.cell? ⟨gi, 0, none⟩ = some (.int .i64 i) := boxed_cell (j := 0) HN1.out rfl
 have c2 : w2.cell? ⟨ga, 0, none⟩ = some (.slice l.ba l.bn l.bc) := boxed_cell (j := 0) HN2.out rfl
 refine wp_seq_k (fun K hK => ?_);revert hF;refine zrp [4, 5] [2, 3] fun a hF => ?_;revert hF;refine zos fun K hK => ?_
 refine (index_blk w2 l.ba l.bn l.bc l.blocks (HLI.out.blocks.below HC2.out.below) HLI.out.bn 43 [.pointer (some ⟨ga, 0, none⟩), .pointer (some ⟨gi, 0, none⟩)] (fun x => decide (x.name = l.blocks[i].name)) (by kernel_rfl)
  (fun wx hb j hj => cl_block wx l.blocks[j] ga gi l.ba l.bn l.bc i l.blocks ((HLI.out.blocks.below HC2.out.below).below hb) hib (Below.cell_of hb c2) (Below.cell_of hb c1))).mono ?_
 rintro e w3 ⟨rfl, hb3⟩
 have HC3 := Lib.hid (HC2.out.down hb3)
 have HT3 : Hid (TUpd ChkT w w3) := HT2.out.trans (TUpd.of_below hb3)
 have d1 := Below.cell_of hb3 c1
 have d2 := Below.cell_of hb3 c2
 clear HC2 HT2 hb3 c1 c2 HN1 HN2
 have HFD : Hid (idxS (fun x : BlkR => decide (x.name = l.blocks[i].name)) l.blocks = (l.blocks.findIdx fun x => decide (x.name = l.blocks[i].name) : Nat)) := HIX.out.1
 have hfd := HIX.out.2
 rw [HFD.out]
 have HBF : Hid (blockFault l.blocks i l.blocks[i] = if l.blocks.findIdx (fun x => decide (x.name = l.blocks[i].name)) < i then [⟨9, l.blocks[i].at', ((l.blocks[l.blocks.findIdx fun x => decide (x.name = l.blocks[i].name)]?).map (·.at')).getD 0⟩]
  else if 60 < l.blocks[i].rows.length then [⟨3, l.blocks[i].at', -1⟩] else []) := rfl
 clear HIX HFD
 generalize l.blocks.findIdx (fun x => decide (x.name = l.blocks[i].name)) = fi at *
 obtain ⟨b, o, hba, e0, e1, e2⟩ := blk_at (HLI.out.blocks.below HC3.out.below) i hbl hib
 have hrn : l.blocks[i].rows.length = l.blocks[i].rn := (HLI.out.blk _ (List.getElem_mem hib)).1.1
 rw [hrn] at HBF
 clear hrn e0
 refine hK _ _ (fun a hF => ?_);clear hK K;revert hF;refine zre 3 [2] [0, 5, 6, 7] fun a hF => ?_;refine hK _ _ ?_;clear hK
 refine wp_block ?_
 by_cases hlt : fi < i
 ·
  have hlti : (fi : Int) < i := by omega
  have hfl2 : fi < l.bn := by omega
  have hfl3 : fi < l.blocks.length := by omega
  have hfl4 : (fi : Int) < l.bn := by omega
  have HBF2 := Lib.hid (HBF.out.trans (if_pos hlt))
  clear HBF
  revert hF;refine zrs [1, 4, 5, 2] [0, 5, 6, 7, 20] fun a hF => ?_
  refine cond_yes hF rfl ?_
  have HC4 := Lib.hid (HC3.out.down (below_d (Below.refl _ _)))
  have HT4 : Hid (TUpd ChkT w w3.drew) := HT3.out.trans (TUpd.of_below (below_d (Below.refl _ _)))
  have f1 : w3.drew.cell? ⟨gi, 0, none⟩ = some (.int .i64 i) := d1
  have f2 : w3.drew.cell? ⟨ga, 0, none⟩ = some (.slice l.ba l.bn l.bc) := d2
  have f3 : w3.drew.cell? ⟨b, o + i * 3 + 2, none⟩ = some (.int .i64 l.blocks[i].at') := e2
  obtain ⟨b', o', hba', e0', e1', e2'⟩ := blk_at (HLI.out.blocks.below HC4.out.below) fi hfl2 hfl3
  obtain ⟨rfl, rfl⟩ : b' = b ∧ o' = o := by rw [hba] at hba'; simpa using hba'.symm
  have HAT : Hid (((l.blocks[fi]?).map (·.at')).getD 0 = l.blocks[fi].at') := by simp [Hid, hfl3]
  clear hba' d1 d2 e1 e2 e0' e1'
  generalize l.blocks[i].at' = at1 at *
  generalize l.blocks[fi].at' = at2 at *
  refine region_any (by kernel_rfl) ?_;revert hF;refine zra (fuel := 1) [1, 52, 84, 106, 137, 180, 212, 225, 266, 297, 340] [11] fun a hF => ?_;refine any_one (n := 11) (fuel := 0) (by kernel_rfl) ?_;revert hF;refine zoc fun K hK => ?_
  refine (add_any w0 h g _ L 9 at1 at2 HC4.out (by omega)).mono ?_
  rintro e w6 ⟨rfl, hc6, ht6⟩
  refine hK _ _ (fun a hF => ?_);clear hK K;refine any_end (by kernel_rfl) ?_;replace hF := hF.kp [] rfl;(try simp only [then_exit, block_exit, block_norm, goto_norm, ↓reduceIte, Nat.reduceEqDiff]);refine end_fr (fn := Tryz.f15) (rs := []) rfl [] hF trivial ?_
  refine ⟨rfl, ?_, HT4.out.trans ht6⟩
  rw [HBF2.out, HAT.out]
  exact hc6
 have hlti : ¬ (fi : Int) < i := by omega
 have HBF2 := Lib.hid (HBF.out.trans (if_neg hlt))
 clear HBF
 revert hF;refine zrs [1, 4, 5, 2] [0, 5, 6, 7, 20] fun a hF => ?_
 refine cond_no hF rfl ?_
 clear hlti
 generalize l.blocks[i].at' = at1 at *
 generalize l.blocks[i].rn = rn at *
 by_cases h60 : 60 < rn
 ·
  have h60i : (60 : Int) < rn := by omega
  have HBF3 := Lib.hid (HBF2.out.trans (if_pos h60))
  revert hF;refine zrs [4, 4, 5, 4, 4, 4, 4, 2] [0, 5, 6, 36] fun a hF => ?_
  refine cond_yes hF rfl ?_
  revert hF;refine zrp [1, 4, 4, 5, 4, 4] [6] fun a hF => ?_;revert hF;refine zos fun K hK => ?_
  refine (add_any w0 h g _ L 3 at1 (-1) HC3.out (by omega)).mono ?_
  rintro e w6 ⟨rfl, hc6, ht6⟩
  refine hK _ _ (fun a hF => ?_);clear hK K;refine seq_end ?_;replace hF := hF.kp [] rfl;(try simp only [then_exit, block_exit, block_norm, goto_norm, ↓reduceIte, Nat.reduceEqDiff]);refine end_fr (fn := Tryz.f15) (rs := []) rfl [] hF trivial ?_
  refine ⟨rfl, ?_, HT3.out.trans ht6⟩
  rw [HBF3.out]
  exact hc6
 ·
  have h60i : ¬ (60 : Int) < rn := by omega
  have HBF3 := Lib.hid (HBF2.out.trans (if_neg h60))
  revert hF;refine zrs [4, 4, 5, 4, 4, 4, 4, 2] [0, 5, 6, 36] fun a hF => ?_
  refine cond_no hF rfl ?_
  refine wp_skip ?_
  (try simp only [then_exit, block_exit, block_norm, goto_norm, ↓reduceIte, Nat.reduceEqDiff]);refine end_fr (fn := Tryz.f15) (rs := []) rfl [] hF trivial ?_
  refine ⟨rfl, ?_, HT3.out⟩
  rw [HBF3.out, List.append_nil]
  exact HC3.out
end Go.Proofs.YtmcdhggnpfhlmaaGreat

namespace Go.Proofs.YtmcdhggnpfhlmaaGreat
open Go.RowKit Go.IntWalk
set_option linter.unusedSimpArgs false
set_option linter.unusedVariables false

set_option maxRecDepth 100000 in
set_option maxHeartbeats 16000000 in
theorem area_any (w0 : World) (h : HallR) (g : Nat) (w : World) (L : List FaultR) (n i : Nat) (hc : Chk w0 h g w L) (hL : L.length ≤ 800000) (hi : h.In w0) (l : LevR) (hl : h.levels[n]? = some l) (hia : i < l.areas.length) :
  Calls Tryz.prog 17 #[.pointer (some ⟨g, 0, none⟩), .int .i64 n, .int .i64 i] w fun en w' => en = .returned (.tuple #[]) ∧ Chk w0 h g w' (L ++ areaFault l i l.areas[i]) ∧ TUpd ChkT w w' := by
 obtain ⟨hn, hle⟩ := List.getElem?_eq_some_iff.1 hl
 have hll : h.levels.length = h.ln := hi.levels.1
 have hnl : n < h.ln := by omega
 have hni : (n : Int) < h.ln := by omega
 have HC := Lib.hid hc
 have HLI := Lib.hid (hi.lev h.levels[n] (List.getElem_mem hn))
 have c3 := hc.cell3
 obtain ⟨b, o, hla, c0, c1, c2, c4, c5, c6, c7, c8⟩ := lev_at (hi.levels.below hc.below) n hnl hn
 rw [hle] at c0 c1 c2 c4 c5 c6 c7 c8 HLI
 clear hc hi hll hl hle
 have hal : i < l.an := by have := HLI.out.areas.1; omega
 have hai : (i : Int) < l.an := by omega
 have HIX := Lib.hid (idx_found (p := fun x : AreaR => decide (x.name = l.areas[i].name)) hia (by simp))
 refine enter_fr (N := 77) [.pointer (some ⟨g, 0, none⟩), .int .i64 n, .int .i64 i] (Tryz.func17) rfl Tryz.ntmps17 (by rfl) (fun a hF => ?_);replace hF := hF.kp [0, 1, 2] rfl;refine wp_seq_k (fun K hK => ?_);revert hF;refine zrp [1, 4, 4, 4, 4, 1, 5, 4] [8, 9] fun a hF => ?_;refine seq_one ?_;revert hF;refine qe0 fun a hF => ?_;refine seq_one ?_;revert hF;refine qu2 fun a hF => ?_;refine seq_end ?_;replace hF := hF.kp [0, 2, 6] rfl;refine hK _ _ ?_;clear hK
 have HBa := Lib.hid (Joins.below_alloc1 w (.cells #[.string (bs l.name), .int .i64 l.height, .slice l.ba l.bn l.bc, .slice l.aa l.an l.ac, .slice l.sa l.sn l.sc, .slice l.pa l.pn l.pc, .slice l.da l.dn l.dc, .int .i64 l.at'] 32))
 have HX : Hid (LevIn (w.alloc (.cells #[.string (bs l.name), .int .i64 l.height, .slice l.ba l.bn l.bc, .slice l.aa l.an l.ac, .slice l.sa l.sn l.sc, .slice l.pa l.pn l.pc, .slice l.da l.dn l.dc, .int .i64 l.at'] 32)) w.heap.size l) := World.alloc_heap_new w _
 have HC1 := Lib.hid (HC.out.down HBa.out)
 have HT1 : Hid (TUpd ChkT w (w.alloc (.cells #[.string (bs l.name), .int .i64 l.height, .slice l.ba l.bn l.bc, .slice l.aa l.an l.ac, .slice l.sa l.sn l.sc, .slice l.pa l.pn l.pc, .slice l.da l.dn l.dc, .int .i64 l.at'] 32))) := TUpd.of_below HBa.out
 clear HC c0 c1 c2 c3 c4 c5 c6 c7 c8 HBa hla
 generalize w.alloc (.cells #[.string (bs l.name), .int .i64 l.height, .slice l.ba l.bn l.bc, .slice l.aa l.an l.ac, .slice l.sa l.sn l.sc, .slice l.pa l.pn l.pc, .slice l.da l.dn l.dc, .int .i64 l.at'] 32) = w1 at *
 obtain ⟨gl, hgl⟩ : ∃ gl, gl = w.heap.size := ⟨_, rfl⟩
 rw [← hgl] at hF HX
 clear hgl
 obtain ⟨d0, d1, d2, d3, d4, d5, d6, d7⟩ := HX.out.cells
 obtain ⟨b, o, haa, c0, c1, c2, c3, c4, c5, c6⟩ := area_at (HLI.out.areas.below HC1.out.below) i hal hia
 have HRF : Hid (areaFault l i l.areas[i] = if l.blocks.findIdx (fun x => decide (x.name = l.areas[i].name)) < l.blocks.length then [⟨9, l.areas[i].at', ((l.blocks[l.blocks.findIdx fun x => decide (x.name = l.areas[i].name)]?).map (·.at')).getD 0⟩]
  else if l.areas.findIdx (fun x => decide (x.name = l.areas[i].name)) < i then [⟨9, l.areas[i].at', ((l.areas[l.areas.findIdx fun x => decide (x.name = l.areas[i].name)]?).map (·.at')).getD 0⟩]
  else if ¬ (boxB l.areas[i].box = true) ∨ l.areas[i].holds < 1 ∨ 4000 < l.areas[i].holds then [⟨2, l.areas[i].at', -1⟩] else []) := rfl
 generalize areaFault l i l.areas[i] = AF at *
 obtain ⟨x, hx⟩ : ∃ x, l.areas[i] = x := ⟨_, rfl⟩
 rw [hx] at c0 c1 c2 c3 c4 c5 c6 HIX HRF
 clear hx
 refine wp_seq_k (fun K hK => ?_);revert hF;refine zrp [4, 4, 1, 5, 4] [5, 6] fun a hF => ?_;refine seq_one ?_;revert hF;refine qe0 fun a hF => ?_;refine seq_one ?_;revert hF;refine qu2 fun a hF => ?_;refine seq_end ?_;replace hF := hF.kp [0, 2, 6, 7] rfl;refine hK _ _ ?_;clear hK
 have HBa := Lib.hid (Joins.below_alloc1 w1 (.cells #[.string (bs x.name), .int .i64 x.box.x, .int .i64 x.box.y, .int .i64 x.box.x2, .int .i64 x.box.y2, .int .i64 x.holds, .int .i64 x.at'] 61))
 have HA : Hid (AreaIn (w1.alloc (.cells #[.string (bs x.name), .int .i64 x.box.x, .int .i64 x.box.y, .int .i64 x.box.x2, .int .i64 x.box.y2, .int .i64 x.holds, .int .i64 x.at'] 61)) w1.heap.size x) := World.alloc_heap_new w1 _
 have HC2 := Lib.hid (HC1.out.down HBa.out)
 have HX2 := Lib.hid (HX.out.down HBa.out)
 have HT2 : Hid (TUpd ChkT w (w1.alloc (.cells #[.string (bs x.name), .int .i64 x.box.x, .int .i64 x.box.y, .int .i64 x.box.x2, .int .i64 x.box.y2, .int .i64 x.holds, .int .i64 x.at'] 61))) := HT1.out.trans (TUpd.of_below HBa.out)
 clear HC1 HX HT1 HBa c0 c1 c2 c3 c4 c5 c6 haa d0 d1 d2 d3 d4 d5 d6 d7
 generalize w1.alloc (.cells #[.string (bs x.name), .int .i64 x.box.x, .int .i64 x.box.y, .int .i64 x.box.x2, .int .i64 x.box.y2, .int .i64 x.holds, .int .i64 x.at'] 61) = w2 at *
 obtain ⟨gx, hgx⟩ : ∃ gx, gx = w1.heap.size := ⟨_, rfl⟩
 rw [← hgx] at hF HA
 clear hgx
 obtain ⟨d0, d1, d2, d3, d4, d5, d6, d7⟩ := HX2.out.cells
 refine wp_seq_k (fun K hK => ?_);revert hF;refine zrp [4, 4, 4] [3, 4] fun a hF => ?_;revert hF;refine zos fun K hK => ?_
 refine (index_blk w2 l.ba l.bn l.bc l.blocks (HLI.out.blocks.below HC2.out.below) HLI.out.bn 48 [.pointer (some ⟨gx, 0, none⟩)] (fun y => decide (y.name = x.name)) (by kernel_rfl) (fun wx hb j hj => cl_area1 wx l.blocks[j] gx x (HA.out.down hb))).mono ?_
 rintro e w3 ⟨rfl, hb3⟩
 have HC3 := Lib.hid (HC2.out.down hb3)
 have HX3 := Lib.hid (HX2.out.down hb3)
 have HA3 := Lib.hid (HA.out.down hb3)
 have HT3 : Hid (TUpd ChkT w w3) := HT2.out.trans (TUpd.of_below hb3)
 clear HC2 HX2 HT2 HA hb3 d0 d1 d2 d3 d4 d5 d6 d7
 obtain ⟨d0, d1, d2, d3, d4, d5, d6, d7⟩ := HX3.out.cells
 have HFB : Hid (idxS (fun y : BlkR => decide (y.name = x.name)) l.blocks = if l.blocks.findIdx (fun y => decide (y.name = x.name)) < l.blocks.length then ((l.blocks.findIdx fun y => decide (y.name = x.name) : Nat) : Int) else -1) := rfl
 generalize idxS (fun y : BlkR => decide (y.name = x.name)) l.blocks = ib at *
 generalize l.blocks.findIdx (fun y => decide (y.name = x.name)) = fb at *
 refine hK _ _ (fun a hF => ?_);clear hK K;revert hF;refine zre 4 [2] [0, 2, 6, 7, 8] fun a hF => ?_;refine hK _ _ ?_;clear hK;refine wp_seq_k (fun K hK => ?_);revert hF;refine zrp [4, 4, 4] [3, 4] fun a hF => ?_;revert hF;refine zos fun K hK => ?_
 refine (index_area w3 l.aa l.an l.ac l.areas (HLI.out.areas.below HC3.out.below) HLI.out.an 50 [.pointer (some ⟨gx, 0, none⟩)] (fun y => decide (y.name = x.name)) (by kernel_rfl) (fun wx hb j hj => cl_area2 wx l.areas[j] gx x (HA3.out.down hb))).mono ?_
 rintro e w4 ⟨rfl, hb4⟩
 have HC4 := Lib.hid (HC3.out.down hb4)
 have HX4 := Lib.hid (HX3.out.down hb4)
 have HA4 := Lib.hid (HA3.out.down hb4)
 have HT4 : Hid (TUpd ChkT w w4) := HT3.out.trans (TUpd.of_below hb4)
 clear HC3 HX3 HT3 HA3 hb4 d0 d1 d2 d3 d4 d5 d6 d7
 have HFD : Hid (idxS (fun y : AreaR => decide (y.name = x.name)) l.areas = (l.areas.findIdx fun y => decide (y.name = x.name) : Nat)) := HIX.out.1
 have hfd := HIX.out.2
 rw [HFD.out]
 clear HIX HFD
 generalize l.areas.findIdx (fun y => decide (y.name = x.name)) = fi at *
 refine hK _ _ (fun a hF => ?_);clear hK K;revert hF;refine zre 4 [2] [0, 2, 6, 7, 8, 9] fun a hF => ?_;refine hK _ _ ?_;clear hK
 refine wp_block ?_
 have HBLL := Lib.hid HLI.out.blocks.1
 by_cases hbk : fb < l.blocks.length
 ·
  have hib : ib = fb := by have := HFB.out; rw [if_pos hbk] at this; exact this
  have HRF2 := Lib.hid (HRF.out.trans (if_pos hbk))
  clear HRF HFB
  subst hib
  revert hF;refine zrs [1, 4, 2] [0, 2, 6, 7, 8, 9, 31] fun a hF => ?_
  refine cond_yes hF rfl ?_
  have HC5 := Lib.hid (HC4.out.down (below_d (Below.refl _ _)))
  have HT5 : Hid (TUpd ChkT w w4.drew) := HT4.out.trans (TUpd.of_below (below_d (Below.refl _ _)))
  obtain ⟨d0, d1, d2, d3, d4, d5, d6, d7⟩ := LevIn.cells (w := w4.drew) HX4.out
  obtain ⟨a0, a1, a2, a3, a4, a5, a6⟩ := AreaIn.cells (w := w4.drew) HA4.out
  have hfl2 : fb < l.bn := by have := HBLL.out; omega
  have hfl4 : (fb : Int) < l.bn := by omega
  obtain ⟨b, o, hba, e0, e1, e2⟩ := blk_at (HLI.out.blocks.below HC5.out.below) fb hfl2 hbk
  have HAT : Hid (((l.blocks[fb]?).map (·.at')).getD 0 = l.blocks[fb].at') := by simp [Hid, hbk]
  clear d0 d1 d3 d4 d5 d6 d7 a0 a1 a2 a3 a4 a5 e0 e1
  generalize l.blocks[fb].at' = at2 at *
  refine region_any (by kernel_rfl) ?_;revert hF;refine zra (fuel := 1) [1, 41, 84, 105, 148, 161, 202, 233, 276] [9] fun a hF => ?_;refine any_one (n := 9) (fuel := 0) (by kernel_rfl) ?_;revert hF;refine zoc fun K hK => ?_
  refine (add_any w0 h g _ L 9 x.at' at2 HC5.out (by omega)).mono ?_
  rintro e w6 ⟨rfl, hc6, ht6⟩
  refine hK _ _ (fun a hF => ?_);clear hK K;refine any_end (by kernel_rfl) ?_;replace hF := hF.kp [] rfl;(try simp only [then_exit, block_exit, block_norm, goto_norm, ↓reduceIte, Nat.reduceEqDiff]);refine end_fr (fn := Tryz.f17) (rs := []) rfl [] hF trivial ?_
  refine ⟨rfl, ?_, HT5.out.trans ht6⟩
  rw [HRF2.out, HAT.out]
  exact hc6
 have hib : ib = -1 := by have := HFB.out; rw [if_neg hbk] at this; exact this
 have HRF2 := Lib.hid (HRF.out.trans (if_neg hbk))
 clear HRF HFB
 subst hib
 revert hF;refine zrs [1, 4, 2] [0, 2, 6, 7, 8, 9, 31] fun a hF => ?_
 refine cond_no hF rfl ?_
 by_cases hlt : fi < i
 ·
  have hlti : (fi : Int) < i := by omega
  have HRF3 := Lib.hid (HRF2.out.trans (if_pos hlt))
  clear HRF2
  revert hF;refine zrs [1, 1, 5, 2] [0, 6, 7, 9, 44] fun a hF => ?_
  refine cond_yes hF rfl ?_
  have HC5 := Lib.hid (HC4.out.down (below_d (Below.refl _ _)))
  have HT5 : Hid (TUpd ChkT w w4.drew) := HT4.out.trans (TUpd.of_below (below_d (Below.refl _ _)))
  obtain ⟨d0, d1, d2, d3, d4, d5, d6, d7⟩ := LevIn.cells (w := w4.drew) HX4.out
  obtain ⟨a0, a1, a2, a3, a4, a5, a6⟩ := AreaIn.cells (w := w4.drew) HA4.out
  have hfl2 : fi < l.an := by omega
  have hfl3 : fi < l.areas.length := by omega
  have hfl4 : (fi : Int) < l.an := by omega
  obtain ⟨b, o, hba, e0, e1, e2, e3, e4, e5, e6⟩ := area_at (HLI.out.areas.below HC5.out.below) fi hfl2 hfl3
  have HAT : Hid (((l.areas[fi]?).map (·.at')).getD 0 = l.areas[fi].at') := by simp [Hid, hfl3]
  clear d0 d1 d2 d4 d5 d6 d7 a0 a1 a2 a3 a4 a5 e0 e1 e2 e3 e4 e5
  generalize l.areas[fi].at' = at2 at *
  refine region_any (by kernel_rfl) ?_;revert hF;refine zra (fuel := 1) [1, 41, 84, 105, 148, 161, 202, 233, 276] [9] fun a hF => ?_;refine any_one (n := 9) (fuel := 0) (by kernel_rfl) ?_;revert hF;refine zoc fun K hK => ?_
  refine (add_any w0 h g _ L 9 x.at' at2 HC5.out (by omega)).mono ?_
  rintro e w6 ⟨rfl, hc6, ht6⟩
  refine hK _ _ (fun a hF => ?_);clear hK K;refine any_end (by kernel_rfl) ?_;replace hF := hF.kp [] rfl;(try simp only [then_exit, block_exit, block_norm, goto_norm, ↓reduceIte, Nat.reduceEqDiff]);refine end_fr (fn := Tryz.f17) (rs := []) rfl [] hF trivial ?_
  refine ⟨rfl, ?_, HT5.out.trans ht6⟩
  rw [HRF3.out, HAT.out]
  exact hc6
 have hlti : ¬ (fi : Int) < i := by omega
 have HRF3 := Lib.hid (HRF2.out.trans (if_neg hlt))
 clear HRF2
 revert hF;refine zrs [1, 1, 5, 2] [0, 6, 7, 9, 44] fun a hF => ?_
 refine cond_no hF rfl ?_
 clear hlti
 refine wp_seq_k (fun K hK => ?_)
 obtain ⟨a0, a1, a2, a3, a4, a5, a6⟩ := HA4.out.cells
 revert hF;refine zrp [4, 4] [2, 3, 4, 5, 6, 7, 8, 9, 10, 11, 12, 13, 14] fun a hF => ?_;revert hF;refine zos fun K hK => ?_
 refine (box_any w4 x.box).mono ?_
 rintro e w5 ⟨rfl, hb5⟩
 have HC5 := Lib.hid (HC4.out.down hb5)
 have HA5 := Lib.hid (HA4.out.down hb5)
 have HT5 : Hid (TUpd ChkT w w5) := HT4.out.trans (TUpd.of_below hb5)
 clear HC4 HX4 HT4 HA4 hb5 a0 a1 a2 a3 a4 a5 a6
 obtain ⟨a0, a1, a2, a3, a4, a5, a6⟩ := HA5.out.cells
 clear a0 a1 a2 a3 a4
 generalize boxB x.box = yb at *
 generalize x.holds = hd at *
 cases yb
 ·
  have HRF4 := Lib.hid (HRF3.out.trans (if_pos (Or.inl (by decide))))
  clear HRF3
  refine hK _ _ (fun a hF => ?_);clear hK K;revert hF;refine zre 3 [4, 1, 0, 0, 0, 5, 1, 0, 0, 0, 5, 2] [0, 7, 58] fun a hF => ?_;refine hK _ _ ?_;clear hK
  refine cond_yes hF rfl ?_
  revert hF;refine zrp [1, 4, 4] [3] fun a hF => ?_;revert hF;refine zos fun K hK => ?_
  refine (add_any w0 h g _ L 2 x.at' (-1) HC5.out (by omega)).mono ?_
  rintro e w6 ⟨rfl, hc6, ht6⟩
  refine hK _ _ (fun a hF => ?_);clear hK K;refine seq_end ?_;replace hF := hF.kp [] rfl;(try simp only [then_exit, block_exit, block_norm, goto_norm, ↓reduceIte, Nat.reduceEqDiff]);refine end_fr (fn := Tryz.f17) (rs := []) rfl [] hF trivial ?_
  refine ⟨rfl, ?_, HT5.out.trans ht6⟩
  rw [HRF4.out]
  exact hc6
 by_cases h1 : hd < 1
 ·
  have HRF4 := Lib.hid (HRF3.out.trans (if_pos (Or.inr (Or.inl h1))))
  clear HRF3
  refine hK _ _ (fun a hF => ?_);clear hK K;revert hF;refine zre 3 [4, 1, 4, 4, 4, 5, 1, 0, 0, 0, 5, 2] [0, 7, 58] fun a hF => ?_;refine hK _ _ ?_;clear hK
  refine cond_yes hF rfl ?_
  revert hF;refine zrp [1, 4, 4] [3] fun a hF => ?_;revert hF;refine zos fun K hK => ?_
  refine (add_any w0 h g _ L 2 x.at' (-1) HC5.out (by omega)).mono ?_
  rintro e w6 ⟨rfl, hc6, ht6⟩
  refine hK _ _ (fun a hF => ?_);clear hK K;refine seq_end ?_;replace hF := hF.kp [] rfl;(try simp only [then_exit, block_exit, block_norm, goto_norm, ↓reduceIte, Nat.reduceEqDiff]);refine end_fr (fn := Tryz.f17) (rs := []) rfl [] hF trivial ?_
  refine ⟨rfl, ?_, HT5.out.trans ht6⟩
  rw [HRF4.out]
  exact hc6
 by_cases h2 : 4000 < hd
 ·
  have HRF4 := Lib.hid (HRF3.out.trans (if_pos (Or.inr (Or.inr h2))))
  clear HRF3
  refine hK _ _ (fun a hF => ?_);clear hK K;revert hF;refine zre 3 [4, 1, 4, 4, 4, 5, 1, 4, 4, 4, 5, 2] [0, 7, 58] fun a hF => ?_;refine hK _ _ ?_;clear hK
  refine cond_yes hF rfl ?_
  revert hF;refine zrp [1, 4, 4] [3] fun a hF => ?_;revert hF;refine zos fun K hK => ?_
  refine (add_any w0 h g _ L 2 x.at' (-1) HC5.out (by omega)).mono ?_
  rintro e w6 ⟨rfl, hc6, ht6⟩
  refine hK _ _ (fun a hF => ?_);clear hK K;refine seq_end ?_;replace hF := hF.kp [] rfl;(try simp only [then_exit, block_exit, block_norm, goto_norm, ↓reduceIte, Nat.reduceEqDiff]);refine end_fr (fn := Tryz.f17) (rs := []) rfl [] hF trivial ?_
  refine ⟨rfl, ?_, HT5.out.trans ht6⟩
  rw [HRF4.out]
  exact hc6
 have HRF4 := Lib.hid (HRF3.out.trans (if_neg (fun h => h.elim (fun h => h rfl) (fun h => h.elim h1 h2))))
 clear HRF3
 refine hK _ _ (fun a hF => ?_);clear hK K;revert hF;refine zre 3 [4, 1, 4, 4, 4, 5, 1, 4, 4, 4, 5, 2] [0, 7, 58] fun a hF => ?_;refine hK _ _ ?_;clear hK
 refine cond_no hF rfl ?_
 refine wp_skip ?_
 (try simp only [then_exit, block_exit, block_norm, goto_norm, ↓reduceIte, Nat.reduceEqDiff]);refine end_fr (fn := Tryz.f17) (rs := []) rfl [] hF trivial ?_
 refine ⟨rfl, ?_, HT5.out⟩
 rw [HRF4.out, List.append_nil]
 exact HC5.out
end Go.Proofs.YtmcdhggnpfhlmaaGreat
