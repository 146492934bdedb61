/- hall: the checker: level, block, area. -/
import Derived.Test.YtmcdhggnpfhlmaaQHCB09

namespace Go.Proofs.Ytmcdhggnpfhlmaa
open Go.RowKit Go.IntWalk
set_option linter.unusedSimpArgs false
set_option linter.unusedVariables false

theorem idx_found {α : Type} {p : α → Bool} {xs : List α} {i : Nat} (hi : i < xs.length) (h : p xs[i] = true) : idxS p xs = (xs.findIdx p : Nat) ∧ xs.findIdx p ≤ i := by
  have h1 : xs.findIdx p ≤ i := by
    rcases Nat.lt_or_ge i (xs.findIdx p) with h2 | h2
    · have := List.not_of_lt_findIdx h2
      rw [h] at this
      cases this
    · exact h2
  unfold idxS
  rw [if_pos (by omega)]
  exact ⟨rfl, h1⟩

theorem run_max4 (P : Program) (w : World) (ts : Array TypeId) (t : TypeId) (x y z u : Nat) : (Builtin.max_ ts t #[.int .i64 x, .int .i64 y, .int .i64 z, .int .i64 u]).run P w = .ok (.int .i64 ((max (max (max x y) z) u : Nat) : Int)) w := by
  have h2 : ∀ a b : Nat, (Builtin.max2 (.int .i64 a) (.int .i64 b)).run P w = .ok (.int .i64 ((max a b : Nat) : Int)) w := by
    intro a b
    unfold Builtin.max2
    by_cases h : (b : Int) > (a : Int)
    · simp [h]
      omega
    · simp [h]
      omega
  unfold Builtin.max_
  show (List.foldlM Builtin.max2 (.int .i64 x) [.int .i64 y, .int .i64 z, .int .i64 u]).run P w = _
  simp only [List.foldlM_cons, List.foldlM_nil, Sem.run_bind, h2, Result.andThen_ok, Sem.run_pure]

/-- A level that is small enough. -/
structure LevR.Sm (l : LevR) : Prop where
  b : l.bn ≤ 6
  rest : l.sn + l.pn + l.dn + l.an ≤ 60

theorem Chk.cell3 {w0 w : World} {h : HallR} {g : Nat} {L : List FaultR} (hc : Chk w0 h g w L) : w.cell? ⟨g, 3, none⟩ = some (.slice h.la h.ln h.lc) := by
  obtain ⟨v, hg, _⟩ := hc.row
  exact boxed_cell (j := 3) hg rfl

set_option maxRecDepth 100000 in
set_option maxHeartbeats 16000000 in
theorem level_any (w0 : World) (h : HallR) (g : Nat) (w : World) (L : List FaultR) (n : Nat) (hc : Chk w0 h g w L) (hL : L.length ≤ 800000) (hi : h.In w0) (hn : n < h.levels.length) (hsm : h.levels[n].Sm) :
    Calls Try.prog 22 #[.pointer (some ⟨g, 0, none⟩), .int .i64 n] w fun en w' => en = .returned (.tuple #[]) ∧ Chk w0 h g w' (L ++ levelFault h.levels n h.levels[n]) ∧ TUpd ChkT w w' := by
  have hll : h.levels.length = h.ln := hi.levels.1
  have hnl : n < h.ln := by omega
  have hni : (n : Int) < h.ln := by omega
  have HC := Lib.hid hc
  have HI := Lib.hid hi
  have HLL := Lib.hid hll
  have HSM := Lib.hid hsm
  have HLI := Lib.hid (hi.lev h.levels[n] (List.getElem_mem hn))
  have c3 := hc.cell3
  obtain ⟨b, o, hla, c0, c1, c2, c4, c5, c6, c7, c8⟩ := lev_at (hi.levels.below hc.below) n hnl hn
  have HIX := Lib.hid (idx_found (p := fun x => decide (x.name = h.levels[n].name)) hn (by simp))
  clear hc hi hll hsm
  have HLF : Hid (levelFault h.levels n h.levels[n] = levelFault h.levels n h.levels[n]) := rfl
  obtain ⟨l, hl⟩ : ∃ l, h.levels[n] = l := ⟨_, rfl⟩
  have HNL := Lib.hid hl
  rw [hl] at c0 c1 c2 c4 c5 c6 c7 c8 HSM HLI HIX ⊢
  clear hl HLF
  refine enter_fr (N := 91) [.pointer (some ⟨g, 0, none⟩), .int .i64 n] (Try.func22) rfl Try.ntmps22 (by rfl) (fun a hF => ?_);replace hF := hF.kp [0, 1] rfl;refine wp_seq_k (fun K hK => ?_);refine region_sk [0, 1, 2, 3, 4, 5, 6, 7] [8, 9] hF fun C hC => ?_;clear hF;refine zm rfl rfl rfl ?_;refine zs1 7 rfl rfl ?_;refine zs1 8 rfl rfl ?_;refine zs1 9 rfl rfl ?_;refine zs1 10 rfl rfl ?_;refine zm rfl rfl rfl ?_;refine zs2 11 12 rfl rfl rfl ?_;refine zs1 13 rfl rfl ?_;refine hC _ (fun a hF => ?_);clear hC C;refine seq_one ?_;refine ze0 rfl rfl rfl hF rfl ?_;clear hF;refine fun a hF => ?_;refine seq_one ?_;refine zu2 4 14 rfl rfl hF rfl rfl rfl ?_;clear hF;refine fun a hF => ?_;refine seq_end ?_;replace hF := hF.kp [0, 1, 4] rfl;refine hK _ _ ?_;clear hK;(try clear K)
  have HBa := Lib.hid (Joins.below_alloc1 w (.cells #[.string (bs l.name), .int .i64 l.height, .slice l.ba l.bn l.bc, .slice l.aa l.an l.ac, .slice l.sa l.sn l.sc, .slice l.pa l.pn l.pc, .slice l.da l.dn l.dc, .int .i64 l.at'] 43))
  have HX : Hid (LevIn (w.alloc (.cells #[.string (bs l.name), .int .i64 l.height, .slice l.ba l.bn l.bc, .slice l.aa l.an l.ac, .slice l.sa l.sn l.sc, .slice l.pa l.pn l.pc, .slice l.da l.dn l.dc, .int .i64 l.at'] 43)) w.heap.size l) := World.alloc_heap_new w _
  have HC1 := Lib.hid (HC.out.down HBa.out)
  have HT1 : Hid (TUpd ChkT w (w.alloc (.cells #[.string (bs l.name), .int .i64 l.height, .slice l.ba l.bn l.bc, .slice l.aa l.an l.ac, .slice l.sa l.sn l.sc, .slice l.pa l.pn l.pc, .slice l.da l.dn l.dc, .int .i64 l.at'] 43))) := TUpd.of_below HBa.out
  clear HC c0 c1 c2 c3 c4 c5 c6 c7 c8 HBa hla
  generalize w.alloc (.cells #[.string (bs l.name), .int .i64 l.height, .slice l.ba l.bn l.bc, .slice l.aa l.an l.ac, .slice l.sa l.sn l.sc, .slice l.pa l.pn l.pc, .slice l.da l.dn l.dc, .int .i64 l.at'] 43) = w1 at *
  obtain ⟨gl, hgl⟩ : ∃ gl, gl = w.heap.size := ⟨_, rfl⟩
  rw [← hgl] at hF HX
  clear hgl
  refine wp_seq_k (fun K hK => ?_)
  have c3 := HC1.out.cell3
  refine region_sk [0, 1, 2, 3, 4, 5] [6, 7] hF fun C hC => ?_;clear hF;refine zm rfl rfl rfl ?_;refine zs1 15 rfl rfl ?_;refine zs1 16 rfl rfl ?_;refine zs1 17 rfl rfl ?_;refine zs1 18 rfl rfl ?_;refine zs1 4 rfl rfl ?_;refine hC _ (fun a hF => ?_);clear hC C;refine seq_one ?_;refine op_call [_, _] rfl rfl hF rfl (by kernel_rfl) ⟨rfl, rfl, trivial⟩ (fun K hK => ?_);clear hF
  refine (index_lev w1 h.la h.ln h.lc h.levels (HI.out.levels.below HC1.out.below) HI.out.ln 38 [.pointer (some ⟨gl, 0, none⟩)] (fun x => decide (x.name = l.name)) (by kernel_rfl) (fun wx hb j hj => cl_level wx h.levels[j] gl l (HX.out.down hb))).mono ?_
  rintro e w2 ⟨rfl, hb2⟩
  have HC2 := Lib.hid (HC1.out.down hb2)
  have HX2 := Lib.hid (HX.out.down hb2)
  have HT2 : Hid (TUpd ChkT w w2) := HT1.out.trans (TUpd.of_below hb2)
  clear HC1 HX HT1 hb2 c3
  have HFD : Hid (idxS (fun x => decide (x.name = l.name)) h.levels = (h.levels.findIdx fun x => decide (x.name = l.name) : Nat)) := HIX.out.1
  have hfd := HIX.out.2
  rw [HFD.out]
  have HLF : Hid (levelFault h.levels n l = if h.levels.findIdx (fun x => decide (x.name = l.name)) < n then [⟨9, l.at', ((h.levels[h.levels.findIdx fun x => decide (x.name = l.name)]?).map (·.at')).getD 0⟩]
    else if 8 ≤ n ∨ 40 < l.blocks.length + l.areas.length ∨ 40 < l.aisles.length ∨ 40 < l.pillars.length ∨ 40 < l.doors.length then [⟨3, l.at', -1⟩]
    else if !coordB l.height || ((l.aisles ++ l.pillars).any fun b => !boxB b) || (l.doors.any fun p => !(coordB p.x && coordB p.y)) then [⟨2, l.at', -1⟩] else []) := rfl
  clear HIX HFD
  generalize h.levels.findIdx (fun x => decide (x.name = l.name)) = fi at *
  refine hK _ _ (fun a hF => ?_);clear hK K;refine seq_ck [7] [] hF fun C hC => ?_;clear hF;refine za rfl rfl rfl ?_;refine hC _ (fun a hF => ?_);clear hC C;refine seq_end ?_;replace hF := hF.kp [0, 1, 4, 5] rfl;refine hK _ _ ?_;clear hK;(try clear K);refine wp_seq_k (fun K hK => ?_)
  obtain ⟨d0, d1, d2, d3, d4, d5, d6, d7⟩ := HX2.out.cells
  refine region_sk [0, 1, 2, 3] [4, 5, 6] hF fun C hC => ?_;clear hF;refine zs1 4 rfl rfl ?_;refine zs1 22 rfl rfl ?_;refine zs1 4 rfl rfl ?_;refine zs1 24 rfl rfl ?_;refine hC _ (fun a hF => ?_);clear hC C;refine seq_one ?_;refine ze2 23 25 rfl rfl rfl hF rfl rfl rfl ?_;clear hF;refine fun a hF => ?_
  have HBb := Lib.hid (Joins.below_alloc1 w2 (.cells #[.slice l.sa l.sn l.sc, .slice l.pa l.pn l.pc] 40))
  have hNN : (w2.alloc (.cells #[.slice l.sa l.sn l.sc, .slice l.pa l.pn l.pc] 40)).heap[w2.heap.size]? = some (.cells #[.slice l.sa l.sn l.sc, .slice l.pa l.pn l.pc] 40 (0, 0)) := World.alloc_heap_new w2 _
  have HLG : Hid (LogsAt (w2.alloc (.cells #[.slice l.sa l.sn l.sc, .slice l.pa l.pn l.pc] 40)) (some ⟨w2.heap.size, 0, none⟩) 2 [l.aisles, l.pillars]) := by
    have hl3 := HLI.out.below (HC2.out.below.trans (HBb.out.mono HC2.out.below.size))
    refine ⟨rfl, fun i hi => ?_⟩
    have : i = 0 ∨ i = 1 := by omega
    rcases this with rfl | rfl
    · refine ⟨_, _, _, rfl, boxed_cell (j := 0) hNN rfl, l.sa, l.sc, ?_, ?_, hl3.sa0⟩
      · rw [← hl3.aisles.1]; rfl
      · show Recs BoxE _ l.sa l.aisles.length l.aisles
        rw [hl3.aisles.1]
        exact hl3.aisles
    · refine ⟨_, _, _, rfl, boxed_cell (j := 1) hNN rfl, l.pa, l.pc, ?_, ?_, hl3.pa0⟩
      · rw [← hl3.pillars.1]; rfl
      · show Recs BoxE _ l.pa l.pillars.length l.pillars
        rw [hl3.pillars.1]
        exact hl3.pillars
  have HSZ : Hid (sumL [l.aisles, l.pillars] ≤ 100000) := by
    have h1 := HLI.out.aisles.1
    have h2 := HLI.out.pillars.1
    have h3 := HSM.out.rest
    simp [Hid, sumL]
    omega
  have HC3 := Lib.hid (HC2.out.down HBb.out)
  have HX3 := Lib.hid (HX2.out.down HBb.out)
  have HT3 : Hid (TUpd ChkT w (w2.alloc (.cells #[.slice l.sa l.sn l.sc, .slice l.pa l.pn l.pc] 40))) := HT2.out.trans (TUpd.of_below HBb.out)
  clear HC2 HX2 HT2 HBb hNN d0 d1 d2 d3 d4 d5 d6 d7
  generalize w2.alloc (.cells #[.slice l.sa l.sn l.sc, .slice l.pa l.pn l.pc] 40) = w3 at *
  generalize w2.heap.size = gb at *
  refine seq_one ?_;refine op_call [_] rfl rfl hF rfl (by kernel_rfl) ⟨rfl, trivial⟩ (fun K hK => ?_);clear hF
  refine (concat_box (some ⟨gb, 0, none⟩) 2 2 [l.aisles, l.pillars] w3 HLG.out (by omega) HSZ.out).mono ?_
  rintro e w4 ⟨vb, rfl, hvb, hb4⟩
  have HC4 := Lib.hid (HC3.out.down hb4)
  have HX4 := Lib.hid (HX3.out.down hb4)
  have HT4 : Hid (TUpd ChkT w w4) := HT3.out.trans (TUpd.of_below hb4)
  have hfl : [l.aisles, l.pillars].flatten = l.aisles ++ l.pillars := by simp
  rw [hfl] at hvb
  obtain ⟨ba, bc, rfl, hbr, _⟩ := Rcs.of_own hvb
  have HBR := Lib.hid hbr
  clear HC3 HX3 HT3 HLG HSZ hb4 hvb hbr hfl
  refine hK _ _ (fun a hF => ?_);clear hK K;refine seq_ck [6] [] hF fun C hC => ?_;clear hF;refine za rfl rfl rfl ?_;refine hC _ (fun a hF => ?_);clear hC C;refine seq_end ?_;replace hF := hF.kp [0, 1, 4, 5, 6] rfl;refine hK _ _ ?_;clear hK;(try clear K)
  have HBL : Hid ((l.aisles ++ l.pillars).length ≤ 60) := by
    have h1 := HLI.out.aisles.1
    have h2 := HLI.out.pillars.1
    have h3 := HSM.out.rest
    simp [Hid]
    omega
  have HLNS : Hid (l.blocks.length = l.bn ∧ l.areas.length = l.an ∧ l.aisles.length = l.sn ∧ l.pillars.length = l.pn ∧ l.doors.length = l.dn) := ⟨HLI.out.blocks.1, HLI.out.areas.1, HLI.out.aisles.1, HLI.out.pillars.1, HLI.out.doors.1⟩
  generalize (l.aisles ++ l.pillars).length = bl at *
  refine wp_block ?_
  refine wp_seq_k (fun K hK => ?_)
  obtain ⟨d0, d1, d2, d3, d4, d5, d6, d7⟩ := HX4.out.cells
  by_cases hlt : fi < n
  · have hlti : (fi : Int) < n := by omega
    have HLF2 := Lib.hid (HLF.out.trans (if_pos hlt))
    refine region_sk [0, 1, 2, 3] [] hF fun C hC => ?_;clear hF;refine zm rfl rfl rfl ?_;refine zm rfl rfl rfl ?_;refine zs2 29 30 rfl rfl rfl ?_;refine za rfl rfl rfl ?_;refine hC _ (fun a hF => ?_);clear hC C;refine seq_end ?_;replace hF := hF.kp [0, 1, 4, 5, 6, 28] rfl;refine hK _ _ ?_;clear hK;(try clear K)
    refine cond_yes hF rfl ?_
    have hfl2 : fi < h.ln := by omega
    have hfl3 : fi < h.levels.length := by rw [HLL.out]; exact hfl2
    have hfl4 : (fi : Int) < h.ln := by omega
    have HC5 := Lib.hid (HC4.out.down (below_d (Below.refl _ _)))
    have HT5 : Hid (TUpd ChkT w w4.drew) := HT4.out.trans (TUpd.of_below (below_d (Below.refl _ _)))
    have c3 := HC5.out.cell3
    have e7 : w4.drew.cell? ⟨gl, 7, none⟩ = some (.int .i64 l.at') := d7
    obtain ⟨b, o, hla, c0, c1, c2, c4, c5, c6, c7, c8⟩ := lev_at (HI.out.levels.below HC5.out.below) fi hfl2 hfl3
    have HAT : Hid (((h.levels[fi]?).map (·.at')).getD 0 = h.levels[fi].at') := by simp [Hid, hfl3]
    generalize h.levels[fi].at' = fat at *
    clear d0 d1 d2 d3 d4 d5 d6 d7 hlti c0 c1 c2 c4 c5 c6 c7
    refine region_any (by kernel_rfl) ?_;refine any_chain (fuel := 1) [(0, false), (1, false), (2, true), (3, false), (4, false), (5, false), (6, false), (7, true), (8, false), (9, false), (10, false), (11, true)] [12] rfl (by kernel_rfl) (by kernel_rfl) hF (fun _ _ d _ _ h => by cases d <;> exact h) (fun C hC => ?_);clear hF;refine zm rfl rfl rfl ?_;refine zy1 4 rfl rfl ?_;refine zs1 33 rfl rfl ?_;refine zm rfl rfl rfl ?_;refine zy1 35 rfl rfl ?_;refine zy1 36 rfl rfl ?_;refine zy1 37 rfl rfl ?_;refine zs1 38 rfl rfl ?_;refine zm rfl rfl rfl ?_;refine zy2 39 40 rfl rfl rfl ?_;refine zy1 41 rfl rfl ?_;refine zs1 42 rfl rfl ?_;refine hC _ (fun a hF => ?_);clear hC C;refine any_one (n := 12) (fuel := 0) (by kernel_rfl) ?_;refine op_call [_, _, _, _] rfl rfl hF rfl (by kernel_rfl) ⟨rfl, rfl, rfl, rfl, trivial⟩ (fun K hK => ?_);clear hF
    refine (add_any w0 h g _ L 9 l.at' fat HC5.out (by omega)).mono ?_
    rintro e w6 ⟨rfl, hc6, ht6⟩
    refine hK _ _ (fun a hF => ?_);clear hK K;refine any_end (by kernel_rfl) ?_;replace hF := hF.kp [] rfl;(try simp only [then_exit, block_exit, block_norm, goto_norm, ↓reduceIte, Nat.reduceEqDiff]);refine end_fr (fn := Try.f22) (rs := []) rfl [] hF trivial ?_
    refine ⟨rfl, ?_, HT5.out.trans ht6⟩
    rw [HLF2.out, HAT.out]
    exact hc6
  have hlti : ¬ (fi : Int) < n := by omega
  have HLF2 := Lib.hid (HLF.out.trans (if_neg hlt))
  refine region_sk [0, 1, 2, 3] [] hF fun C hC => ?_;clear hF;refine zm rfl rfl rfl ?_;refine zm rfl rfl rfl ?_;refine zs2 29 30 rfl rfl rfl ?_;refine za rfl rfl rfl ?_;refine hC _ (fun a hF => ?_);clear hC C;refine seq_end ?_;replace hF := hF.kp [0, 1, 4, 5, 6, 28] rfl;refine hK _ _ ?_;clear hK;(try clear K)
  refine cond_no hF rfl ?_
  clear HLF hlti
  obtain ⟨ma, hma⟩ : ∃ ma, l.bn + l.an = ma := ⟨_, rfl⟩
  have hws : IntKind.i64.wrap ((l.bn : Int) + l.an) = (ma : Int) := by
    have h1 := HSM.out.rest
    have h2 := HSM.out.b
    rw [wrap_in (by omega) (by omega)]
    omega
  obtain ⟨mm, hmm⟩ : ∃ mm, max (max (max ma l.sn) l.pn) l.dn = mm := ⟨_, rfl⟩
  have HMM : Hid (40 < mm ↔ 40 < l.blocks.length + l.areas.length ∨ 40 < l.aisles.length ∨ 40 < l.pillars.length ∨ 40 < l.doors.length) := by
    obtain ⟨e1, e2, e3, e4, e5⟩ := HLNS.out
    show _ ↔ _
    rw [e1, e2, e3, e4, e5]
    omega
  have hmx : ∀ w, (Builtin.max_ #[3, 3, 3, 3] 3 #[.int .i64 ma, .int .i64 l.sn, .int .i64 l.pn, .int .i64 l.dn]).run Try.prog w = .ok (.int .i64 mm) w := fun w => by
    rw [run_max4, hmm]
  clear hma hmm
  refine wp_seq_k (fun K hK => ?_)
  by_cases h8 : 8 ≤ n
  · have h8i : (8 : Int) ≤ n := by omega
    have HLF3 := Lib.hid (HLF2.out.trans (if_pos (Or.inl h8)))
    clear HLF2
    refine region_sk [0, 1, 2, 3, 4, 5, 6, 7, 8, 9, 10, 11, 12, 13, 14, 15, 16, 17, 18, 19, 20, 21, 22] [] hF fun C hC => ?_;clear hF;refine zm rfl rfl rfl ?_;refine zs1 46 rfl rfl ?_;refine zm rfl rfl rfl ?_;refine zx rfl ?_;refine zx rfl ?_;refine zx rfl ?_;refine zx rfl ?_;refine zx rfl ?_;refine zx rfl ?_;refine zx rfl ?_;refine zx rfl ?_;refine zx rfl ?_;refine zx rfl ?_;refine zx rfl ?_;refine zx rfl ?_;refine zx rfl ?_;refine zx rfl ?_;refine zx rfl ?_;refine zx rfl ?_;refine zx rfl ?_;refine zx rfl ?_;refine zs2 48 66 rfl rfl rfl ?_;refine za rfl rfl rfl ?_;refine hC _ (fun a hF => ?_);clear hC C;refine seq_end ?_;replace hF := hF.kp [0, 4, 6, 45] rfl;refine hK _ _ ?_;clear hK;(try clear K)
    refine cond_yes hF rfl ?_
    refine region_sk [0, 1, 2] [3] hF fun C hC => ?_;clear hF;refine zm rfl rfl rfl ?_;refine zs1 4 rfl rfl ?_;refine zs1 69 rfl rfl ?_;refine hC _ (fun a hF => ?_);clear hC C;refine seq_one ?_;refine op_call [_, _, _, _] rfl rfl hF rfl (by kernel_rfl) ⟨rfl, rfl, rfl, rfl, trivial⟩ (fun K hK => ?_);clear hF
    refine (add_any w0 h g w4 L 3 l.at' (-1) HC4.out (by omega)).mono ?_
    rintro e w6 ⟨rfl, hc6, ht6⟩
    refine hK _ _ (fun a hF => ?_);clear hK K;refine seq_end ?_;replace hF := hF.kp [] rfl;(try simp only [then_exit, block_exit, block_norm, goto_norm, ↓reduceIte, Nat.reduceEqDiff]);refine end_fr (fn := Try.f22) (rs := []) rfl [] hF trivial ?_
    refine ⟨rfl, ?_, HT4.out.trans ht6⟩
    rw [HLF3.out]
    exact hc6
  have h8i : ¬ (8 : Int) ≤ n := by omega
  by_cases h40 : 40 < mm
  · have h40i : (40 : Int) < mm := by omega
    have HLF3 := Lib.hid (HLF2.out.trans (if_pos (Or.inr (HMM.out.mp h40))))
    clear HLF2
    refine region_sk [0, 1, 2, 3, 4, 5, 6, 7, 8, 9, 10, 11, 12, 13, 14, 15, 16, 17, 18, 19, 20, 21, 22] [] hF fun C hC => ?_;clear hF;refine zm rfl rfl rfl ?_;refine zs1 46 rfl rfl ?_;refine zm rfl rfl rfl ?_;refine zs1 4 rfl rfl ?_;refine zs1 49 rfl rfl ?_;refine zs1 50 rfl rfl ?_;refine zs1 4 rfl rfl ?_;refine zs1 52 rfl rfl ?_;refine zs1 53 rfl rfl ?_;refine zs2 51 54 rfl rfl rfl ?_;refine zs1 4 rfl rfl ?_;refine zs1 56 rfl rfl ?_;refine zs1 57 rfl rfl ?_;refine zs1 4 rfl rfl ?_;refine zs1 59 rfl rfl ?_;refine zs1 60 rfl rfl ?_;refine zs1 4 rfl rfl ?_;refine zs1 62 rfl rfl ?_;refine zs1 63 rfl rfl ?_;refine Chain.step (v := ?_) rfl rfl rfl rfl ?_ ?_
    rotate_left
    · intro a hF w' hw
      have s55 := hF.slot 55 _ rfl
      have s58 := hF.slot 58 _ rfl
      have s61 := hF.slot 61 _ rfl
      have s64 := hF.slot 64 _ rfl
      cases hw rfl
      clear hF
      go_simp <;> with_reducible rfl
    refine zs1 65 rfl rfl ?_;refine zs2 48 66 rfl rfl rfl ?_;refine za rfl rfl rfl ?_;refine hC _ (fun a hF => ?_);clear hC C;refine seq_end ?_;replace hF := hF.kp [0, 4, 6, 45] rfl;refine hK _ _ ?_;clear hK;(try clear K)
    refine cond_yes hF rfl ?_
    refine region_sk [0, 1, 2] [3] hF fun C hC => ?_;clear hF;refine zm rfl rfl rfl ?_;refine zs1 4 rfl rfl ?_;refine zs1 69 rfl rfl ?_;refine hC _ (fun a hF => ?_);clear hC C;refine seq_one ?_;refine op_call [_, _, _, _] rfl rfl hF rfl (by kernel_rfl) ⟨rfl, rfl, rfl, rfl, trivial⟩ (fun K hK => ?_);clear hF
    refine (add_any w0 h g w4 L 3 l.at' (-1) HC4.out (by omega)).mono ?_
    rintro e w6 ⟨rfl, hc6, ht6⟩
    refine hK _ _ (fun a hF => ?_);clear hK K;refine seq_end ?_;replace hF := hF.kp [] rfl;(try simp only [then_exit, block_exit, block_norm, goto_norm, ↓reduceIte, Nat.reduceEqDiff]);refine end_fr (fn := Try.f22) (rs := []) rfl [] hF trivial ?_
    refine ⟨rfl, ?_, HT4.out.trans ht6⟩
    rw [HLF3.out]
    exact hc6
  have h40i : ¬ (40 : Int) < mm := by omega
  have HLF3 := Lib.hid (HLF2.out.trans (if_neg (fun h => h.elim h8 (fun h => h40 (HMM.out.mpr h)))))
  clear HLF2
  refine region_sk [0, 1, 2, 3, 4, 5, 6, 7, 8, 9, 10, 11, 12, 13, 14, 15, 16, 17, 18, 19, 20, 21, 22] [] hF fun C hC => ?_;clear hF;refine zm rfl rfl rfl ?_;refine zs1 46 rfl rfl ?_;refine zm rfl rfl rfl ?_;refine zs1 4 rfl rfl ?_;refine zs1 49 rfl rfl ?_;refine zs1 50 rfl rfl ?_;refine zs1 4 rfl rfl ?_;refine zs1 52 rfl rfl ?_;refine zs1 53 rfl rfl ?_;refine zs2 51 54 rfl rfl rfl ?_;refine zs1 4 rfl rfl ?_;refine zs1 56 rfl rfl ?_;refine zs1 57 rfl rfl ?_;refine zs1 4 rfl rfl ?_;refine zs1 59 rfl rfl ?_;refine zs1 60 rfl rfl ?_;refine zs1 4 rfl rfl ?_;refine zs1 62 rfl rfl ?_;refine zs1 63 rfl rfl ?_;refine Chain.step (v := ?_) rfl rfl rfl rfl ?_ ?_
  rotate_left
  · intro a hF w' hw
    have s55 := hF.slot 55 _ rfl
    have s58 := hF.slot 58 _ rfl
    have s61 := hF.slot 61 _ rfl
    have s64 := hF.slot 64 _ rfl
    cases hw rfl
    clear hF
    go_simp <;> with_reducible rfl
  refine zs1 65 rfl rfl ?_;refine zs2 48 66 rfl rfl rfl ?_;refine za rfl rfl rfl ?_;refine hC _ (fun a hF => ?_);clear hC C;refine seq_end ?_;replace hF := hF.kp [0, 4, 6, 45] rfl;refine hK _ _ ?_;clear hK;(try clear K)
  refine cond_no hF rfl ?_
  clear hmx hws h8i h40i HMM
  refine wp_seq_k (fun K hK => ?_);refine region_sk [0, 1] [2, 3, 4, 5, 6, 7, 8, 9, 10, 11, 12, 13, 14] hF fun C hC => ?_;clear hF;refine zs1 4 rfl rfl ?_;refine zs1 73 rfl rfl ?_;refine hC _ (fun a hF => ?_);clear hC C;refine seq_one ?_;refine ze1 74 rfl rfl rfl hF rfl rfl ?_;clear hF;refine fun a hF => ?_
  have HRH := Lib.hid (recs_alloc IntE w4 3 [l.height] #[.int .i64 l.height] rfl)
  have HBh := Lib.hid (Joins.below_alloc1 w4 (.cells #[.int .i64 l.height] 3))
  have HC5 := Lib.hid (HC4.out.down HBh.out)
  have HX5 := Lib.hid (HX4.out.down HBh.out)
  have HT5 : Hid (TUpd ChkT w (w4.alloc (.cells #[.int .i64 l.height] 3))) := HT4.out.trans (TUpd.of_below HBh.out)
  have HBR5 := Lib.hid (HBR.out.below HBh.out)
  have HCO := Lib.hid (coords_any _ _ _ 1 _ HRH.out (by simp))
  have HCE : Hid ([l.height].all coordB = coordB l.height) := by simp [Hid]
  have HBY := Lib.hid (show (fun b => !boxB b) = (fun b => !boxB b) from rfl)
  clear HC4 HX4 HT4 HBR HBh d0 d1 d2 d3 d4 d5 d6 d7
  generalize w4.alloc (.cells #[.int .i64 l.height] 3) = w5 at *
  refine seq_one ?_;refine op_call [_] rfl rfl hF rfl (by kernel_rfl) ⟨rfl, trivial⟩ (fun K hK => ?_);clear hF
  refine HCO.out.mono ?_
  rintro e w6 ⟨rfl, hb6⟩
  have HC6 := Lib.hid (HC5.out.down hb6)
  have HX6 := Lib.hid (HX5.out.down hb6)
  have HT6 : Hid (TUpd ChkT w w6) := HT5.out.trans (TUpd.of_below hb6)
  have HBR6 := Lib.hid (HBR5.out.below hb6)
  clear HC5 HX5 HT5 HBR5 hb6 HCO HRH HBY
  generalize [l.height].all coordB = yh at *
  rw [← HCE.out] at HLF3
  obtain ⟨d0, d1, d2, d3, d4, d5, d6, d7⟩ := HX6.out.cells
  obtain ⟨yb, hyb⟩ : ∃ yb, (l.aisles ++ l.pillars).any (fun b => !boxB b) = yb := ⟨_, rfl⟩
  obtain ⟨yd, hyd⟩ : ∃ yd, l.doors.any (fun p => !(coordB p.x && coordB p.y)) = yd := ⟨_, rfl⟩
  have HYB := Lib.hid hyb
  have HYD := Lib.hid hyd
  rw [hyb, hyd] at HLF3
  clear hyb hyd HCE
  cases yh
  · have HLF4 : Hid (levelFault h.levels n l = [⟨2, l.at', -1⟩]) := HLF3.out
    clear HLF3
    refine hK _ _ (fun a hF => ?_);clear hK K;refine seq_ck [4, 5, 6, 7, 8, 9, 10, 11, 12, 13, 14] [] hF fun C hC => ?_;clear hF;refine zs1 76 rfl rfl ?_;refine zm rfl rfl rfl ?_;refine zx rfl ?_;refine zx rfl ?_;refine zs2 78 80 rfl rfl rfl ?_;refine zm rfl rfl rfl ?_;refine zx rfl ?_;refine zx rfl ?_;refine zx rfl ?_;refine zs2 82 85 rfl rfl rfl ?_;refine za rfl rfl rfl ?_;refine hC _ (fun a hF => ?_);clear hC C;refine seq_end ?_;replace hF := hF.kp [0, 4, 72] rfl;refine hK _ _ ?_;clear hK;(try clear K)
    refine cond_yes hF rfl ?_
    refine region_sk [0, 1, 2] [3] hF fun C hC => ?_;clear hF;refine zm rfl rfl rfl ?_;refine zs1 4 rfl rfl ?_;refine zs1 88 rfl rfl ?_;refine hC _ (fun a hF => ?_);clear hC C;refine seq_one ?_;refine op_call [_, _, _, _] rfl rfl hF rfl (by kernel_rfl) ⟨rfl, rfl, rfl, rfl, trivial⟩ (fun K hK => ?_);clear hF
    refine (add_any w0 h g _ L 2 l.at' (-1) HC6.out (by omega)).mono ?_
    rintro e w9 ⟨rfl, hc9, ht9⟩
    refine hK _ _ (fun a hF => ?_);clear hK K;refine seq_end ?_;replace hF := hF.kp [] rfl;(try simp only [then_exit, block_exit, block_norm, goto_norm, ↓reduceIte, Nat.reduceEqDiff]);refine end_fr (fn := Try.f22) (rs := []) rfl [] hF trivial ?_
    refine ⟨rfl, ?_, HT6.out.trans ht9⟩
    rw [HLF4.out]
    exact hc9
  refine hK _ _ (fun a hF => ?_);clear hK K;refine seq_ck [4, 5, 6] [7, 8, 9, 10, 11, 12, 13, 14] hF fun C hC => ?_;clear hF;refine zs1 76 rfl rfl ?_;refine zm rfl rfl rfl ?_;refine zm rfl rfl rfl ?_;refine hC _ (fun a hF => ?_);clear hC C;refine seq_one ?_;refine op_call [_, _] rfl rfl hF rfl (by kernel_rfl) ⟨rfl, rfl, trivial⟩ (fun K hK => ?_);clear hF
  refine (contains_box w6 ba bl bc (l.aisles ++ l.pillars) HBR6.out (by have := HBL.out; omega) 41 [] (fun b => !boxB b) (by kernel_rfl) (fun wx hb j hj => cl_box wx (l.aisles ++ l.pillars)[j])).mono ?_
  rintro e w7 ⟨rfl, hb7⟩
  have HC7 := Lib.hid (HC6.out.down hb7)
  have HX7 := Lib.hid (HX6.out.down hb7)
  have HT7 : Hid (TUpd ChkT w w7) := HT6.out.trans (TUpd.of_below hb7)
  clear HC6 HX6 HT6 hb7 HBR6 d0 d1 d2 d3 d4 d5 d6 d7
  obtain ⟨d0, d1, d2, d3, d4, d5, d6, d7⟩ := HX7.out.cells
  rw [HYB.out]
  cases yb
  rotate_left
  · have HLF4 : Hid (levelFault h.levels n l = [⟨2, l.at', -1⟩]) := HLF3.out
    clear HLF3
    refine hK _ _ (fun a hF => ?_);clear hK K;refine seq_ck [8, 9, 10, 11, 12, 13, 14] [] hF fun C hC => ?_;clear hF;refine zs2 78 80 rfl rfl rfl ?_;refine zm rfl rfl rfl ?_;refine zx rfl ?_;refine zx rfl ?_;refine zx rfl ?_;refine zs2 82 85 rfl rfl rfl ?_;refine za rfl rfl rfl ?_;refine hC _ (fun a hF => ?_);clear hC C;refine seq_end ?_;replace hF := hF.kp [0, 4, 72] rfl;refine hK _ _ ?_;clear hK;(try clear K)
    refine cond_yes hF rfl ?_
    refine region_sk [0, 1, 2] [3] hF fun C hC => ?_;clear hF;refine zm rfl rfl rfl ?_;refine zs1 4 rfl rfl ?_;refine zs1 88 rfl rfl ?_;refine hC _ (fun a hF => ?_);clear hC C;refine seq_one ?_;refine op_call [_, _, _, _] rfl rfl hF rfl (by kernel_rfl) ⟨rfl, rfl, rfl, rfl, trivial⟩ (fun K hK => ?_);clear hF
    refine (add_any w0 h g _ L 2 l.at' (-1) HC7.out (by omega)).mono ?_
    rintro e w9 ⟨rfl, hc9, ht9⟩
    refine hK _ _ (fun a hF => ?_);clear hK K;refine seq_end ?_;replace hF := hF.kp [] rfl;(try simp only [then_exit, block_exit, block_norm, goto_norm, ↓reduceIte, Nat.reduceEqDiff]);refine end_fr (fn := Try.f22) (rs := []) rfl [] hF trivial ?_
    refine ⟨rfl, ?_, HT7.out.trans ht9⟩
    rw [HLF4.out]
    exact hc9
  refine hK _ _ (fun a hF => ?_);clear hK K;refine seq_ck [8, 9, 10, 11] [12, 13, 14] hF fun C hC => ?_;clear hF;refine zs2 78 80 rfl rfl rfl ?_;refine zm rfl rfl rfl ?_;refine zs1 4 rfl rfl ?_;refine zs1 83 rfl rfl ?_;refine hC _ (fun a hF => ?_);clear hC C;refine seq_one ?_;refine op_call [_, _] rfl rfl hF rfl (by kernel_rfl) ⟨rfl, rfl, trivial⟩ (fun K hK => ?_);clear hF
  refine (contains_pnt w7 l.da l.dn l.dc l.doors (HLI.out.below HC7.out.below).doors HLI.out.dn 43 [] (fun p => !(coordB p.x && coordB p.y)) (by kernel_rfl) (fun wx hb j hj => cl_door wx l.doors[j])).mono ?_
  rintro e w8 ⟨rfl, hb8⟩
  have HC8 := Lib.hid (HC7.out.down hb8)
  have HX8 := Lib.hid (HX7.out.down hb8)
  have HT8 : Hid (TUpd ChkT w w8) := HT7.out.trans (TUpd.of_below hb8)
  clear HC7 HX7 HT7 hb8 d0 d1 d2 d3 d4 d5 d6 d7
  obtain ⟨d0, d1, d2, d3, d4, d5, d6, d7⟩ := HX8.out.cells
  rw [HYD.out]
  cases yd
  · have HLF4 : Hid (levelFault h.levels n l = []) := HLF3.out
    refine hK _ _ (fun a hF => ?_);clear hK K;refine seq_ck [13, 14] [] hF fun C hC => ?_;clear hF;refine zs2 82 85 rfl rfl rfl ?_;refine za rfl rfl rfl ?_;refine hC _ (fun a hF => ?_);clear hC C;refine seq_end ?_;replace hF := hF.kp [0, 4, 72] rfl;refine hK _ _ ?_;clear hK;(try clear K)
    refine cond_no hF rfl ?_
    refine wp_skip ?_
    (try simp only [then_exit, block_exit, block_norm, goto_norm, ↓reduceIte, Nat.reduceEqDiff]);refine end_fr (fn := Try.f22) (rs := []) rfl [] hF trivial ?_
    refine ⟨rfl, ?_, HT8.out⟩
    rw [HLF4.out, List.append_nil]
    exact HC8.out
  · have HLF4 : Hid (levelFault h.levels n l = [⟨2, l.at', -1⟩]) := HLF3.out
    refine hK _ _ (fun a hF => ?_);clear hK K;refine seq_ck [13, 14] [] hF fun C hC => ?_;clear hF;refine zs2 82 85 rfl rfl rfl ?_;refine za rfl rfl rfl ?_;refine hC _ (fun a hF => ?_);clear hC C;refine seq_end ?_;replace hF := hF.kp [0, 4, 72] rfl;refine hK _ _ ?_;clear hK;(try clear K)
    refine cond_yes hF rfl ?_
    refine region_sk [0, 1, 2] [3] hF fun C hC => ?_;clear hF;refine zm rfl rfl rfl ?_;refine zs1 4 rfl rfl ?_;refine zs1 88 rfl rfl ?_;refine hC _ (fun a hF => ?_);clear hC C;refine seq_one ?_;refine op_call [_, _, _, _] rfl rfl hF rfl (by kernel_rfl) ⟨rfl, rfl, rfl, rfl, trivial⟩ (fun K hK => ?_);clear hF
    refine (add_any w0 h g _ L 2 l.at' (-1) HC8.out (by omega)).mono ?_
    rintro e w9 ⟨rfl, hc9, ht9⟩
    refine hK _ _ (fun a hF => ?_);clear hK K;refine seq_end ?_;replace hF := hF.kp [] rfl;(try simp only [then_exit, block_exit, block_norm, goto_norm, ↓reduceIte, Nat.reduceEqDiff]);refine end_fr (fn := Try.f22) (rs := []) rfl [] hF trivial ?_
    refine ⟨rfl, ?_, HT8.out.trans ht9⟩
    rw [HLF4.out]
    exact hc9
end Go.Proofs.Ytmcdhggnpfhlmaa
