/- hall: Build: at most 4000 places; HallMatchesReference: the walk. -/
import Derived.Test.YtmcdhggnpfhlmaaGreatQHMR21
import Derived.Test.YtmcdhggnpfhlmaaGreatQHMR23
import Derived.Test.YtmcdhggnpfhlmaaGreatQHMR24
import Derived.Test.YtmcdhggnpfhlmaaGreatQHMR25
import Derived.Test.YtmcdhggnpfhlmaaGreatQHMR26
import Derived.Test.YtmcdhggnpfhlmaaGreatQHMR42

set_option linter.unusedVariables false
set_option linter.unusedSimpArgs false
namespace Go.Proofs.YtmcdhggnpfhlmaaGreat
open Go.RowKit Go.IntWalk
set_option linter.unusedSimpArgs false
set_option linter.unusedVariables false

theorem build_len {h : HallR} : (buildS h).1.length ≤ 4000 := by
 unfold buildS
 by_cases hf : faultsS h = []
 ·
  rw [if_pos hf]
  have hs : singleS h = [] := by
   apply Classical.byContradiction
   intro hn
   unfold faultsS at hf
   rw [if_pos hn] at hf
   exact hn hf
  have hc : ¬ 4000 < countS h := fun hc => by
   unfold faultsS at hf
   rw [if_neg (fun e => e hs)] at hf
   by_cases hst : ¬ (coordB h.stage.x && coordB h.stage.y) = true
   ·
    rw [if_pos hst] at hf
    cases hf
   ·
    rw [if_neg hst, if_pos hc] at hf
    cases hf
  have := places_len (noSingle hs)
  show (placesS h).length ≤ 4000
  omega
 ·
  rw [if_neg hf]
  exact Nat.zero_le _
end Go.Proofs.YtmcdhggnpfhlmaaGreat

namespace Go.Proofs.YtmcdhggnpfhlmaaGreat
open Go.RowKit Go.IntWalk
set_option linter.unusedSimpArgs false
set_option linter.unusedVariables false

theorem rflt_len {w : World} {h : HallR} (hi : h.In w) (hs : h.Sm) : (faultsS h).length ≤ 1000000 := by
 have hl : h.levels.length ≤ 12 := by have := hi.levels.1; have := hs.ln; omega
 unfold faultsS
 split
 ·
  rw [← sLev_all]
  have := sLev_len h h.levels.length hs hi
  omega
 split
 ·
  simp
 split
 ·
  simp
 ·
  have h1 := sev_len_take (h := h) (c := 20000) (fun l hl => by
   have h1 := hi.lev l hl
   have h2 := hs.lev l hl
   have h3 := h2.rest
   exact severalS_len (by rw [h1.blocks.1]; exact h2.b) (fun b hb => by rw [(h1.blk b hb).1.1]; exact hs.rn l hl b hb) (by rw [h1.areas.1]; omega)) h.levels.length
  rw [List.take_length] at h1
  omega
theorem rbld_len {w : World} {h : HallR} (hi : h.In w) (hs : h.Sm) : (buildS h).1.length ≤ 9223372036854775807 ∧ (buildS h).2.length ≤ 9223372036854775807 := by
 refine ⟨by have := build_len (h := h); omega, ?_⟩
 have := rflt_len hi hs
 unfold buildS
 split
 ·
  simp
 ·
  show (faultsS h).length ≤ _
  omega
/-- The plan with this level alone. -/
def wayH (l : LevR) (ga : Nat) : HallR := ⟨[], ⟨0, 0⟩, some ⟨ga, 0, none⟩, 1, 1, [l]⟩
/-- What stays while the law runs. -/
structure LwS (w0 w : World) (h : HallR) (gh : Nat) (l : LevR) (gl : Nat) : Prop where
 below : Below w0.heap.size w0 w
 hall : HallIn w gh h
 lev : LevIn w gl l
theorem LwS.down {w0 w w' : World} {h : HallR} {gh gl : Nat} {l : LevR} (hs : LwS w0 w h gh l gl) (hb : Below w.heap.size w w') : LwS w0 w' h gh l gl := ⟨hs.below.trans (hb.mono hs.below.size), hs.hall.down hb, hs.lev.down hb⟩
set_option maxRecDepth 100000 in
set_option maxHeartbeats 64000000 in
theorem matches_law (w : World) (h : HallR) (l : LevR) (hg : HallGot w h) (hl : LevGot w l) :
  Calls Tryz.prog 3 #[.agg #[.string (bs h.name), .int .i64 h.stage.x, .int .i64 h.stage.y, .slice h.la h.ln h.lc], .agg #[.string (bs l.name), .int .i64 l.height, .slice l.ba l.bn l.bc, .slice l.aa l.an l.ac, .slice l.sa l.sn l.sc, .slice l.pa l.pn l.pc, .slice l.da l.dn l.dc, .int .i64 l.at']] w fun e w' => e = .returned (.bool true) ∧ Below w.heap.size w w' := by
 have HG := Lib.hid hg
 have HL := Lib.hid hl
 have H0 : Hid (∀ x ∈ h.levels, ∀ b ∈ x.blocks, b.ra = none → b.rc = 0) := fun x hx b hb => ((hg.nm x hx).2.1 b hb).2.2
 clear hg hl
 refine enter_fr (N := 79) [.agg #[.string (bs h.name), .int .i64 h.stage.x, .int .i64 h.stage.y, .slice h.la h.ln h.lc], .agg #[.string (bs l.name), .int .i64 l.height, .slice l.ba l.bn l.bc, .slice l.aa l.an l.ac, .slice l.sa l.sn l.sc, .slice l.pa l.pn l.pc, .slice l.da l.dn l.dc, .int .i64 l.at']] (Tryz.func3) rfl Tryz.ntmps3 (by rfl) (fun a hF => ?_);replace hF := hF.kp [0, 1] rfl;refine wp_seq_k (fun K hK => ?_);refine region_seq (l := [0, 1, 2]) (by kernel_rfl) ?_;refine seq_one ?_;revert hF;refine qe1 fun a hF => ?_
 have HX1 : Hid (HallIn (w.alloc (.cells #[.string (bs h.name), .int .i64 h.stage.x, .int .i64 h.stage.y, .slice h.la h.ln h.lc] 26)) w.heap.size h) := World.alloc_heap_new w _
 have HB1 : Hid (Below w.heap.size w (w.alloc (.cells #[.string (bs h.name), .int .i64 h.stage.x, .int .i64 h.stage.y, .slice h.la h.ln h.lc] 26))) := Joins.below_alloc1 w _
 generalize w.alloc (.cells #[.string (bs h.name), .int .i64 h.stage.x, .int .i64 h.stage.y, .slice h.la h.ln h.lc] 26) = w1 at *
 obtain ⟨gh, hgh⟩ : ∃ g, g = w.heap.size := ⟨_, rfl⟩
 rw [← hgh] at hF HX1
 clear hgh
 refine seq_one ?_;revert hF;refine qe1 fun a hF => ?_
 have HX2 : Hid (LevIn (w1.alloc (.cells #[.string (bs l.name), .int .i64 l.height, .slice l.ba l.bn l.bc, .slice l.aa l.an l.ac, .slice l.sa l.sn l.sc, .slice l.pa l.pn l.pc, .slice l.da l.dn l.dc, .int .i64 l.at'] 32)) w1.heap.size l) := World.alloc_heap_new w1 _
 have hb : Below w1.heap.size w1 (w1.alloc (.cells #[.string (bs l.name), .int .i64 l.height, .slice l.ba l.bn l.bc, .slice l.aa l.an l.ac, .slice l.sa l.sn l.sc, .slice l.pa l.pn l.pc, .slice l.da l.dn l.dc, .int .i64 l.at'] 32)) := Joins.below_alloc1 w1 _
 generalize w1.alloc (.cells #[.string (bs l.name), .int .i64 l.height, .slice l.ba l.bn l.bc, .slice l.aa l.an l.ac, .slice l.sa l.sn l.sc, .slice l.pa l.pn l.pc, .slice l.da l.dn l.dc, .int .i64 l.at'] 32) = w2 at *
 obtain ⟨gl, hgl⟩ : ∃ g, g = w1.heap.size := ⟨_, rfl⟩
 rw [← hgl] at hF HX2
 clear hgl
 have HS : Hid (LwS w w2 h gh l gl) := ⟨HB1.out.trans (hb.mono HB1.out.size), HX1.out.down hb, HX2.out⟩
 clear HX1 HB1 HX2 hb
 revert hF;refine zre 2 [2] [2, 3] fun a hF => ?_;refine hK _ _ ?_;clear hK;refine wp_seq_k (fun K hK => ?_);refine region_seq (l := [0, 1]) (by kernel_rfl) ?_;revert hF;refine zos fun K hK => ?_
 refine (head_any w2).mono ?_
 rintro e w3 ⟨rfl, hb⟩
 have HS3 := Lib.hid (HS.out.down hb)
 clear HS hb
 refine hK _ _ (fun a hF => ?_);clear hK K;revert hF;refine zre 1 [2] [2, 3, 5] fun a hF => ?_;refine hK _ _ ?_;clear hK;refine wp_seq_k (fun K hK => ?_);refine wp_seq_k (fun K hK => ?_)
 obtain ⟨c0, c1, c2, c3⟩ := HS3.out.hall.cells
 revert hF;refine zrp [4] [1, 2, 3, 4, 5, 6, 7, 8, 9] fun a hF => ?_;revert hF;refine zos fun K hK => ?_
 refine (few_any w3 h (HG.out.hin.below HS3.out.below) HG.out.reach).mono ?_
 rintro e w4 ⟨b, rfl, hfew, hb⟩
 have HS4 := Lib.hid (HS3.out.down hb)
 have HFW := Lib.hid hfew
 clear HS3 hb hfew c0 c1 c2 c3
 cases b
 ·
  refine hK _ _ (fun a hF => ?_);clear hK K;revert hF;refine zre 2 [4, 1, 0, 0, 0, 0, 0, 5] [2, 3, 5, 23] fun a hF => ?_;refine hK _ _ ?_;clear hK
  refine cond_yes hF rfl ?_
  revert hF;refine zrs [1, 2] [4] fun a hF => ?_;refine wp_ret ?_;(try simp only [then_ret, block_ret, goto_ret]);revert hF;refine zq ?_
  exact ⟨rfl, HS4.out.below⟩
 have HSM := Lib.hid (HFW.out rfl).sm
 clear HFW
 obtain ⟨q0, q1, q2, q3, q4, q5, q6, q7⟩ := HS4.out.lev.cells
 refine hK _ _ (fun a hF => ?_);clear hK K;revert hF;refine zrc 2 [4, 1, 4] [5, 6, 7, 8, 9] fun a hF => ?_;refine seq_one ?_;revert hF;refine qe1 fun a hF => ?_
 have HA5 : Hid (LevIn (w4.alloc (.cells #[.string (bs l.name), .int .i64 l.height, .slice l.ba l.bn l.bc, .slice l.aa l.an l.ac, .slice l.sa l.sn l.sc, .slice l.pa l.pn l.pc, .slice l.da l.dn l.dc, .int .i64 l.at'] 32)) w4.heap.size l) := World.alloc_heap_new w4 _
 have hb : Below w4.heap.size w4 (w4.alloc (.cells #[.string (bs l.name), .int .i64 l.height, .slice l.ba l.bn l.bc, .slice l.aa l.an l.ac, .slice l.sa l.sn l.sc, .slice l.pa l.pn l.pc, .slice l.da l.dn l.dc, .int .i64 l.at'] 32)) := Joins.below_alloc1 w4 _
 have HS5 := Lib.hid (HS4.out.down hb)
 generalize w4.alloc (.cells #[.string (bs l.name), .int .i64 l.height, .slice l.ba l.bn l.bc, .slice l.aa l.an l.ac, .slice l.sa l.sn l.sc, .slice l.pa l.pn l.pc, .slice l.da l.dn l.dc, .int .i64 l.at'] 32) = w5 at *
 obtain ⟨ga, hga⟩ : ∃ g, g = w4.heap.size := ⟨_, rfl⟩
 rw [← hga] at hF HA5
 clear hga HS4 hb q0 q1 q2 q3 q4 q5 q6 q7
 have HHI : Hid ((wayH l ga).In w5) := ⟨recs_one HA5.out rfl, (by decide : 1 ≤ 9223372036854775807), fun l' hl' => by
  rw [List.mem_singleton.1 hl']
  exact HL.out.1.below HS5.out.below⟩
 have HRE : Hid (Reach (wayH l ga)) := fun l' hl' => by
  rw [List.mem_singleton.1 hl']
  exact HL.out.2.2
 revert hF;refine zrc 6 [4] [7, 8, 9] fun a hF => ?_;revert hF;refine zos fun K hK => ?_
 refine (few_any w5 (wayH l ga) HHI.out HRE.out).mono ?_
 rintro e w6 ⟨b, rfl, hfew, hb⟩
 have HS6 := Lib.hid (HS5.out.down hb)
 have HFW := Lib.hid hfew
 clear HS5 hb hfew HA5 HHI HRE
 cases b
 ·
  refine hK _ _ (fun a hF => ?_);clear hK K;revert hF;refine zre 8 [4, 5] [2, 3, 5, 23] fun a hF => ?_;refine hK _ _ ?_;clear hK
  refine cond_yes hF rfl ?_
  revert hF;refine zrs [1, 2] [4] fun a hF => ?_;refine wp_ret ?_;(try simp only [then_ret, block_ret, goto_ret]);revert hF;refine zq ?_
  exact ⟨rfl, HS6.out.below⟩
 refine hK _ _ (fun a hF => ?_);clear hK K;revert hF;refine zre 8 [4, 5] [2, 3, 5, 23] fun a hF => ?_;refine hK _ _ ?_;clear hK
 refine cond_no hF rfl ?_
 refine wp_skip ?_
 refine hK _ _ ?_;clear hK
 have hrest : l.sn + l.pn + l.dn + l.an ≤ 60 := ((HFW.out rfl).sm.lev l (List.mem_cons_self ..)).rest
 clear HFW
 refine wp_seq_k (fun K hK => ?_)
 obtain ⟨c0, c1, c2, c3⟩ := HS6.out.hall.cells
 revert hF;refine zrp [4] [1, 2, 3, 4, 5, 6] fun a hF => ?_;revert hF;refine zos fun K hK => ?_
 refine (build_any w6 h (HG.out.hin.below HS6.out.below) HSM.out HG.out.ac).mono ?_
 rintro e w7 ⟨⟨pa, pn, pc, fa, fm, fd, rfl, hp, hf⟩, hb⟩
 have HS7 : Hid (LwS w w7 h gh l gl ∧ Recs PlaceE w7 pa pn (buildS h).1 ∧ Recs FaultE w7 fa fm (buildS h).2) := ⟨HS6.out.down hb, hp, hf⟩
 clear HS6 hb hp hf c0 c1 c2 c3
 refine hK _ _ (fun a hF => ?_);clear hK K;revert hF;refine zre 2 [1, 4, 4, 2, 2] [2, 3, 5, 6, 7] fun a hF => ?_;refine hK _ _ ?_;clear hK;refine wp_seq_k (fun K hK => ?_)
 obtain ⟨c0, c1, c2, c3⟩ := HS7.out.1.hall.cells
 revert hF;refine zrp [4] [1, 2, 3, 4, 5, 6] fun a hF => ?_;revert hF;refine zos fun K hK => ?_
 refine (rbuild_any w7 h (HG.out.hin.below HS7.out.1.below) HSM.out H0.out).mono ?_
 rintro e w8 ⟨⟨v, u, rfl, hv, hu⟩, hb⟩
 have HS8 : Hid (LwS w w8 h gh l gl ∧ (Recs PlaceE w8 pa pn (buildS h).1 ∧ Recs FaultE w8 fa fm (buildS h).2) ∧ Rcs PlaceE w8 v (buildS h).1 ∧ Rcs FaultE w8 u (buildS h).2) := ⟨HS7.out.1.down hb, ⟨HS7.out.2.1.below hb, HS7.out.2.2.below hb⟩, hv, hu⟩
 clear HS7 hb hv hu c0 c1 c2 c3
 refine hK _ _ (fun a hF => ?_);clear hK K;revert hF;refine zre 2 [1, 4, 4, 2, 2] [3, 5, 6, 7, 8, 9] fun a hF => ?_;refine hK _ _ ?_;clear hK;refine wp_seq_k (fun K hK => ?_)
 obtain ⟨q0, q1, q2, q3, q4, q5, q6, q7⟩ := HS8.out.1.lev.cells
 revert hF;refine zrp [4] [1, 2] fun a hF => ?_;revert hF;refine zos fun K hK => ?_
 refine (reached_any w8 l (HL.out.1.below HS8.out.1.below).aisles (HL.out.1.below HS8.out.1.below).doors (by omega) (by omega)).mono ?_
 rintro e w9 ⟨⟨gr, rfl, _, hr⟩, hb⟩
 have HS9 : Hid (LwS w w9 h gh l gl ∧ ((Recs PlaceE w9 pa pn (buildS h).1 ∧ Recs FaultE w9 fa fm (buildS h).2) ∧ Rcs PlaceE w9 v (buildS h).1 ∧ Rcs FaultE w9 u (buildS h).2) ∧ BoolRow w9 gr 4 (reachS l.aisles l.doors)) := ⟨HS8.out.1.down hb, ⟨⟨HS8.out.2.1.1.below hb, HS8.out.2.1.2.below hb⟩, HS8.out.2.2.1.below hb, HS8.out.2.2.2.below hb⟩, hr⟩
 clear HS8 hb hr q0 q1 q2 q3 q4 q5 q6 q7
 refine hK _ _ (fun a hF => ?_);clear hK K;revert hF;refine zre 2 [2] [3, 5, 6, 7, 8, 9, 10] fun a hF => ?_;refine hK _ _ ?_;clear hK;refine wp_seq_k (fun K hK => ?_)
 obtain ⟨q0, q1, q2, q3, q4, q5, q6, q7⟩ := HS9.out.1.lev.cells
 revert hF;refine zrp [4] [1, 2] fun a hF => ?_;revert hF;refine zos fun K hK => ?_
 refine (rreached_any w9 l (HL.out.1.below HS9.out.1.below).aisles (HL.out.1.below HS9.out.1.below).doors (by omega) (by omega)).mono ?_
 rintro e wa ⟨⟨gs, rfl, _, hr⟩, hb⟩
 have HS : Hid (Below w.heap.size w wa ∧ ((Recs PlaceE wa pa pn (buildS h).1 ∧ Recs FaultE wa fa fm (buildS h).2) ∧ Rcs PlaceE wa v (buildS h).1 ∧ Rcs FaultE wa u (buildS h).2) ∧ BoolRow wa gr 4 (reachS l.aisles l.doors) ∧ BoolRow wa gs 4 (reachS l.aisles l.doors)) := ⟨HS9.out.1.below.trans (hb.mono HS9.out.1.below.size), ⟨⟨HS9.out.2.1.1.1.below hb, HS9.out.2.1.1.2.below hb⟩, HS9.out.2.1.2.1.below hb, HS9.out.2.1.2.2.below hb⟩, BoolRow.of_heap HS9.out.2.2 (hb.block gr HS9.out.2.2.lt), hr⟩
 clear HS9 hb hr q0 q1 q2 q3 q4 q5 q6 q7
 refine hK _ _ (fun a hF => ?_);clear hK K;revert hF;refine zre 2 [2] [5, 6, 7, 8, 9, 10, 11] fun a hF => ?_;refine hK _ _ ?_;clear hK
 have hsn : l.sn ≤ 60 := by omega
 have HRN : Hid ((reachS l.aisles l.doors).length = l.sn) := by
  show _ = _
  rw [reachS_len]
  exact HL.out.1.aisles.1
 generalize reachS l.aisles l.doors = R at *
 have HPB := Lib.hid (rbld_len HG.out.hin HSM.out)
 generalize (buildS h).1 = Q1 at *
 generalize (buildS h).2 = Q2 at *
 refine seq_cut (fun a' w' => FrF 79 [] [(5, .bool true), (6, .slice pa pn pc), (7, .slice fa fm fd), (8, v), (9, u), (10, .slice (some ⟨gr, 0, none⟩) l.sn l.sn), (11, .slice (some ⟨gs, 0, none⟩) l.sn l.sn)] a' ∧ Hid (Below w.heap.size w w' ∧ ((Recs PlaceE w' pa pn Q1 ∧ Recs FaultE w' fa fm Q2) ∧ Rcs PlaceE w' v Q1 ∧ Rcs FaultE w' u Q2) ∧ BoolRow w' gr 4 R ∧ BoolRow w' gs 4 R)) (fun KAi hKAi => ?_) ?_
 ·
  skip
  revert hF;refine zrs [2] [5, 6, 7, 8, 9, 10, 11, 12] fun a hF => ?_
  refine wp_block ?_
  refine loop_fr (fun qi a' w' => ∃ i : Nat, i + qi = l.sn ∧ FrF 79 [] [(5, .bool true), (6, .slice pa pn pc), (7, .slice fa fm fd), (8, v), (9, u), (10, .slice (some ⟨gr, 0, none⟩) l.sn l.sn), (11, .slice (some ⟨gs, 0, none⟩) l.sn l.sn), (12, .int .i64 i)] a' ∧ Hid (Below w.heap.size w w' ∧ ((Recs PlaceE w' pa pn Q1 ∧ Recs FaultE w' fa fm Q2) ∧ Rcs PlaceE w' v Q1 ∧ Rcs FaultE w' u Q2) ∧ BoolRow w' gr 4 R ∧ BoolRow w' gs 4 R)) (l.sn) ⟨0, by omega, hF, HS⟩ ?_
  clear hF HS
  rintro rki a wr ⟨i, hiki, hF, HS⟩ KBi hKBi
  refine wp_seq_k (fun K hK => ?_)
  by_cases hlt : i < l.sn
  rotate_left
  ·
   have hlti : ¬ (i : Int) < (l.sn : Nat) := by omega

   revert hF;refine zrs [1, 1, 4, 5] [5, 6, 7, 8, 9, 10, 11, 12, 42] fun a hF => ?_
   refine cond_no hF rfl ?_
   refine wp_exit ?_
   skip
   exact hKAi _ _ ⟨hF.sub ⟨rfl, rfl, rfl, rfl, rfl, rfl, rfl, trivial⟩, HS⟩
  have hlti : (i : Int) < (l.sn : Nat) := by omega

  revert hF;refine zrs [1, 1, 4, 5] [5, 6, 7, 8, 9, 10, 11, 12, 42] fun a hF => ?_
  refine cond_yes hF rfl ?_
  refine wp_skip ?_
  refine hK _ _ ?_;clear hK;replace hF := hF.kp [5, 6, 7, 8, 9, 10, 11, 12] rfl
  clear hKAi
  refine seq_cut (fun a' w' => FrF 79 [] [(5, .bool true), (6, .slice pa pn pc), (7, .slice fa fm fd), (8, v), (9, u), (10, .slice (some ⟨gr, 0, none⟩) l.sn l.sn), (11, .slice (some ⟨gs, 0, none⟩) l.sn l.sn), (12, .int .i64 i)] a' ∧ Hid (Below w.heap.size w w' ∧ ((Recs PlaceE w' pa pn Q1 ∧ Recs FaultE w' fa fm Q2) ∧ Rcs PlaceE w' v Q1 ∧ Rcs FaultE w' u Q2) ∧ BoolRow w' gr 4 R ∧ BoolRow w' gs 4 R)) (fun KCi hKCi => ?_) ?_
  rotate_left
  ·
   clear hF HS
   rintro a w' ⟨hF, HS⟩
   have hws : IntKind.i64.wrap ((i : Int) + 1) = ((i + 1 : Nat) : Int) := wrap_succ (by omega)
   revert hF;refine zrg [1, 4, 2] [5, 6, 7, 8, 9, 10, 11, 12] fun a hF => ?_
   exact hKBi (l.sn - (i + 1)) _ _ (by omega) ⟨i + 1, by omega, hF, HS⟩
  clear hKBi hiki
  refine wp_block ?_
  have hin : i < R.length := by rw [HRN.out]; exact hlt
  have HSd : Hid (Below w.heap.size w wr.drew ∧ ((Recs PlaceE wr.drew pa pn Q1 ∧ Recs FaultE wr.drew fa fm Q2) ∧ Rcs PlaceE wr.drew v Q1 ∧ Rcs FaultE wr.drew u Q2) ∧ BoolRow wr.drew gr 4 R ∧ BoolRow wr.drew gs 4 R) := ⟨Below.trans HS.out.1 (below_d ((Below.refl _ wr).mono HS.out.1.size)), ⟨⟨HS.out.2.1.1.1.below (below_d (Below.refl _ _)), HS.out.2.1.1.2.below (below_d (Below.refl _ _))⟩, HS.out.2.1.2.1.below (below_d (Below.refl _ _)), HS.out.2.1.2.2.below (below_d (Below.refl _ _))⟩, HS.out.2.2.1, HS.out.2.2.2⟩
  clear HS
  have c1 := HSd.out.2.2.1.cell i hin
  have c2 := HSd.out.2.2.2.cell i hin
  have hnn : ((l.sn : Int) != (l.sn : Int)) = false := by simp
  generalize bx R i = d at *
  have hdd : (d != d) = false := by cases d <;> rfl
  refine wp_seq_k (fun K hK => ?_);refine region_any (by kernel_rfl) ?_;revert hF;refine zrb (fuel := 0) [1, 41, 65, 105, 138, 161, 193, 225, 266, 308, 321, 353, 394, 436, 458, 490] [5, 6, 7, 8, 9, 10, 11, 12, 60] fun a hF => ?_;refine hK _ _ ?_;clear hK
  refine cond_no hF rfl ?_
  refine wp_skip ?_
  exact hKCi _ _ ⟨hF.sub ⟨rfl, rfl, rfl, rfl, rfl, rfl, rfl, rfl, trivial⟩, HSd⟩
 clear hF HS
 rintro a wb ⟨hF, HS⟩
 have HPN : Hid (Q1.length = pn) := HS.out.2.1.1.1.1
 obtain ⟨va, vc, rfl, hv, _⟩ := HS.out.2.1.2.1
 obtain ⟨ua, uc, rfl, hu, _⟩ := HS.out.2.1.2.2
 have HV := Lib.hid hv
 have HU := Lib.hid hu
 clear hv hu
 refine wp_seq_k (fun K hK => ?_)
 have hnn : ((l.sn : Int) == (l.sn : Int)) = true := by simp
 revert hF;refine zrp [1, 1, 1, 4, 1, 4, 5, 5, 1, 1, 1] [11, 12, 13, 14, 15, 16, 17, 18] fun a hF => ?_;revert hF;refine zos fun K hK => ?_
 have hC := same_plc wb pa va pn pc Q1.length vc Q1 Q1 HS.out.2.1.1.1 HV.out (by have := HPB.out.1; have := HPN.out; omega) HPB.out.1
 rw [decide_eq_true rfl] at hC
 refine hC.mono ?_
 rintro e wc ⟨rfl, hb⟩
 have HB : Hid (Below w.heap.size w wc ∧ Recs FaultE wc fa fm Q2 ∧ Recs FaultE wc ua Q2.length Q2) := ⟨Below.trans HS.out.1 (hb.mono HS.out.1.size), HS.out.2.1.1.2.below hb, HU.out.below hb⟩
 clear hC HS HV HU hb
 refine hK _ _ (fun a hF => ?_);clear hK K;revert hF;refine zrc 12 [5, 1, 1, 1] [16, 17, 18] fun a hF => ?_;revert hF;refine zos fun K hK => ?_
 have hC := same_flt wc fa ua fm fd Q2.length uc Q2 Q2 HB.out.2.1 HB.out.2.2 (by have := HPB.out.2; have := HB.out.2.1.1; omega) HPB.out.2
 rw [decide_eq_true rfl] at hC
 refine hC.mono ?_
 rintro e wd ⟨rfl, hb⟩
 have HBE : Hid (Below w.heap.size w wd) := Below.trans HB.out.1 (hb.mono HB.out.1.size)
 clear hC HB hb
 refine hK _ _ (fun a hF => ?_);clear hK K;revert hF;refine zre 17 [5, 2] [4] fun a hF => ?_;refine hK _ _ ?_;clear hK;refine wp_ret ?_;(try simp only [then_ret, block_ret, goto_ret]);revert hF;refine zq ?_
 exact ⟨rfl, HBE.out⟩
end Go.Proofs.YtmcdhggnpfhlmaaGreat
