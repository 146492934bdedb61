/- hall: the reference: single; hall: the reference: Count. -/
import Derived.Test.YtmcdhggnpfhlmaaGreatQHMR33
import Derived.Test.YtmcdhggnpfhlmaaGreatQHMR34

set_option linter.unusedVariables false
set_option linter.unusedSimpArgs false
namespace Go.Proofs.YtmcdhggnpfhlmaaGreat
open Go.RowKit Go.IntWalk
set_option linter.unusedSimpArgs false
set_option linter.unusedVariables false

/-- What single works on: the plan, the list of faults. -/
structure SgS (w0 w : World) (h : HallR) (gh : Nat) (v : Value) (L : List FaultR) : Prop where
 below : Below w0.heap.size w0 w
 hall : HallIn w gh h
 row : w.ownsRow w0.heap.size 55 3 v L.length (flat FaultE L)
theorem SgS.down {w0 w w' : World} {h : HallR} {gh : Nat} {v : Value} {L : List FaultR} (hs : SgS w0 w h gh v L) (hb : Below w.heap.size w w') : SgS w0 w' h gh v L :=
 ⟨hs.below.trans (hb.mono hs.below.size), hs.hall.down hb, row_of_heap hs.row fun b h => hb.block b (hs.row.lt b h).2⟩
theorem sg_add (w0 w : World) (h : HallR) (gh : Nat) (v : Value) (L M : List FaultR) (hm : OneF M) (hs : SgS w0 w h gh v L) (hl : L.length ≤ 900000) :
  Calls Tryz.prog 83 #[v, .agg #[.int .i64 (hdF M).err, .int .i64 (hdF M).at', .int .i64 (hdF M).other]] w fun e w' => ∃ v', e = .returned v' ∧ SgS w0 w' h gh v' (L ++ M) ∧ TUpd (fun T => T = 55) w w' := by
 refine (radd_any w w0.heap.size v L (hdF M) hs.row hs.below.size hl).mono ?_
 rintro e w' ⟨v', rfl, hb, ho, ht⟩
 rw [hm.add] at ho
 exact ⟨v', rfl, ⟨Below.trans hs.below hb, ht.keep hs.hall (by decide), ho⟩, ht⟩
theorem sLev_len {w : World} (h : HallR) (i : Nat) (hsm : h.Sm) (hi : h.In w) : (sLev h i).length ≤ i * 150 := by
 induction i with
 | zero => simp [sLev]
 | succ i ih =>
  by_cases hlt : i < h.levels.length
  ·
   rw [sLev_next hlt, List.length_append, List.length_append, List.length_append]
   have h1 := (level_one h.levels i h.levels[i]).len
   have h2 := hsm.lev _ (List.getElem_mem hlt)
   have h3 := h2.rest
   have hin := hi.lev _ (List.getElem_mem hlt)
   have h4 := sBlk_len h.levels[i] h.levels[i].blocks.length (fun b hb => by
    have := hsm.rn _ (List.getElem_mem hlt) b hb
    have := (hin.blk b hb).1.1
    omega)
   have h5 := sArea_len h.levels[i] h.levels[i].areas.length
   have h6 := hin.blocks.1
   have h7 := hin.areas.1
   have h8 := h2.b
   omega
  ·
   have : sLev h (i + 1) = sLev h i := by
    unfold sLev
    rw [List.take_of_length_le (by simp; omega), List.take_of_length_le (by simp; omega)]
   rw [this]
   omega

set_option maxRecDepth 100000 in
set_option maxHeartbeats 16000000 in
theorem rsingle_any (w : World) (h : HallR) (hh : h.In w) (hsm : h.Sm) :
  Calls Tryz.prog 65 #[.agg #[.string (bs h.name), .int .i64 h.stage.x, .int .i64 h.stage.y, .slice h.la h.ln h.lc]] w fun e w' => ∃ v, e = .returned v ∧ Below w.heap.size w w' ∧ w'.ownsRow w.heap.size 55 3 v (singleS h).length (flat FaultE (singleS h)) := by
 have HH := Lib.hid hh
 have HSM := Lib.hid hsm
 have HLL : Hid (h.levels.length = h.ln) := hh.levels.1
 have hln := hsm.ln
 have HLN : Hid (∀ i, (sLev h i).length ≤ i * 150) := fun i => sLev_len h i hsm hh
 clear hh hsm
 refine enter_fr (N := 71) [.agg #[.string (bs h.name), .int .i64 h.stage.x, .int .i64 h.stage.y, .slice h.la h.ln h.lc]] (Tryz.func65) rfl Tryz.ntmps65 (by rfl) (fun a hF => ?_);replace hF := hF.kp [0] rfl;refine wp_seq_k (fun K hK => ?_);refine region_seq (l := [0, 1]) (by kernel_rfl) ?_;refine seq_one ?_;revert hF;refine qe1 fun a hF => ?_
 have HX : Hid (HallIn (w.alloc (.cells #[.string (bs h.name), .int .i64 h.stage.x, .int .i64 h.stage.y, .slice h.la h.ln h.lc] 26)) w.heap.size h) := World.alloc_heap_new w _
 have HB1 : Hid (Below w.heap.size w (w.alloc (.cells #[.string (bs h.name), .int .i64 h.stage.x, .int .i64 h.stage.y, .slice h.la h.ln h.lc] 26))) := Joins.below_alloc1 w _
 generalize w.alloc (.cells #[.string (bs h.name), .int .i64 h.stage.x, .int .i64 h.stage.y, .slice h.la h.ln h.lc] 26) = w1 at *
 obtain ⟨gh, hg⟩ : ∃ g, g = w.heap.size := ⟨_, rfl⟩
 rw [← hg] at hF HX
 clear hg
 revert hF;refine zre 1 [2] [1] fun a hF => ?_;refine hK _ _ ?_;clear hK
 have HS : Hid (SgS w w1 h gh (.slice none 0 0) (sLev h 0)) := ⟨HB1.out, HX.out, nil_row⟩
 clear HX HB1
 revert hF;refine zrs [2] [1, 3] fun a hF => ?_
 refine seq_cut (fun a' w' => ∃ v : Value, FrF 71 [] [(1, .pointer (some ⟨gh, 0, none⟩)), (3, v)] a' ∧ Hid (SgS w w' h gh v (sLev h h.levels.length))) (fun KAn hKAn => ?_) ?_
 ·
  skip
  revert hF;refine zrs [2] [1, 3, 4] fun a hF => ?_
  refine wp_block ?_
  refine loop_fr (fun qn a' w' => ∃ n : Nat, n + qn = h.ln ∧ ∃ v : Value, FrF 71 [] [(1, .pointer (some ⟨gh, 0, none⟩)), (3, v), (4, .int .i64 n)] a' ∧ Hid (SgS w w' h gh v (sLev h n))) (h.ln) ⟨0, by omega, _, hF, HS⟩ ?_
  clear hF HS
  rintro rkn a wr ⟨n, hikn, v, hF, HS⟩ KBn hKBn
  refine wp_seq_k (fun K hK => ?_)
  by_cases hlt : n < h.ln
  rotate_left
  ·
   have hlti : ¬ (n : Int) < (h.ln : Nat) := by omega
   obtain ⟨c0, c1, c2, c3⟩ := HS.out.hall.cells
   revert hF;refine zrs [1, 4, 4, 4, 5] [1, 3, 4, 13] fun a hF => ?_
   clear c0 c1 c2 c3
   refine cond_no hF rfl ?_
   refine wp_exit ?_
   have hie : n = h.levels.length := by rw [HLL.out]; omega
   rw [hie] at HS
   exact hKAn _ _ ⟨_, hF.sub ⟨rfl, rfl, trivial⟩, HS⟩
  have hlti : (n : Int) < (h.ln : Nat) := by omega
  obtain ⟨c0, c1, c2, c3⟩ := HS.out.hall.cells
  revert hF;refine zrs [1, 4, 4, 4, 5] [1, 3, 4, 13] fun a hF => ?_
  clear c0 c1 c2 c3
  refine cond_yes hF rfl ?_
  refine wp_skip ?_
  refine hK _ _ ?_;clear hK;replace hF := hF.kp [1, 3, 4] rfl
  clear hKAn
  refine seq_cut (fun a' w' => ∃ v : Value, FrF 71 [] [(1, .pointer (some ⟨gh, 0, none⟩)), (3, v), (4, .int .i64 n)] a' ∧ Hid (SgS w w' h gh v (sLev h (n + 1)))) (fun KCn hKCn => ?_) ?_
  rotate_left
  ·
   clear hF HS
   rintro a w' ⟨v, hF, HS⟩
   have hws : IntKind.i64.wrap ((n : Int) + 1) = ((n + 1 : Nat) : Int) := wrap_succ (by omega)
   revert hF;refine zrg [1, 4, 2] [1, 3, 4] fun a hF => ?_
   exact hKBn (h.ln - (n + 1)) _ _ (by omega) ⟨n + 1, by omega, _, hF, HS⟩
  clear hKBn hikn
  refine wp_block ?_
  have hil : n < h.levels.length := by rw [HLL.out]; exact hlt
  have hi1 : n < h.ln := hlt
  obtain ⟨c0, c1, c2, c3⟩ := HS.out.hall.cells
  obtain ⟨bB, oB, hbb, b0, b1, b2, b3, b4, b5, b6, b7⟩ := lev_at (HH.out.below HS.out.below).levels n hi1 hil
  rw [hbb] at c3
  have HLI : Hid ((h.levels[n]).In w) := HH.out.lev _ (List.getElem_mem hil)
  have HLS : Hid (h.levels[n]).Sm := HSM.out.lev _ (List.getElem_mem hil)
  have HRN : Hid (∀ b ∈ (h.levels[n]).blocks, b.rn ≤ 8) := HSM.out.rn _ (List.getElem_mem hil)
  rw [sLev_next hil] at hKCn
  have HRL0 := Lib.hid (rlevel_any · h n · hil HLS.out (by have := HLS.out.b; omega))
  obtain ⟨l, hl⟩ : ∃ l, l = h.levels[n] := ⟨_, rfl⟩
  rw [← hl] at b0 b1 b2 b3 b4 b5 b6 b7 HLI HLS HRN hKCn HRL0
  have HBL : Hid (l.blocks.length = l.bn) := HLI.out.blocks.1
  have HAL : Hid (l.areas.length = l.an) := HLI.out.areas.1
  have hbn6 := HLS.out.b
  have hrest := HLS.out.rest
  clear hl hbb
  refine wp_seq_k (fun K hK => ?_);revert hF;refine zrp [4, 4, 1, 5, 4] [5, 6] fun a hF => ?_;refine seq_one ?_;revert hF;refine qe0 fun a hF => ?_
  obtain ⟨wa, gl, hwa, hgv, hSV, HTW⟩ := var_new wr 32 #[.string ⟨#[]⟩, .int .i64 0, .slice none 0 0, .slice none 0 0, .slice none 0 0, .slice none 0 0, .slice none 0 0, .int .i64 0] #[.string (bs l.name), .int .i64 l.height, .slice l.ba l.bn l.bc, .slice l.aa l.an l.ac, .slice l.sa l.sn l.sc, .slice l.pa l.pn l.pc, .slice l.da l.dn l.dc, .int .i64 l.at'] (by kernel_rfl) rfl (by simp [Value.oneCell'])
  rw [hwa]
  rw [← hgv] at hF
  clear hwa hgv
  refine seq_one ?_;refine op_storev rfl rfl hF rfl rfl rfl rfl hSV ?_;clear hF;refine fun a hF => ?_
  clear hSV
  refine hK _ _ ?_;clear hK
  generalize wa.setRow gl #[.string (bs l.name), .int .i64 l.height, .slice l.ba l.bn l.bc, .slice l.aa l.an l.ac, .slice l.sa l.sn l.sc, .slice l.pa l.pn l.pc, .slice l.da l.dn l.dc, .int .i64 l.at'] = w3 at *
  clear c0 c1 c2 c3 b0 b1 b2 b3 b4 b5 b6 b7
  have HS3 : Hid (SgS w w3 h gh v (sLev h n) ∧ LevIn w3 gl l) := ⟨HS.out.down HTW.out.1, HTW.out.2.1⟩
  clear HS HTW
  refine wp_seq_k (fun K hK => ?_)
  have hlv : (loadVar 26 ⟨gh, 0, none⟩).run Tryz.prog w3 = .ok (.agg #[.string (bs h.name), .int .i64 h.stage.x, .int .i64 h.stage.y, .slice h.la h.ln h.lc]) w3 := by
   obtain ⟨c0, c1, c2, c3⟩ := HS3.out.1.hall.cells
   clear hF
   go_simp
  clear hlv
  obtain ⟨c0, c1, c2, c3⟩ := HS3.out.1.hall.cells
  revert hF;refine zrp [1, 4, 1] [3, 4, 5] fun a hF => ?_;revert hF;refine zos fun K hK => ?_
  refine (HRL0.out w3 (HH.out.below HS3.out.1.below)).mono ?_
  rintro e w4 ⟨rfl, hb4⟩
  clear c0 c1 c2 c3
  have HS4 : Hid (SgS w w4 h gh v (sLev h n) ∧ LevIn w4 gl l) := ⟨HS3.out.1.down hb4, HS3.out.2.down hb4⟩
  clear HS3 hb4
  refine hK _ _ (fun a hF => ?_);clear hK K;revert hF;refine zos fun K hK => ?_
  have hone := level_one h.levels n l
  have hbnd : (sLev h n).length ≤ 900000 := by have := HLN.out n; omega
  obtain ⟨M, hM⟩ : ∃ M, M = levelFault h.levels n l := ⟨_, rfl⟩
  rw [← hM] at hone ⊢
  refine (sg_add w w4 h gh v _ M hone HS4.out.1 hbnd).mono ?_
  rintro e w5 ⟨v', rfl, hs9, ht⟩
  have HS5 : Hid (SgS w w5 h gh v' (sLev h n ++ M ++ sBlk l 0) ∧ LevIn w5 gl l) := ⟨by
   have : sBlk l 0 = [] := rfl
   rw [this, List.append_nil]
   exact hs9, HS4.out.2.tupd ht (by decide)⟩
  rw [hM] at HS5
  clear HS4 hs9 ht hM hone hbnd
  refine hK _ _ (fun a hF => ?_);clear hK K;revert hF;refine zre 5 [2] [1, 3, 4, 5] fun a hF => ?_;refine hK _ _ ?_;clear hK
  refine seq_cut (fun a' w' => ∃ v : Value, FrF 71 [] [(1, .pointer (some ⟨gh, 0, none⟩)), (3, v), (4, .int .i64 n), (5, .pointer (some ⟨gl, 0, none⟩))] a' ∧ Hid (SgS w w' h gh v (sLev h n ++ (levelFault h.levels n l) ++ sBlk l l.blocks.length) ∧ LevIn w' gl l)) (fun KAi hKAi => ?_) ?_
  ·
   skip
   revert hF;refine zrs [2] [1, 3, 4, 5, 6] fun a hF => ?_
   refine wp_block ?_
   refine loop_fr (fun qi a' w' => ∃ i : Nat, i + qi = l.bn ∧ ∃ v : Value, FrF 71 [] [(1, .pointer (some ⟨gh, 0, none⟩)), (3, v), (4, .int .i64 n), (5, .pointer (some ⟨gl, 0, none⟩)), (6, .int .i64 i)] a' ∧ Hid (SgS w w' h gh v (sLev h n ++ (levelFault h.levels n l) ++ sBlk l i) ∧ LevIn w' gl l)) (l.bn) ⟨0, by omega, _, hF, HS5⟩ ?_
   clear hF HS5
   rintro rki a w6 ⟨i, hiki, v, hF, HS⟩ KBi hKBi
   refine wp_seq_k (fun K hK => ?_)
   by_cases hlt : i < l.bn
   rotate_left
   ·
    have hlti : ¬ (i : Int) < (l.bn : Nat) := by omega
    obtain ⟨q0, q1, q2, q3, q4, q5, q6, q7⟩ := HS.out.2.cells
    revert hF;refine zrs [1, 4, 4, 4, 5] [1, 3, 4, 5, 6, 30] fun a hF => ?_
    clear q0 q1 q2 q3 q4 q5 q6 q7
    refine cond_no hF rfl ?_
    refine wp_exit ?_
    have hie : i = l.blocks.length := by rw [HBL.out]; omega
    rw [hie] at HS
    exact hKAi _ _ ⟨_, hF.sub ⟨rfl, rfl, rfl, rfl, trivial⟩, HS⟩
   have hlti : (i : Int) < (l.bn : Nat) := by omega
   obtain ⟨q0, q1, q2, q3, q4, q5, q6, q7⟩ := HS.out.2.cells
   revert hF;refine zrs [1, 4, 4, 4, 5] [1, 3, 4, 5, 6, 30] fun a hF => ?_
   clear q0 q1 q2 q3 q4 q5 q6 q7
   refine cond_yes hF rfl ?_
   refine wp_skip ?_
   refine hK _ _ ?_;clear hK;replace hF := hF.kp [1, 3, 4, 5, 6] rfl
   clear hKAi
   refine seq_cut (fun a' w' => ∃ v : Value, FrF 71 [] [(1, .pointer (some ⟨gh, 0, none⟩)), (3, v), (4, .int .i64 n), (5, .pointer (some ⟨gl, 0, none⟩)), (6, .int .i64 i)] a' ∧ Hid (SgS w w' h gh v (sLev h n ++ (levelFault h.levels n l) ++ sBlk l (i + 1)) ∧ LevIn w' gl l)) (fun KCi hKCi => ?_) ?_
   rotate_left
   ·
    clear hF HS
    rintro a w' ⟨v, hF, HS⟩
    have hws : IntKind.i64.wrap ((i : Int) + 1) = ((i + 1 : Nat) : Int) := wrap_succ (by omega)
    revert hF;refine zrg [1, 4, 2] [1, 3, 4, 5, 6] fun a hF => ?_
    exact hKBi (l.bn - (i + 1)) _ _ (by omega) ⟨i + 1, by omega, _, hF, HS⟩
   clear hKBi hiki
   refine wp_block ?_
   have hil : i < l.blocks.length := by rw [HBL.out]; exact hlt
   have hi1 : i < l.bn := hlt
   obtain ⟨b, hb⟩ : ∃ b, b = l.blocks[i] := ⟨_, rfl⟩
   have HBE := Lib.hid hb
   have HBI : Hid (b.In w) := by rw [hb]; exact HLI.out.blk _ (List.getElem_mem hil)
   have HRL : Hid (b.rows.length = b.rn) := HBI.out.1.1
   have hrn8 : b.rn ≤ 8 := by rw [hb]; exact HRN.out _ (List.getElem_mem hil)
   have hnx : sBlk l (i + 1) = sBlk l i ++ (blockFault l.blocks i b ++ sRow b b.rows.length) := by rw [hb]; exact sBlk_next hil
   rw [hnx, ← List.append_assoc, ← List.append_assoc] at hKCi
   clear hb hnx
   have HBD2 : Hid (∀ k, (sLev h n ++ (levelFault h.levels n l) ++ sBlk l i ++ blockFault l.blocks i b ++ sRow b k).length ≤ 900000) := fun k => by
    have h1 := HLN.out n
    have h2 := (level_one h.levels n l).len
    have h3 := sBlk_len l i (fun b hb => by have := HRN.out b hb; have := (HLI.out.blk b hb).1.1; omega)
    have h4 := (block_one l.blocks i b).len
    have h5 := sRow_len b k
    have h6 := HRL.out
    have h7 := HBL.out
    rw [List.length_append, List.length_append, List.length_append, List.length_append]
    omega
   refine wp_seq_k (fun K hK => ?_)
   obtain ⟨q0, q1, q2, q3, q4, q5, q6, q7⟩ := HS.out.2.cells
   revert hF;refine zrp [1, 4, 1] [3, 4, 5] fun a hF => ?_;revert hF;refine zos fun K hK => ?_
   refine (rblock_any _ l i (HLI.out.below HS.out.1.below) hil).mono ?_
   rintro e w8 ⟨rfl, hb8⟩
   clear q0 q1 q2 q3 q4 q5 q6 q7
   have HS8 : Hid (SgS w w8 h gh v (sLev h n ++ (levelFault h.levels n l) ++ sBlk l i) ∧ LevIn w8 gl l) := ⟨HS.out.1.down hb8, HS.out.2.down hb8⟩
   clear HS hb8
   refine hK _ _ (fun a hF => ?_);clear hK K;revert hF;refine zos fun K hK => ?_
   have hone := block_one l.blocks i l.blocks[i]
   rw [← HBE.out] at hone ⊢
   have hbnd : (sLev h n ++ (levelFault h.levels n l) ++ sBlk l i).length ≤ 900000 := by
    have := HBD2.out 0
    rw [List.length_append, List.length_append] at this
    omega
   obtain ⟨M, hM⟩ : ∃ M, M = blockFault l.blocks i b := ⟨_, rfl⟩
   rw [← hM] at hone hKCi HBD2 ⊢
   refine (sg_add w w8 h gh v _ M hone HS8.out.1 hbnd).mono ?_
   rintro e w9 ⟨v', rfl, hs9, ht⟩
   have HS10 : Hid (SgS w w9 h gh v' (sLev h n ++ (levelFault h.levels n l) ++ sBlk l i ++ M ++ sRow b 0) ∧ LevIn w9 gl l) := ⟨by
    have : sRow b 0 = [] := rfl
    rw [this, List.append_nil]
    exact hs9, HS8.out.2.tupd ht (by decide)⟩
   rw [hM] at HS10 hKCi HBD2
   clear HS8 hs9 ht hM hone hbnd
   refine hK _ _ (fun a hF => ?_);clear hK K;revert hF;refine zre 5 [2] [1, 3, 4, 5, 6] fun a hF => ?_;refine hK _ _ ?_;clear hK;revert hF;refine zrs [2] [1, 3, 4, 5, 6, 7] fun a hF => ?_
   refine wp_block ?_
   refine loop_fr (fun qk a' w' => ∃ k : Nat, k + qk = b.rn ∧ ∃ v : Value, FrF 71 [] [(1, .pointer (some ⟨gh, 0, none⟩)), (3, v), (4, .int .i64 n), (5, .pointer (some ⟨gl, 0, none⟩)), (6, .int .i64 i), (7, .int .i64 k)] a' ∧ Hid (SgS w w' h gh v (sLev h n ++ (levelFault h.levels n l) ++ sBlk l i ++ blockFault l.blocks i b ++ sRow b k) ∧ LevIn w' gl l)) (b.rn) ⟨0, by omega, _, hF, HS10⟩ ?_
   clear hF HS10
   rintro rkk a w7 ⟨k, hikk, v, hF, HS⟩ KBk hKBk
   refine wp_seq_k (fun K hK => ?_)
   by_cases hkt : k < b.rn
   rotate_left
   ·
    have hkti : ¬ (k : Int) < (b.rn : Nat) := by omega
    obtain ⟨q0, q1, q2, q3, q4, q5, q6, q7⟩ := HS.out.2.cells
    obtain ⟨bB, oB, hbb, b0, b1, b2⟩ := blk_at (HLI.out.below HS.out.1.below).blocks i hi1 hil
    rw [hbb] at q2
    rw [← HBE.out] at b0 b1 b2
    revert hF;refine zrs [1, 4, 4, 1, 5, 4, 4, 4, 5] [1, 3, 4, 5, 6, 7, 46] fun a hF => ?_
    clear q0 q1 q2 q3 q4 q5 q6 q7 hbb b0 b1 b2
    refine cond_no hF rfl ?_
    refine wp_exit ?_
    have hke : k = b.rows.length := by rw [HRL.out]; omega
    rw [hke] at HS
    exact hKCi _ _ ⟨_, hF.sub ⟨rfl, rfl, rfl, rfl, rfl, trivial⟩, HS⟩
   have hkti : (k : Int) < (b.rn : Nat) := by omega
   obtain ⟨q0, q1, q2, q3, q4, q5, q6, q7⟩ := HS.out.2.cells
   obtain ⟨bB, oB, hbb, b0, b1, b2⟩ := blk_at (HLI.out.below HS.out.1.below).blocks i hi1 hil
   rw [hbb] at q2
   rw [← HBE.out] at b0 b1 b2
   revert hF;refine zrs [1, 4, 4, 1, 5, 4, 4, 4, 5] [1, 3, 4, 5, 6, 7, 46] fun a hF => ?_
   clear q0 q1 q2 q3 q4 q5 q6 q7 hbb b0 b1 b2
   refine cond_yes hF rfl ?_
   refine wp_skip ?_
   refine hK _ _ ?_;clear hK;replace hF := hF.kp [1, 3, 4, 5, 6, 7] rfl

   refine seq_cut (fun a' w' => ∃ v : Value, FrF 71 [] [(1, .pointer (some ⟨gh, 0, none⟩)), (3, v), (4, .int .i64 n), (5, .pointer (some ⟨gl, 0, none⟩)), (6, .int .i64 i), (7, .int .i64 k)] a' ∧ Hid (SgS w w' h gh v (sLev h n ++ (levelFault h.levels n l) ++ sBlk l i ++ blockFault l.blocks i b ++ sRow b (k + 1)) ∧ LevIn w' gl l)) (fun KCk hKCk => ?_) ?_
   rotate_left
   ·
    clear hF HS
    rintro a w' ⟨v, hF, HS⟩
    have hws : IntKind.i64.wrap ((k : Int) + 1) = ((k + 1 : Nat) : Int) := wrap_succ (by omega)
    revert hF;refine zrg [1, 4, 2] [1, 3, 4, 5, 6, 7] fun a hF => ?_
    exact hKBk (b.rn - (k + 1)) _ _ (by omega) ⟨k + 1, by omega, _, hF, HS⟩
   clear hKBk hikk
   refine wp_block ?_
   obtain ⟨q0, q1, q2, q3, q4, q5, q6, q7⟩ := HS.out.2.cells
   obtain ⟨bB, oB, hbb, b0, b1, b2⟩ := blk_at (HLI.out.below HS.out.1.below).blocks i hi1 hil
   rw [hbb] at q2
   rw [← HBE.out] at b0 b1 b2
   clear hbb
   revert hF;refine zrp [1, 4, 4, 1, 5, 4, 1] [7, 8, 9] fun a hF => ?_;revert hF;refine zos fun K hK => ?_
   have hkl : k < b.rows.length := by rw [HRL.out]; exact hkt
   refine (rrow_any _ b k (HBI.out.below HS.out.1.below) hkl).mono ?_
   rintro e w8 ⟨rfl, hb8⟩
   clear q0 q1 q2 q3 q4 q5 q6 q7 b0 b1 b2
   have HS8 : Hid (SgS w w8 h gh v (sLev h n ++ (levelFault h.levels n l) ++ sBlk l i ++ blockFault l.blocks i b ++ sRow b k) ∧ LevIn w8 gl l) := ⟨HS.out.1.down hb8, HS.out.2.down hb8⟩
   clear HS hb8
   refine hK _ _ (fun a hF => ?_);clear hK K;revert hF;refine zos fun K hK => ?_
   have hone := row_one b.rows k b.rows[k]
   have hnx : sLev h n ++ (levelFault h.levels n l) ++ sBlk l i ++ blockFault l.blocks i b ++ sRow b (k + 1) = sLev h n ++ (levelFault h.levels n l) ++ sBlk l i ++ blockFault l.blocks i b ++ sRow b k ++ rowFault b.rows k b.rows[k] := by
    rw [sRow_next hkl, ← List.append_assoc]
   rw [hnx] at hKCk
   have hbnd := HBD2.out k
   obtain ⟨M, hM⟩ : ∃ M, M = rowFault b.rows k b.rows[k] := ⟨_, rfl⟩
   rw [← hM] at hone hKCk ⊢
   clear hM hnx
   refine (sg_add w w8 h gh v _ M hone HS8.out.1 hbnd).mono ?_
   rintro e w9 ⟨v', rfl, hs9, ht⟩
   have HS9 : Hid (SgS w w9 h gh v' (sLev h n ++ (levelFault h.levels n l) ++ sBlk l i ++ blockFault l.blocks i b ++ sRow b k ++ M) ∧ LevIn w9 gl l) := ⟨hs9, HS8.out.2.tupd ht (by decide)⟩
   clear HS8 hs9 ht
   refine hK _ _ (fun a hF => ?_);clear hK K;revert hF;refine zre 9 [2] [1, 3, 4, 5, 6, 7] fun a hF => ?_
   exact hKCk _ _ ⟨_, hF, HS9⟩
  clear hF HS5
  rintro a w11 ⟨v, hF, HS⟩

  have HS12 : Hid (SgS w w11 h gh v (sLev h n ++ (levelFault h.levels n l ++ sBlk l l.blocks.length) ++ sArea l 0) ∧ LevIn w11 gl l) := ⟨by
   have : sArea l 0 = [] := rfl
   rw [this, List.append_nil, ← List.append_assoc]
   exact HS.out.1, HS.out.2⟩
  clear HS
  revert hF;refine zrs [2] [1, 3, 4, 5, 8] fun a hF => ?_
  refine wp_block ?_
  refine loop_fr (fun qj a' w' => ∃ i : Nat, i + qj = l.an ∧ ∃ v : Value, FrF 71 [] [(1, .pointer (some ⟨gh, 0, none⟩)), (3, v), (4, .int .i64 n), (5, .pointer (some ⟨gl, 0, none⟩)), (8, .int .i64 i)] a' ∧ Hid (SgS w w' h gh v (sLev h n ++ (levelFault h.levels n l ++ sBlk l l.blocks.length) ++ sArea l i) ∧ LevIn w' gl l)) (l.an) ⟨0, by omega, _, hF, HS12⟩ ?_
  clear hF HS12
  rintro rkj a w12 ⟨i, hikj, v, hF, HS⟩ KBj hKBj
  refine wp_seq_k (fun K hK => ?_)
  by_cases hlt : i < l.an
  rotate_left
  ·
   have hlti : ¬ (i : Int) < (l.an : Nat) := by omega
   obtain ⟨q0, q1, q2, q3, q4, q5, q6, q7⟩ := HS.out.2.cells
   revert hF;refine zrs [1, 4, 4, 4, 5] [1, 3, 4, 5, 8, 62] fun a hF => ?_
   clear q0 q1 q2 q3 q4 q5 q6 q7
   refine cond_no hF rfl ?_
   refine wp_exit ?_
   have hie : i = l.areas.length := by rw [HAL.out]; omega
   rw [hie] at HS
   rw [List.append_assoc] at HS
   exact hKCn _ _ ⟨_, hF.sub ⟨rfl, rfl, rfl, trivial⟩, HS.out.1⟩
  have hlti : (i : Int) < (l.an : Nat) := by omega
  obtain ⟨q0, q1, q2, q3, q4, q5, q6, q7⟩ := HS.out.2.cells
  revert hF;refine zrs [1, 4, 4, 4, 5] [1, 3, 4, 5, 8, 62] fun a hF => ?_
  clear q0 q1 q2 q3 q4 q5 q6 q7
  refine cond_yes hF rfl ?_
  refine wp_skip ?_
  refine hK _ _ ?_;clear hK;replace hF := hF.kp [1, 3, 4, 5, 8] rfl

  refine seq_cut (fun a' w' => ∃ v : Value, FrF 71 [] [(1, .pointer (some ⟨gh, 0, none⟩)), (3, v), (4, .int .i64 n), (5, .pointer (some ⟨gl, 0, none⟩)), (8, .int .i64 i)] a' ∧ Hid (SgS w w' h gh v (sLev h n ++ (levelFault h.levels n l ++ sBlk l l.blocks.length) ++ sArea l (i + 1)) ∧ LevIn w' gl l)) (fun KCj hKCj => ?_) ?_
  rotate_left
  ·
   clear hF HS
   rintro a w' ⟨v, hF, HS⟩
   have hws : IntKind.i64.wrap ((i : Int) + 1) = ((i + 1 : Nat) : Int) := wrap_succ (by omega)
   revert hF;refine zrg [1, 4, 2] [1, 3, 4, 5, 8] fun a hF => ?_
   exact hKBj (l.an - (i + 1)) _ _ (by omega) ⟨i + 1, by omega, _, hF, HS⟩
  clear hKBj hikj
  refine wp_block ?_
  have hil : i < l.areas.length := by rw [HAL.out]; exact hlt
  obtain ⟨q0, q1, q2, q3, q4, q5, q6, q7⟩ := HS.out.2.cells
  revert hF;refine zrp [1, 4, 1] [3, 4, 5] fun a hF => ?_;revert hF;refine zos fun K hK => ?_
  refine (rarea_any _ l i (HLI.out.below HS.out.1.below) hil).mono ?_
  rintro e w8 ⟨rfl, hb8⟩
  clear q0 q1 q2 q3 q4 q5 q6 q7
  have HS8 : Hid (SgS w w8 h gh v (sLev h n ++ (levelFault h.levels n l ++ sBlk l l.blocks.length) ++ sArea l i) ∧ LevIn w8 gl l) := ⟨HS.out.1.down hb8, HS.out.2.down hb8⟩
  clear HS hb8
  refine hK _ _ (fun a hF => ?_);clear hK K;revert hF;refine zos fun K hK => ?_
  have hone := area_one l i l.areas[i]
  rw [sArea_next hil, ← List.append_assoc] at hKCj
  have hbnd : (sLev h n ++ (levelFault h.levels n l ++ sBlk l l.blocks.length) ++ sArea l i).length ≤ 900000 := by
   have h1 := HLN.out n
   have h2 := (level_one h.levels n l).len
   have h3 := sBlk_len l l.blocks.length (fun b hb => by have := HRN.out b hb; have := (HLI.out.blk b hb).1.1; omega)
   have h5 := sArea_len l i
   have h6 := HAL.out
   have h7 := HBL.out
   have h8 := HLS.out.rest
   rw [List.length_append, List.length_append, List.length_append]
   omega
  obtain ⟨M, hM⟩ : ∃ M, M = areaFault l i l.areas[i] := ⟨_, rfl⟩
  rw [← hM] at hone hKCj ⊢
  clear hM
  refine (sg_add w w8 h gh v _ M hone HS8.out.1 hbnd).mono ?_
  rintro e w9 ⟨v', rfl, hs9, ht⟩
  have HS9 : Hid (SgS w w9 h gh v' (sLev h n ++ (levelFault h.levels n l ++ sBlk l l.blocks.length) ++ sArea l i ++ M) ∧ LevIn w9 gl l) := ⟨hs9, HS8.out.2.tupd ht (by decide)⟩
  clear HS8 hs9 ht
  refine hK _ _ (fun a hF => ?_);clear hK K;revert hF;refine zre 5 [2] [1, 3, 4, 5, 8] fun a hF => ?_
  exact hKCj _ _ ⟨_, hF, HS9⟩
 clear hF HS
 rintro a w20 ⟨v, hF, HS⟩
 rw [sLev_all] at HS
 revert hF;refine zrs [1, 2] [2] fun a hF => ?_;refine wp_ret ?_;(try simp only [then_ret, block_ret, goto_ret]);revert hF;refine zq ?_
 exact ⟨v, rfl, HS.out.below, HS.out.row⟩
end Go.Proofs.YtmcdhggnpfhlmaaGreat

namespace Go.Proofs.YtmcdhggnpfhlmaaGreat
open Go.RowKit Go.IntWalk
set_option linter.unusedSimpArgs false
set_option linter.unusedVariables false

def cR (r : RowR) : Int := (seatsS r).length
theorem sum_append (xs ys : List Int) : (xs ++ ys).sum = xs.sum + ys.sum := by simp
theorem rows_sum : ∀ (bs : List BlkR), ((bs.flatMap (·.rows)).map cR).sum = (bs.map rowsC).sum
 | [] => rfl
 | b :: bs => by
  rw [List.flatMap_cons, List.map_append, sum_append, rows_sum bs, List.map_cons, List.sum_cons]
  rfl
theorem levC_eq (l : LevR) : levC l = sumT cR (allRows l) (allRows l).length + sumT (·.holds) l.areas l.areas.length := by
 rw [sumT_all, sumT_all]
 unfold allRows
 rw [rows_sum]
 rfl
/-- What Count works on. -/
def CtS (w0 w : World) (h : HallR) (gh : Nat) : Prop := Below w0.heap.size w0 w ∧ HallIn w gh h
theorem CtS.down {w0 w w' : World} {h : HallR} {gh : Nat} (hs : CtS w0 w h gh) (hb : Below w.heap.size w w') : CtS w0 w' h gh := ⟨hs.1.trans (hb.mono hs.1.size), hs.2.down hb⟩
set_option maxRecDepth 100000 in
set_option maxHeartbeats 16000000 in
theorem rcount_any (w0 : World) (h : HallR) (hh : h.In w0) (hsm : h.Sm) (hns : NoSingle h) (h0 : ∀ l ∈ h.levels, ∀ b ∈ l.blocks, b.ra = none → b.rc = 0) :
  Calls Tryz.prog 68 #[.agg #[.string (bs h.name), .int .i64 h.stage.x, .int .i64 h.stage.y, .slice h.la h.ln h.lc]] w0 fun e w' => e = .returned (.int .i64 (countS h)) ∧ Below w0.heap.size w0 w' := by
 have HH := Lib.hid hh
 have HSM := Lib.hid hsm
 have HNS := Lib.hid hns
 have H0 := Lib.hid h0
 have HLL : Hid (h.levels.length = h.ln) := hh.levels.1
 have hln := hsm.ln
 have HAB : Hid (∀ n, 0 ≤ sumT levC h.levels n ∧ sumT levC h.levels n ≤ 3000000) := fun n => by
  have := sumT_bd (c := levC) (B := 250000) (xs := h.levels) (fun l hl => by
   have hi := hh.lev l hl
   have hs := hsm.lev l hl
   have hr := hs.rest
   have h1 := allRows_len (l := l) (by rw [hi.blocks.1]; exact hs.b) (fun b hb => by rw [(hi.blk b hb).1.1]; exact hsm.rn l hl b hb)
   have h2 := sumT_bd (c := cR) (B := 60) (xs := allRows l) (fun r hr => by
    obtain ⟨b, hb, hrb⟩ := List.mem_flatMap.1 hr
    have := seats_len (hns.rows l hl b hb r hrb).1
    unfold cR
    omega) (by omega) (allRows l).length
   have h3 := sumT_bd (c := fun a : AreaR => a.holds) (B := 4000) (xs := l.areas) (fun a ha => by have := (hns.areas l hl a ha).2; omega) (by omega) l.areas.length
   have h4 := hi.areas.1
   rw [levC_eq]
   omega) (by omega) n
  have h2 := HLL.out
  omega
 clear hh hsm hns h0
 refine enter_fr (N := 59) [.agg #[.string (bs h.name), .int .i64 h.stage.x, .int .i64 h.stage.y, .slice h.la h.ln h.lc]] (Tryz.func68) rfl Tryz.ntmps68 (by rfl) (fun a hF => ?_);replace hF := hF.kp [0] rfl;refine wp_seq_k (fun K hK => ?_);refine region_seq (l := [0, 1]) (by kernel_rfl) ?_;refine seq_one ?_;revert hF;refine qe1 fun a hF => ?_
 have HX : Hid (CtS w0 (w0.alloc (.cells #[.string (bs h.name), .int .i64 h.stage.x, .int .i64 h.stage.y, .slice h.la h.ln h.lc] 26)) h w0.heap.size) := ⟨Joins.below_alloc1 w0 _, World.alloc_heap_new w0 _⟩
 generalize w0.alloc (.cells #[.string (bs h.name), .int .i64 h.stage.x, .int .i64 h.stage.y, .slice h.la h.ln h.lc] 26) = w1 at *
 obtain ⟨gh, hg⟩ : ∃ g, g = w0.heap.size := ⟨_, rfl⟩
 rw [← hg] at hF HX
 clear hg
 revert hF;refine zre 1 [2] [1] fun a hF => ?_;refine hK _ _ ?_;clear hK
 have HS := HX
 clear HX
 revert hF;refine zrs [2] [1, 3] fun a hF => ?_
 have hz : (0 : Int) = sumT levC h.levels 0 := rfl
 rw [hz] at hF
 clear hz
 refine seq_cut (fun a' w' => FrF 59 [] [(1, .pointer (some ⟨gh, 0, none⟩)), (3, .int .i64 (sumT levC h.levels h.levels.length))] a' ∧ Hid (CtS w0 w' h gh)) (fun KAn hKAn => ?_) ?_
 ·
  skip
  revert hF;refine zrs [2] [1, 3, 4] fun a hF => ?_
  refine wp_block ?_
  refine loop_fr (fun qn a' w' => ∃ n : Nat, n + qn = h.ln ∧ FrF 59 [] [(1, .pointer (some ⟨gh, 0, none⟩)), (3, .int .i64 (sumT levC h.levels n)), (4, .int .i64 n)] a' ∧ Hid (CtS w0 w' h gh)) (h.ln) ⟨0, by omega, hF, HS⟩ ?_
  clear hF HS
  rintro rkn a w4 ⟨n, hikn, hF, HS⟩ KBn hKBn
  refine wp_seq_k (fun K hK => ?_)
  by_cases hlt : n < h.ln
  rotate_left
  ·
   have hlti : ¬ (n : Int) < (h.ln : Nat) := by omega
   obtain ⟨c0, c1, c2, c3⟩ := HS.out.2.cells
   revert hF;refine zrs [1, 4, 4, 4, 5] [1, 3, 4, 12] fun a hF => ?_
   clear c0 c1 c2 c3
   refine cond_no hF rfl ?_
   refine wp_exit ?_
   have hne : n = h.levels.length := by rw [HLL.out]; omega
   rw [hne] at hF
   exact hKAn _ _ ⟨hF.sub ⟨rfl, rfl, trivial⟩, HS⟩
  have hlti : (n : Int) < (h.ln : Nat) := by omega
  obtain ⟨c0, c1, c2, c3⟩ := HS.out.2.cells
  revert hF;refine zrs [1, 4, 4, 4, 5] [1, 3, 4, 12] fun a hF => ?_
  clear c0 c1 c2 c3
  refine cond_yes hF rfl ?_
  refine wp_skip ?_
  refine hK _ _ ?_;clear hK;replace hF := hF.kp [1, 3, 4] rfl
  clear hKAn
  refine seq_cut (fun a' w' => FrF 59 [] [(1, .pointer (some ⟨gh, 0, none⟩)), (3, .int .i64 (sumT levC h.levels (n + 1))), (4, .int .i64 n)] a' ∧ Hid (CtS w0 w' h gh)) (fun KCn hKCn => ?_) ?_
  rotate_left
  ·
   clear hF HS
   rintro a w' ⟨hF, HS⟩
   have hws : IntKind.i64.wrap ((n : Int) + 1) = ((n + 1 : Nat) : Int) := wrap_succ (by omega)
   revert hF;refine zrg [1, 4, 2] [1, 3, 4] fun a hF => ?_
   exact hKBn (h.ln - (n + 1)) _ _ (by omega) ⟨n + 1, by omega, hF, HS⟩
  clear hKBn hikn
  refine wp_block ?_
  have hin : n < h.levels.length := by rw [HLL.out]; exact hlt
  have hi1 : n < h.ln := hlt
  have hni : (n : Int) < (h.ln : Nat) := by omega
  obtain ⟨l, hl⟩ : ∃ l, l = h.levels[n] := ⟨_, rfl⟩
  have HLI : Hid (l.In w0) := by rw [hl]; exact HH.out.lev _ (List.getElem_mem hin)
  have HLS : Hid (l.Sm) := by rw [hl]; exact HSM.out.lev _ (List.getElem_mem hin)
  have HRN : Hid (∀ b ∈ l.blocks, b.rn ≤ 8) := by rw [hl]; exact HSM.out.rn _ (List.getElem_mem hin)
  have HR0 : Hid (∀ b ∈ l.blocks, b.ra = none → b.rc = 0) := by rw [hl]; exact H0.out _ (List.getElem_mem hin)
  have HRK : Hid (∀ b ∈ l.blocks, ∀ r ∈ b.rows, RowOk r) := by rw [hl]; exact fun b hb r hr => (HNS.out.rows _ (List.getElem_mem hin) b hb r hr).1
  have HHO : Hid (∀ a ∈ l.areas, 1 ≤ a.holds ∧ a.holds ≤ 4000) := by rw [hl]; exact fun a ha => (HNS.out.areas _ (List.getElem_mem hin) a ha).2
  have HNX : Hid (sumT levC h.levels n + levC l = sumT levC h.levels (n + 1)) := by rw [hl]; exact (sumT_next levC hin).symm
  have HLE := Lib.hid hl
  clear hl hlt hlti
  have HBL : Hid (l.blocks.length = l.bn) := HLI.out.blocks.1
  have HAN : Hid (l.areas.length = l.an) := HLI.out.areas.1
  have hbn := HLS.out.b
  have hrest := HLS.out.rest
  have HLN : Hid ((allRows l).length ≤ 48) := allRows_len (by rw [HBL.out]; exact hbn) (fun b hb => by rw [(HLI.out.blk b hb).1.1]; exact HRN.out b hb)
  have hln48 : (allRows l).length ≤ 48 := HLN.out
  have HRI : Hid (∀ r ∈ allRows l, r.In w0) := fun r hr => by
   obtain ⟨b, hb, hrb⟩ := List.mem_flatMap.1 hr
   exact (HLI.out.blk b hb).2.2 r hrb
  have HRO : Hid (∀ r ∈ allRows l, RowOk r) := fun r hr => by
   obtain ⟨b, hb, hrb⟩ := List.mem_flatMap.1 hr
   exact HRK.out b hb r hrb
  have HBB : Hid (∀ k, 0 ≤ sumT cR (allRows l) k ∧ sumT cR (allRows l) k ≤ 3000) := fun k => by
   have := sumT_bd (c := cR) (B := 60) (xs := allRows l) (fun r hr => ⟨by unfold cR; omega, by have := seats_len (HRO.out r hr); unfold cR; omega⟩) (by omega) k
   omega
  have HCB : Hid (∀ k, 0 ≤ sumT (·.holds) l.areas k ∧ sumT (·.holds) l.areas k ≤ 240000) := fun k => by
   have := sumT_bd (c := fun a : AreaR => a.holds) (B := 4000) (xs := l.areas) (fun a ha => by have := HHO.out a ha; omega) (by omega) k
   have h2 := HAN.out
   omega
  refine wp_seq_k (fun K hK => ?_)
  obtain ⟨c0, c1, c2, c3⟩ := HS.out.2.cells
  obtain ⟨bB, oB, hbb, b0, b1, b2, b3, b4, b5, b6, b7⟩ := lev_at (HH.out.below HS.out.1).levels n hi1 hin
  rw [hbb] at c3
  rw [← HLE.out] at b0 b1 b2 b3 b4 b5 b6 b7
  clear hbb
  revert hF;refine zrp [4, 4, 1, 5, 4] [5, 6] fun a hF => ?_;revert hF;refine zos fun K hK => ?_
  refine (rrows_any w4 l (HLI.out.below HS.out.1) HR0.out (by omega)).mono ?_
  rintro e w5 ⟨va, rfl, hb3, ho3⟩
  clear c0 c1 c2 c3 b0 b1 b2 b3 b4 b5 b6 b7
  obtain ⟨la, ca, rfl, ho4⟩ := OwnR.of (own_mono (B' := w0.heap.size) ho3 HS.out.1.size)
  have HS5 : Hid (CtS w0 w5 h gh ∧ OwnR w0 w5 la ca (allRows l)) := ⟨HS.out.down hb3, ho4⟩
  clear HS hb3 ho3 ho4
  refine hK _ _ (fun a hF => ?_);clear hK K;revert hF;refine zre 6 [2] [1, 3, 4, 5] fun a hF => ?_;refine hK _ _ ?_;clear hK
  have hz : sumT levC h.levels n = sumT levC h.levels n + sumT cR (allRows l) 0 := (Int.add_zero _).symm
  rw [hz] at hF
  clear hz
  refine seq_cut (fun a' w' => FrF 59 [] [(1, .pointer (some ⟨gh, 0, none⟩)), (3, .int .i64 (sumT levC h.levels n + sumT cR (allRows l) (allRows l).length)), (4, .int .i64 n)] a' ∧ Hid (CtS w0 w' h gh)) (fun KAk hKAk => ?_) ?_
  ·
   skip
   revert hF;refine zrs [2] [1, 3, 4, 5, 6] fun a hF => ?_
   refine wp_block ?_
   refine loop_fr (fun qk a' w' => ∃ k : Nat, k + qk = (allRows l).length ∧ FrF 59 [] [(1, .pointer (some ⟨gh, 0, none⟩)), (3, .int .i64 (sumT levC h.levels n + sumT cR (allRows l) k)), (4, .int .i64 n), (5, .slice la (allRows l).length ca), (6, .int .i64 k)] a' ∧ Hid (CtS w0 w' h gh ∧ OwnR w0 w' la ca (allRows l))) ((allRows l).length) ⟨0, by omega, hF, HS5⟩ ?_
   clear hF HS5
   rintro rkk a w5 ⟨k, hikk, hF, HS⟩ KBk hKBk
   refine wp_seq_k (fun K hK => ?_)
   by_cases hlt : k < (allRows l).length
   rotate_left
   ·
    have hlti : ¬ (k : Int) < ((allRows l).length : Nat) := by omega

    revert hF;refine zrs [1, 1, 4, 5] [1, 3, 4, 5, 6, 24] fun a hF => ?_
    refine cond_no hF rfl ?_
    refine wp_exit ?_
    have hie : k = (allRows l).length := by omega
    rw [hie] at hF
    exact hKAk _ _ ⟨hF.sub ⟨rfl, rfl, rfl, trivial⟩, HS.out.1⟩
   have hlti : (k : Int) < ((allRows l).length : Nat) := by omega

   revert hF;refine zrs [1, 1, 4, 5] [1, 3, 4, 5, 6, 24] fun a hF => ?_
   refine cond_yes hF rfl ?_
   refine wp_skip ?_
   refine hK _ _ ?_;clear hK;replace hF := hF.kp [1, 3, 4, 5, 6] rfl
   clear hKAk
   refine seq_cut (fun a' w' => FrF 59 [] [(1, .pointer (some ⟨gh, 0, none⟩)), (3, .int .i64 (sumT levC h.levels n + sumT cR (allRows l) (k + 1))), (4, .int .i64 n), (5, .slice la (allRows l).length ca), (6, .int .i64 k)] a' ∧ Hid (CtS w0 w' h gh ∧ OwnR w0 w' la ca (allRows l))) (fun KCk hKCk => ?_) ?_
   rotate_left
   ·
    clear hF HS
    rintro a w' ⟨hF, HS⟩
    have hws : IntKind.i64.wrap ((k : Int) + 1) = ((k + 1 : Nat) : Int) := wrap_succ (by omega)
    revert hF;refine zrg [1, 4, 2] [1, 3, 4, 5, 6] fun a hF => ?_
    exact hKBk ((allRows l).length - (k + 1)) _ _ (by omega) ⟨k + 1, by omega, hF, HS⟩
   clear hKBk hikk
   refine wp_block ?_
   have hks := hlt
   have hki : (k : Int) < ((allRows l).length : Nat) := by omega
   obtain ⟨x, hx⟩ : ∃ x, x = (allRows l)[k] := ⟨_, rfl⟩
   have HXI : Hid (x.In w0) := by rw [hx]; exact HRI.out _ (List.getElem_mem hks)
   have HXO : Hid (RowOk x) := by rw [hx]; exact HRO.out _ (List.getElem_mem hks)
   have hnx := sumT_next cR hks
   rw [← hx] at hnx
   rw [hnx, ← Int.add_assoc] at hKCk
   clear hnx
   have HXE := Lib.hid hx
   clear hx hlt hlti
   have hsx := seats_len HXO.out
   have hv1 := HAB.out n
   have hv2 := HBB.out k
   obtain ⟨v, hv⟩ : ∃ v, v = sumT levC h.levels n + sumT cR (allRows l) k := ⟨_, rfl⟩
   rw [← hv] at hF hKCk
   have hv3 : 0 ≤ v ∧ v ≤ 4000000 := by omega
   clear hv hv1 hv2
   obtain ⟨bb, obb, hbb, f0, f1, f2, f3, f4, f5, f6, f7⟩ := row_at HS.out.2.recs k hks hks
   rw [← HXE.out] at f0 f1 f2 f3 f4 f5 f6 f7
   have HLA := Lib.hid hbb
   rw [hbb] at hF
   clear hbb
   revert hF;refine zrp [1, 1, 1, 5, 4] [5, 6, 7, 8] fun a hF => ?_;revert hF;refine zos fun K hK => ?_
   refine (rseats_any w5 x (HXI.out.below HS.out.1.1) HXO.out).mono ?_
   rintro e w6 ⟨v', rfl, hb6, ho6⟩
   clear f0 f1 f2 f3 f4 f5 f6 f7
   rw [← List.length_map (f := seatRow x)] at ho6
   obtain ⟨ta, tc, rfl, ho8⟩ := OwnR.of (w0 := w5) ho6
   have HS5 : Hid (CtS w0 w6 h gh ∧ OwnR w0 w6 la ca (allRows l)) := ⟨HS.out.1.down hb6, HS.out.2.down hb6⟩
   clear HS hb6 ho6 ho8
   have hcx : cR x = ((seatsS x).length : Int) := rfl
   rw [hcx] at hKCk
   rw [List.length_map]
   have hws : IntKind.i64.wrap (v + ((seatsS x).length : Int)) = v + ((seatsS x).length : Int) := wrap_in (by omega) (by omega)
   clear hcx
   refine hK _ _ (fun a hF => ?_);clear hK K;revert hF;refine zre 6 [4, 5, 2] [1, 3, 4, 5, 6] fun a hF => ?_
   rw [← HLA.out] at hF
   exact hKCk _ _ ⟨hF, HS5.out⟩
  clear hF HS5
  rintro a w7 ⟨hF, HS⟩
  have hz : sumT levC h.levels n + sumT cR (allRows l) (allRows l).length = sumT levC h.levels n + sumT cR (allRows l) (allRows l).length + sumT (·.holds) l.areas 0 := (Int.add_zero _).symm
  rw [hz] at hF
  clear hz
  revert hF;refine zrs [2] [1, 3, 4, 7] fun a hF => ?_
  refine wp_block ?_
  refine loop_fr (fun qa a' w' => ∃ k : Nat, k + qa = l.an ∧ FrF 59 [] [(1, .pointer (some ⟨gh, 0, none⟩)), (3, .int .i64 (sumT levC h.levels n + sumT cR (allRows l) (allRows l).length + sumT (·.holds) l.areas k)), (4, .int .i64 n), (7, .int .i64 k)] a' ∧ Hid (CtS w0 w' h gh)) (l.an) ⟨0, by omega, hF, HS⟩ ?_
  clear hF HS
  rintro rka a w8 ⟨k, hika, hF, HS⟩ KBa hKBa
  refine wp_seq_k (fun K hK => ?_)
  by_cases hlt : k < l.an
  rotate_left
  ·
   have hlti : ¬ (k : Int) < (l.an : Nat) := by omega
   obtain ⟨c0, c1, c2, c3⟩ := HS.out.2.cells
   obtain ⟨bB, oB, hbb, b0, b1, b2, b3, b4, b5, b6, b7⟩ := lev_at (HH.out.below HS.out.1).levels n hi1 hin
   rw [hbb] at c3
   rw [← HLE.out] at b0 b1 b2 b3 b4 b5 b6 b7
   revert hF;refine zrs [1, 4, 4, 1, 5, 4, 4, 4, 5] [1, 3, 4, 7, 43] fun a hF => ?_
   clear c0 c1 c2 c3 hbb b0 b1 b2 b3 b4 b5 b6 b7
   refine cond_no hF rfl ?_
   refine wp_exit ?_
   have hie : k = l.areas.length := by rw [HAN.out]; omega
   rw [hie] at hF
   rw [Int.add_assoc, ← levC_eq, HNX.out] at hF
   exact hKCn _ _ ⟨hF.sub ⟨rfl, rfl, rfl, trivial⟩, HS⟩
  have hlti : (k : Int) < (l.an : Nat) := by omega
  obtain ⟨c0, c1, c2, c3⟩ := HS.out.2.cells
  obtain ⟨bB, oB, hbb, b0, b1, b2, b3, b4, b5, b6, b7⟩ := lev_at (HH.out.below HS.out.1).levels n hi1 hin
  rw [hbb] at c3
  rw [← HLE.out] at b0 b1 b2 b3 b4 b5 b6 b7
  revert hF;refine zrs [1, 4, 4, 1, 5, 4, 4, 4, 5] [1, 3, 4, 7, 43] fun a hF => ?_
  clear c0 c1 c2 c3 hbb b0 b1 b2 b3 b4 b5 b6 b7
  refine cond_yes hF rfl ?_
  refine wp_skip ?_
  refine hK _ _ ?_;clear hK;replace hF := hF.kp [1, 3, 4, 7] rfl

  refine seq_cut (fun a' w' => FrF 59 [] [(1, .pointer (some ⟨gh, 0, none⟩)), (3, .int .i64 (sumT levC h.levels n + sumT cR (allRows l) (allRows l).length + sumT (·.holds) l.areas (k + 1))), (4, .int .i64 n), (7, .int .i64 k)] a' ∧ Hid (CtS w0 w' h gh)) (fun KCa hKCa => ?_) ?_
  rotate_left
  ·
   clear hF HS
   rintro a w' ⟨hF, HS⟩
   have hws : IntKind.i64.wrap ((k : Int) + 1) = ((k + 1 : Nat) : Int) := wrap_succ (by omega)
   revert hF;refine zrg [1, 4, 2] [1, 3, 4, 7] fun a hF => ?_
   exact hKBa (l.an - (k + 1)) _ _ (by omega) ⟨k + 1, by omega, hF, HS⟩
  clear hKBa hika
  refine wp_block ?_
  have hil : k < l.areas.length := by rw [HAN.out]; exact hlt
  have hki : (k : Int) < (l.an : Nat) := by omega
  obtain ⟨ar, har⟩ : ∃ x, x = l.areas[k] := ⟨_, rfl⟩
  have hnx := sumT_next (fun a : AreaR => a.holds) hil
  rw [← har] at hnx
  rw [hnx, ← Int.add_assoc] at hKCa
  have HAE := Lib.hid har
  have hho := HHO.out ar (by rw [har]; exact List.getElem_mem hil)
  clear hnx har
  have hv1 := HAB.out n
  have hv2 := HBB.out (allRows l).length
  have hv4 := HCB.out k
  obtain ⟨v, hv⟩ : ∃ v, v = sumT levC h.levels n + sumT cR (allRows l) (allRows l).length + sumT (·.holds) l.areas k := ⟨_, rfl⟩
  rw [← hv] at hF hKCa
  have hv3 : 0 ≤ v ∧ v ≤ 4000000 := by omega
  clear hv hv1 hv2 hv4
  obtain ⟨c0, c1, c2, c3⟩ := HS.out.2.cells
  obtain ⟨bB, oB, hbb, b0, b1, b2, b3, b4, b5, b6, b7⟩ := lev_at (HH.out.below HS.out.1).levels n hi1 hin
  rw [hbb] at c3
  rw [← HLE.out] at b0 b1 b2 b3 b4 b5 b6 b7
  obtain ⟨bd, od, hbd, d0, d1, d2, d3, d4, d5, d6⟩ := area_at (HLI.out.below HS.out.1).areas k hlt hil
  rw [hbd] at b3
  rw [← HAE.out] at d0 d1 d2 d3 d4 d5 d6
  clear hbb hbd
  have hws : IntKind.i64.wrap (v + ar.holds) = v + ar.holds := wrap_in (by omega) (by omega)
  revert hF;refine zrg [1, 4, 4, 1, 5, 4, 4, 1, 5, 4, 4, 5, 2] [1, 3, 4, 7] fun a hF => ?_
  exact hKCa _ _ ⟨hF, HS⟩
 clear hF HS
 rintro a w10 ⟨hF, HS⟩
 revert hF;refine zrs [1, 2] [2] fun a hF => ?_;refine wp_ret ?_;(try simp only [then_ret, block_ret, goto_ret]);revert hF;refine zq ?_
 rw [sumT_all]
 exact ⟨rfl, HS.out.1⟩
end Go.Proofs.YtmcdhggnpfhlmaaGreat
