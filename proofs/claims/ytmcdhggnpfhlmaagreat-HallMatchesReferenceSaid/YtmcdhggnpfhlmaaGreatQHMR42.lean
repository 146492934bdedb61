/- hall: the reference: Build. -/
import Derived.Test.YtmcdhggnpfhlmaaGreatQHMR41

set_option linter.unusedVariables false
set_option linter.unusedSimpArgs false
namespace Go.Proofs.YtmcdhggnpfhlmaaGreat
open Go.RowKit Go.IntWalk
set_option linter.unusedSimpArgs false
set_option linter.unusedVariables false
set_option maxRecDepth 100000 in
set_option maxHeartbeats 64000000 in
theorem rbuild_any (w0 : World) (h : HallR) (hh : h.In w0) (hsm : h.Sm) (h0 : ∀ l ∈ h.levels, ∀ b ∈ l.blocks, b.ra = none → b.rc = 0) :
  Calls Tryz.prog 7 #[.agg #[.string (bs h.name), .int .i64 h.stage.x, .int .i64 h.stage.y, .slice h.la h.ln h.lc]] w0 fun e w' => (∃ v u, e = .returned (.tuple #[v, u]) ∧ Rcs PlaceE w' v (buildS h).1 ∧ Rcs FaultE w' u (buildS h).2) ∧ Below w0.heap.size w0 w' := by
 have HH := Lib.hid hh
 have HLL : Hid (h.levels.length = h.ln) := hh.levels.1
 have HPOK : Hid (faultsS h = [] → PlanOk h) := fun hf => planOk_of (single_of hf).1 (single_of hf).2.1 hsm (fun l hl => (hh.lev l hl).blocks.1.symm)
 have hln := hsm.ln
 have HFA := Lib.hid (rfaults_any · h · hsm h0)
 clear hh hsm h0
 refine enter_fr (N := 259) [.agg #[.string (bs h.name), .int .i64 h.stage.x, .int .i64 h.stage.y, .slice h.la h.ln h.lc]] (Tryz.func7) rfl Tryz.ntmps7 (by rfl) (fun a hF => ?_);replace hF := hF.kp [0] rfl;refine wp_seq_k (fun K hK => ?_);refine region_seq (l := [0, 1, 2]) (by kernel_rfl) ?_;refine seq_one ?_;revert hF;refine qe1 fun a hF => ?_
 have HX : Hid (CtS w0 (w0.alloc (.cells #[.string (bs h.name), .int .i64 h.stage.x, .int .i64 h.stage.y, .slice h.la h.ln h.lc] 26)) h w0.heap.size) := ⟨Joins.below_alloc1 w0 _, World.alloc_heap_new w0 _⟩
 generalize w0.alloc (.cells #[.string (bs h.name), .int .i64 h.stage.x, .int .i64 h.stage.y, .slice h.la h.ln h.lc] 26) = w1 at *
 obtain ⟨gh, hg⟩ : ∃ g, g = w0.heap.size := ⟨_, rfl⟩
 rw [← hg] at hF HX
 clear hg
 revert hF;refine zre 1 [2, 2] [1] fun a hF => ?_;refine hK _ _ ?_;clear hK;refine wp_seq_k (fun K hK => ?_)
 obtain ⟨c0, c1, c2, c3⟩ := HX.out.2.cells
 revert hF;refine zrp [4] [1, 2] fun a hF => ?_;revert hF;refine zos fun K hK => ?_
 refine (HFA.out w1 (HH.out.below HX.out.1)).mono ?_
 rintro e w2 ⟨u, rfl, hb2, hu2⟩
 clear c0 c1 c2 c3 HFA
 have HX2 : Hid (CtS w0 w2 h gh ∧ Rcs FaultE w2 u (faultsS h)) := ⟨HX.out.down hb2, hu2⟩
 clear HX hb2 hu2
 refine hK _ _ (fun a hF => ?_);clear hK K;revert hF;refine zre 2 [2] [1, 4] fun a hF => ?_;refine hK _ _ ?_;clear hK
 obtain ⟨la, ca, rfl, _, _⟩ := HX2.out.2
 refine wp_seq_k (fun K hK => ?_)
 by_cases hs : faultsS h = []
 rotate_left
 ·
  have hpos : 0 < (faultsS h).length := List.length_pos_iff.2 hs
  have HE : Hid (buildS h = ([], faultsS h)) := by
   show _ = _
   unfold buildS
   rw [if_neg hs]
  clear hs
  have hposi : (0 : Int) < ((faultsS h).length : Nat) := by omega
  revert hF;refine zrs [1, 4, 4] [1, 4, 26] fun a hF => ?_
  refine cond_yes hF rfl ?_
  revert hF;refine zrs [1, 2, 2] [2, 3] fun a hF => ?_;refine wp_ret ?_;(try simp only [then_ret, block_ret, goto_ret]);revert hF;refine zq ?_
  rw [HE.out]
  exact ⟨⟨_, _, rfl, ⟨none, 0, rfl, ⟨rfl, fun i hi => absurd hi (by simp)⟩, fun _ => rfl⟩, HX2.out.2⟩, HX2.out.1.1⟩
 have HE : Hid (buildS h = (placesS h, [])) := by
  show _ = _
  unfold buildS
  rw [if_pos hs]
 have HOK := Lib.hid (HPOK.out hs)
 rw [hs] at hF
 have hposi : ¬ (0 : Int) < (([] : List FaultR).length : Nat) := by simp
 clear hs HPOK
 revert hF;refine zrs [1, 4, 4] [1, 4, 26] fun a hF => ?_
 refine cond_no hF rfl ?_
 refine wp_skip ?_
 refine hK _ _ ?_;clear hK
 clear hposi
 have HB1 : Hid (∀ n, (foldT (putLevel h) h.levels n []).length ≤ 4000) := fun n => Nat.le_trans (foldT_pre (putLevel h) (putLevel_pre h) h.levels n []).length_le HOK.out.few
 have HS2 : Hid (BdS w0 w2 h gh (.slice none 0 0) (foldT (putLevel h) h.levels 0 [])) := ⟨HX2.out.1.1, HX2.out.1.2, nil_row⟩
 clear HX2
 revert hF;refine zrs [2] [1, 5] fun a hF => ?_
 refine seq_cut (fun a' w' => ∃ v : Value, FrF 259 [] [(1, .pointer (some ⟨gh, 0, none⟩)), (5, v)] a' ∧ Hid (BdS w0 w' h gh v (foldT (putLevel h) h.levels h.levels.length []))) (fun KAn hKAn => ?_) ?_
 ·
  skip
  revert hF;refine zrs [2] [1, 5, 6] fun a hF => ?_
  refine wp_block ?_
  refine loop_fr (fun qn a' w' => ∃ n : Nat, n + qn = h.ln ∧ ∃ v : Value, FrF 259 [] [(1, .pointer (some ⟨gh, 0, none⟩)), (5, v), (6, .int .i64 n)] a' ∧ Hid (BdS w0 w' h gh v (foldT (putLevel h) h.levels n []))) (h.ln) ⟨0, by omega, _, hF, HS2⟩ ?_
  clear hF HS2
  rintro rkn a we ⟨n, hikn, v, hF, HS⟩ KBn hKBn
  refine wp_seq_k (fun K hK => ?_)
  by_cases hlt : n < h.ln
  rotate_left
  ·
   have hlti : ¬ (n : Int) < (h.ln : Nat) := by omega
   obtain ⟨c0, c1, c2, c3⟩ := HS.out.hall.cells
   revert hF;refine zrs [1, 4, 4, 4, 5] [1, 5, 6, 32] fun a hF => ?_
   clear c0 c1 c2 c3
   refine cond_no hF rfl ?_
   refine wp_exit ?_
   have hne : n = h.levels.length := by rw [HLL.out]; omega
   rw [hne] at HS
   exact hKAn _ _ ⟨_, hF.sub ⟨rfl, rfl, trivial⟩, HS⟩
  have hlti : (n : Int) < (h.ln : Nat) := by omega
  obtain ⟨c0, c1, c2, c3⟩ := HS.out.hall.cells
  revert hF;refine zrs [1, 4, 4, 4, 5] [1, 5, 6, 32] fun a hF => ?_
  clear c0 c1 c2 c3
  refine cond_yes hF rfl ?_
  refine wp_skip ?_
  refine hK _ _ ?_;clear hK;replace hF := hF.kp [1, 5, 6] rfl
  clear hKAn
  refine seq_cut (fun a' w' => ∃ v : Value, FrF 259 [] [(1, .pointer (some ⟨gh, 0, none⟩)), (5, v), (6, .int .i64 n)] a' ∧ Hid (BdS w0 w' h gh v (foldT (putLevel h) h.levels (n + 1) []))) (fun KCn hKCn => ?_) ?_
  rotate_left
  ·
   clear hF HS
   rintro a w' ⟨v, hF, HS⟩
   have hws : IntKind.i64.wrap ((n : Int) + 1) = ((n + 1 : Nat) : Int) := wrap_succ (by omega)
   revert hF;refine zrg [1, 4, 2] [1, 5, 6] fun a hF => ?_
   exact hKBn (h.ln - (n + 1)) _ _ (by omega) ⟨n + 1, by omega, _, hF, HS⟩
  clear hKBn hikn
  refine wp_block ?_
  have hnl : n < h.levels.length := by rw [HLL.out]; exact hlt
  have hi1 : n < h.ln := hlt
  have hni : (n : Int) < (h.ln : Nat) := by omega
  rw [foldT_next _ hnl] at hKCn
  have HB2a := HB1.out (n + 1)
  rw [foldT_next _ hnl] at HB2a
  obtain ⟨c0, c1, c2, c3⟩ := HS.out.hall.cells
  obtain ⟨bB, oB, hbb, b0, b1, b2, b3, b4, b5, b6, b7⟩ := lev_at (HH.out.below HS.out.below).levels n hi1 hnl
  rw [hbb] at c3
  obtain ⟨l, hl⟩ : ∃ l, l = h.levels[n] := ⟨_, rfl⟩
  have HLI : Hid (l.In w0) := by rw [hl]; exact HH.out.lev _ (List.getElem_mem hnl)
  have HLN : Hid (h.levels[n]? = some l) := by rw [hl]; exact List.getElem?_eq_getElem hnl
  have HOKR : Hid (∀ b ∈ l.blocks, ∀ r ∈ b.rows, RowOk r ∧ Wheels r) := by rw [hl]; exact HOK.out.rows _ (List.getElem_mem hnl)
  have HOKA := Lib.hid (HOK.out.areas _ (List.getElem_mem hnl))
  have HSM := HOK.out.small _ (List.getElem_mem hnl)
  rw [← hl] at HOKA HSM hKCn HB2a b0 b1 b2 b3 b4 b5 b6 b7
  have hbn := HSM.1
  have han := HSM.2.1
  have hpn := HSM.2.2.1
  have HRN := Lib.hid HSM.2.2.2
  have HBL : Hid (l.blocks.length = l.bn) := HLI.out.blocks.1
  have HAL : Hid (l.areas.length = l.an) := HLI.out.areas.1
  have HB4 : Hid (∀ j, (foldT (putArea h l n) l.areas j (foldT (putBlk h l n) l.blocks l.blocks.length (foldT (putLevel h) h.levels n []))).length ≤ 4000) := fun j => by
   have h1 := (foldT_pre (putArea h l n) (putArea_pre h l n) l.areas j (foldT (putBlk h l n) l.blocks l.blocks.length (foldT (putLevel h) h.levels n []))).length_le
   rw [foldT_all] at h1 ⊢
   exact Nat.le_trans h1 HB2a
  have HB2 : Hid (∀ i, (foldT (putBlk h l n) l.blocks i (foldT (putLevel h) h.levels n [])).length ≤ 4000) := fun i => by
   have h1 := (foldT_pre (putBlk h l n) (putBlk_pre h l n) l.blocks i (foldT (putLevel h) h.levels n [])).length_le
   have h2 := HB4.out 0
   rw [foldT_zero, foldT_all] at h2
   exact Nat.le_trans h1 h2
  clear hl hbb HSM HB2a hlt hlti
  refine wp_seq_k (fun K hK => ?_);revert hF;refine zrp [4, 4, 1, 5, 4] [5, 6] fun a hF => ?_;refine seq_one ?_;revert hF;refine qe0 fun a hF => ?_
  obtain ⟨wa, gl, hwa, hgv, hSV, HTW⟩ := var_new we 32 #[.string ⟨#[]⟩, .int .i64 0, .slice none 0 0, .slice none 0 0, .slice none 0 0, .slice none 0 0, .slice none 0 0, .int .i64 0] #[.string (bs l.name), .int .i64 l.height, .slice l.ba l.bn l.bc, .slice l.aa l.an l.ac, .slice l.sa l.sn l.sc, .slice l.pa l.pn l.pc, .slice l.da l.dn l.dc, .int .i64 l.at'] (by kernel_rfl) rfl (by simp [Value.oneCell'])
  rw [hwa]
  rw [← hgv] at hF
  clear hwa hgv
  refine seq_one ?_;refine op_storev rfl rfl hF rfl rfl rfl rfl hSV ?_;clear hF;refine fun a hF => ?_
  clear hSV
  refine hK _ _ ?_;clear hK
  generalize wa.setRow gl #[.string (bs l.name), .int .i64 l.height, .slice l.ba l.bn l.bc, .slice l.aa l.an l.ac, .slice l.sa l.sn l.sc, .slice l.pa l.pn l.pc, .slice l.da l.dn l.dc, .int .i64 l.at'] = wf at *
  clear c0 c1 c2 c3 b0 b1 b2 b3 b4 b5 b6 b7
  have HS3 : Hid (BdS w0 wf h gh v (foldT (putBlk h l n) l.blocks 0 (foldT (putLevel h) h.levels n [])) ∧ LevIn wf gl l) := ⟨HS.out.down HTW.out.1, HTW.out.2.1⟩
  clear HS HTW
  refine seq_cut (fun a' w' => ∃ v : Value, FrF 259 [] [(1, .pointer (some ⟨gh, 0, none⟩)), (5, v), (6, .int .i64 n), (7, .pointer (some ⟨gl, 0, none⟩))] a' ∧ Hid (BdS w0 w' h gh v (foldT (putBlk h l n) l.blocks l.blocks.length (foldT (putLevel h) h.levels n [])) ∧ LevIn w' gl l)) (fun KAi hKAi => ?_) ?_
  ·
   skip
   revert hF;refine zrs [2] [1, 5, 6, 7, 8] fun a hF => ?_
   refine wp_block ?_
   refine loop_fr (fun qi a' w' => ∃ i : Nat, i + qi = l.bn ∧ ∃ v : Value, FrF 259 [] [(1, .pointer (some ⟨gh, 0, none⟩)), (5, v), (6, .int .i64 n), (7, .pointer (some ⟨gl, 0, none⟩)), (8, .int .i64 i)] a' ∧ Hid (BdS w0 w' h gh v (foldT (putBlk h l n) l.blocks i (foldT (putLevel h) h.levels n [])) ∧ LevIn w' gl l)) (l.bn) ⟨0, by omega, _, hF, HS3⟩ ?_
   clear hF HS3
   rintro rki a wf ⟨i, hiki, v, hF, HS⟩ KBi hKBi
   refine wp_seq_k (fun K hK => ?_)
   by_cases hlt : i < l.bn
   rotate_left
   ·
    have hlti : ¬ (i : Int) < (l.bn : Nat) := by omega
    obtain ⟨q0, q1, q2, q3, q4, q5, q6, q7⟩ := HS.out.2.cells
    revert hF;refine zrs [1, 4, 4, 4, 5] [1, 5, 6, 7, 8, 44] fun a hF => ?_
    clear q0 q1 q2 q3 q4 q5 q6 q7
    refine cond_no hF rfl ?_
    refine wp_exit ?_
    have hie : i = l.blocks.length := by rw [HBL.out]; omega
    rw [hie] at HS
    exact hKAi _ _ ⟨_, hF.sub ⟨rfl, rfl, rfl, rfl, trivial⟩, HS⟩
   have hlti : (i : Int) < (l.bn : Nat) := by omega
   obtain ⟨q0, q1, q2, q3, q4, q5, q6, q7⟩ := HS.out.2.cells
   revert hF;refine zrs [1, 4, 4, 4, 5] [1, 5, 6, 7, 8, 44] fun a hF => ?_
   clear q0 q1 q2 q3 q4 q5 q6 q7
   refine cond_yes hF rfl ?_
   refine wp_skip ?_
   refine hK _ _ ?_;clear hK;replace hF := hF.kp [1, 5, 6, 7, 8] rfl
   clear hKAi
   refine seq_cut (fun a' w' => ∃ v : Value, FrF 259 [] [(1, .pointer (some ⟨gh, 0, none⟩)), (5, v), (6, .int .i64 n), (7, .pointer (some ⟨gl, 0, none⟩)), (8, .int .i64 i)] a' ∧ Hid (BdS w0 w' h gh v (foldT (putBlk h l n) l.blocks (i + 1) (foldT (putLevel h) h.levels n [])) ∧ LevIn w' gl l)) (fun KCi hKCi => ?_) ?_
   rotate_left
   ·
    clear hF HS
    rintro a w' ⟨v, hF, HS⟩
    have hws : IntKind.i64.wrap ((i : Int) + 1) = ((i + 1 : Nat) : Int) := wrap_succ (by omega)
    revert hF;refine zrg [1, 4, 2] [1, 5, 6, 7, 8] fun a hF => ?_
    exact hKBi (l.bn - (i + 1)) _ _ (by omega) ⟨i + 1, by omega, _, hF, HS⟩
   clear hKBi hiki
   refine wp_block ?_
   have hil : i < l.blocks.length := by rw [HBL.out]; exact hlt
   have hi1 : i < l.bn := hlt
   have hii : (i : Int) < (l.bn : Nat) := by omega
   rw [foldT_next _ hil] at hKCi
   have HB3a := HB2.out (i + 1)
   rw [foldT_next _ hil] at HB3a
   obtain ⟨b, hb⟩ : ∃ b, b = l.blocks[i] := ⟨_, rfl⟩
   have HBI : Hid (b.In w0) := by rw [hb]; exact HLI.out.blk _ (List.getElem_mem hil)
   have HRK : Hid (∀ r ∈ b.rows, RowOk r ∧ Wheels r) := by rw [hb]; exact HOKR.out _ (List.getElem_mem hil)
   have hrn8 : b.rn ≤ 1000 := by rw [hb]; exact HRN.out _ (List.getElem_mem hil)
   rw [← hb] at hKCi HB3a
   have HBE := Lib.hid hb
   have HRL : Hid (b.rows.length = b.rn) := HBI.out.1.1
   have HB3 : Hid (∀ k, (foldT (putRow h l n i) b.rows k (foldT (putBlk h l n) l.blocks i (foldT (putLevel h) h.levels n []))).length ≤ 4000) := fun k => Nat.le_trans (foldT_pre (putRow h l n i) (putRow_pre h l n i) b.rows k (foldT (putBlk h l n) l.blocks i (foldT (putLevel h) h.levels n []))).length_le HB3a
   clear hb HB3a
   have HS4 : Hid (BdS w0 wf h gh v (foldT (putRow h l n i) b.rows 0 (foldT (putBlk h l n) l.blocks i (foldT (putLevel h) h.levels n []))) ∧ LevIn wf gl l) := HS
   clear HS
   revert hF;refine zrs [2] [1, 5, 6, 7, 8, 9] fun a hF => ?_
   refine wp_block ?_
   refine loop_fr (fun qk a' w' => ∃ k : Nat, k + qk = b.rn ∧ ∃ v : Value, FrF 259 [] [(1, .pointer (some ⟨gh, 0, none⟩)), (5, v), (6, .int .i64 n), (7, .pointer (some ⟨gl, 0, none⟩)), (8, .int .i64 i), (9, .int .i64 k)] a' ∧ Hid (BdS w0 w' h gh v (foldT (putRow h l n i) b.rows k (foldT (putBlk h l n) l.blocks i (foldT (putLevel h) h.levels n []))) ∧ LevIn w' gl l)) (b.rn) ⟨0, by omega, _, hF, HS4⟩ ?_
   clear hF HS4
   rintro rkk a wg ⟨k, hikk, v, hF, HS⟩ KBk hKBk
   refine wp_seq_k (fun K hK => ?_)
   by_cases hlt : k < b.rn
   rotate_left
   ·
    have hlti : ¬ (k : Int) < (b.rn : Nat) := by omega
    obtain ⟨q0, q1, q2, q3, q4, q5, q6, q7⟩ := HS.out.2.cells
    obtain ⟨bB, oB, hbb, b0, b1, b2⟩ := blk_at (HLI.out.below HS.out.1.below).blocks i hi1 hil
    rw [hbb] at q2
    rw [← HBE.out] at b0 b1 b2
    revert hF;refine zrs [1, 4, 4, 1, 5, 4, 4, 4, 5] [1, 5, 6, 7, 8, 9, 55] fun a hF => ?_
    clear q0 q1 q2 q3 q4 q5 q6 q7 hbb b0 b1 b2
    refine cond_no hF rfl ?_
    refine wp_exit ?_
    have hke : k = b.rows.length := by rw [HRL.out]; omega
    rw [hke, foldT_all] at HS
    exact hKCi _ _ ⟨_, hF.sub ⟨rfl, rfl, rfl, rfl, rfl, trivial⟩, HS⟩
   have hlti : (k : Int) < (b.rn : Nat) := by omega
   obtain ⟨q0, q1, q2, q3, q4, q5, q6, q7⟩ := HS.out.2.cells
   obtain ⟨bB, oB, hbb, b0, b1, b2⟩ := blk_at (HLI.out.below HS.out.1.below).blocks i hi1 hil
   rw [hbb] at q2
   rw [← HBE.out] at b0 b1 b2
   revert hF;refine zrs [1, 4, 4, 1, 5, 4, 4, 4, 5] [1, 5, 6, 7, 8, 9, 55] fun a hF => ?_
   clear q0 q1 q2 q3 q4 q5 q6 q7 hbb b0 b1 b2
   refine cond_yes hF rfl ?_
   refine wp_skip ?_
   refine hK _ _ ?_;clear hK;replace hF := hF.kp [1, 5, 6, 7, 8, 9] rfl

   refine seq_cut (fun a' w' => ∃ v : Value, FrF 259 [] [(1, .pointer (some ⟨gh, 0, none⟩)), (5, v), (6, .int .i64 n), (7, .pointer (some ⟨gl, 0, none⟩)), (8, .int .i64 i), (9, .int .i64 k)] a' ∧ Hid (BdS w0 w' h gh v (foldT (putRow h l n i) b.rows (k + 1) (foldT (putBlk h l n) l.blocks i (foldT (putLevel h) h.levels n []))) ∧ LevIn w' gl l)) (fun KCk hKCk => ?_) ?_
   rotate_left
   ·
    clear hF HS
    rintro a w' ⟨v, hF, HS⟩
    have hws : IntKind.i64.wrap ((k : Int) + 1) = ((k + 1 : Nat) : Int) := wrap_succ (by omega)
    revert hF;refine zrg [1, 4, 2] [1, 5, 6, 7, 8, 9] fun a hF => ?_
    exact hKBk (b.rn - (k + 1)) _ _ (by omega) ⟨k + 1, by omega, _, hF, HS⟩
   clear hKBk hikk
   refine wp_block ?_
   have hkl : k < b.rows.length := by rw [HRL.out]; exact hlt
   have hki : (k : Int) < (b.rn : Nat) := by omega
   rw [foldT_next _ hkl] at hKCk
   have hbx0 := HB3.out (k + 1)
   rw [foldT_next _ hkl] at hbx0
   obtain ⟨X, hX⟩ : ∃ X, X = foldT (putRow h l n i) b.rows k (foldT (putBlk h l n) l.blocks i (foldT (putLevel h) h.levels n [])) := ⟨_, rfl⟩
   rw [← hX] at hKCk hbx0 HS
   clear hX
   obtain ⟨r, hr⟩ : ∃ r, r = b.rows[k] := ⟨_, rfl⟩
   have HRI : Hid (r.In w0) := by rw [hr]; exact HBI.out.2.2 _ (List.getElem_mem hkl)
   have HROW := HRK.out _ (List.getElem_mem hkl)
   rw [← hr] at hKCk hbx0 HROW
   have HRE := Lib.hid hr
   have HRO := Lib.hid HROW.1
   have HWH := Lib.hid HROW.2
   clear hr HROW hlt hlti
   have hKCr : ∀ a' w', (∃ v : Value, FrF 259 [] [(1, .pointer (some ⟨gh, 0, none⟩)), (5, v), (6, .int .i64 n), (7, .pointer (some ⟨gl, 0, none⟩)), (8, .int .i64 i), (9, .int .i64 k)] a' ∧ Hid (BdS w0 w' h gh v (X ++ rowPlaces h l n i k r X.length) ∧ LevIn w' gl l)) → KCk a' w' := fun a' w' hh => hKCk a' w' hh
   have HBX : Hid (X.length + (seatsS r).length ≤ 4000) := by
    have : (putRow h l n i X (r, k)).length = X.length + (seatsS r).length := by
     unfold putRow rowPlaces
     simp
    rw [this] at hbx0
    exact hbx0
   clear hbx0 hKCk
   have hbxx := HBX.out
   obtain ⟨q0, q1, q2, q3, q4, q5, q6, q7⟩ := HS.out.2.cells
   obtain ⟨bB, oB, hbb, b0, b1, b2⟩ := blk_at (HLI.out.below HS.out.1.below).blocks i hi1 hil
   rw [hbb] at q2
   rw [← HBE.out] at b0 b1 b2
   obtain ⟨bR, oR, hbr, r0, r1, r2, r3, r4, r5, r6, r7⟩ := row_at (HBI.out.1.below HS.out.1.below) k (by omega) hkl
   rw [hbr] at b1
   rw [← HRE.out] at r0 r1 r2 r3 r4 r5 r6 r7
   clear hbb hbr
   refine wp_seq_k (fun K hK => ?_);revert hF;refine zrp [4, 4, 1, 5, 4, 4, 1, 5, 4] [9, 10] fun a hF => ?_;refine seq_one ?_;revert hF;refine qe0 fun a hF => ?_
   obtain ⟨wa, gr, hwa, hgv, hSV, HTW⟩ := var_new wg 49 #[.string ⟨#[]⟩, .int .i64 0, .int .i64 0, .int .i64 0, .int .i64 0, .int .i64 0, .slice none 0 0, .int .i64 0] #[.string (bs r.name), .int .i64 r.x, .int .i64 r.y, .int .i64 r.fr, .int .i64 r.to, .int .i64 r.step, .slice r.ma r.mn r.mc, .int .i64 r.at'] (by kernel_rfl) rfl (by simp [Value.oneCell'])
   rw [hwa]
   rw [← hgv] at hF
   clear hwa hgv
   refine seq_one ?_;refine op_storev rfl rfl hF rfl rfl rfl rfl hSV ?_;clear hF;refine fun a hF => ?_
   clear hSV
   refine hK _ _ ?_;clear hK
   generalize wa.setRow gr #[.string (bs r.name), .int .i64 r.x, .int .i64 r.y, .int .i64 r.fr, .int .i64 r.to, .int .i64 r.step, .slice r.ma r.mn r.mc, .int .i64 r.at'] = wh at *
   clear q0 q1 q2 q3 q4 q5 q6 q7 b0 b1 b2 r0 r1 r2 r3 r4 r5 r6 r7
   have HS5 : Hid (BdS w0 wh h gh v X ∧ LevIn wh gl l ∧ RowIn wh gr r) := ⟨HS.out.1.down HTW.out.1, HS.out.2.down HTW.out.1, HTW.out.2.1⟩
   clear HS HTW
   refine wp_seq_k (fun K hK => ?_)
   obtain ⟨r0, r1, r2, r3, r4, r5, r6, r7⟩ := HS5.out.2.2.cells
   revert hF;refine zrp [4] [1, 2] fun a hF => ?_;revert hF;refine zos fun K hK => ?_
   refine (rseats_any _ r (HRI.out.below HS5.out.1.below) HRO.out).mono ?_
   rintro e wi ⟨v', rfl, hb6, ho6⟩
   clear r0 r1 r2 r3 r4 r5 r6 r7
   have ho7 := own_mono (B' := w0.heap.size) ho6 HS5.out.1.below.size
   rw [← List.length_map (f := seatRow r)] at ho7
   obtain ⟨sa, sc, rfl, ho8⟩ := OwnR.of ho7
   have HS6 : Hid (MdS w0 wi h gh v X l gl r gr sa sc) := ⟨HS5.out.1.down hb6, HS5.out.2.1.down hb6, HS5.out.2.2.down hb6, ho8⟩
   clear HS5 hb6 ho6 ho7 ho8
   refine hK _ _ (fun a hF => ?_);clear hK K;revert hF;refine zre 2 [2] [1, 5, 6, 7, 8, 9, 10, 11] fun a hF => ?_;refine hK _ _ ?_;clear hK
   (try simp only [List.length_map] at hF)
   obtain ⟨la0, ca0, rfl⟩ := HS6.out.bd.at
   revert hF;refine zrs [1, 4, 2] [1, 5, 6, 7, 8, 9, 10, 11, 12] fun a hF => ?_
   have HS7 : Hid (MdS w0 wi h gh (.slice la0 X.length ca0) (X ++ ((seatsS r).take 0).map (seatPlace h l n i k r)) l gl r gr sa sc) := by
    have : X ++ ((seatsS r).take 0).map (seatPlace h l n i k r) = X := by simp
    rw [this]
    exact HS6.out
   clear HS6
   refine seq_cut (fun a' w' => ∃ v : Value, FrF 259 [] [(1, .pointer (some ⟨gh, 0, none⟩)), (5, v), (6, .int .i64 n), (7, .pointer (some ⟨gl, 0, none⟩)), (8, .int .i64 i), (9, .int .i64 k), (10, .pointer (some ⟨gr, 0, none⟩)), (11, .slice sa (seatsS r).length sc), (12, .int .i64 (X.length : Nat))] a' ∧ Hid (MdS w0 w' h gh v (X ++ ((seatsS r).take (seatsS r).length).map (seatPlace h l n i k r)) l gl r gr sa sc)) (fun KAm hKAm => ?_) ?_
   ·
    skip
    revert hF;refine zrs [2] [1, 5, 6, 7, 8, 9, 10, 11, 12, 13] fun a hF => ?_
    refine wp_block ?_
    refine loop_fr (fun qm a' w' => ∃ m : Nat, m + qm = (seatsS r).length ∧ ∃ v : Value, FrF 259 [] [(1, .pointer (some ⟨gh, 0, none⟩)), (5, v), (6, .int .i64 n), (7, .pointer (some ⟨gl, 0, none⟩)), (8, .int .i64 i), (9, .int .i64 k), (10, .pointer (some ⟨gr, 0, none⟩)), (11, .slice sa (seatsS r).length sc), (12, .int .i64 (X.length : Nat)), (13, .int .i64 m)] a' ∧ Hid (MdS w0 w' h gh v (X ++ ((seatsS r).take m).map (seatPlace h l n i k r)) l gl r gr sa sc)) ((seatsS r).length) ⟨0, by omega, _, hF, HS7⟩ ?_
    clear hF HS7
    rintro rkm a wr ⟨m, hikm, v, hF, HS⟩ KBm hKBm
    refine wp_seq_k (fun K hK => ?_)
    by_cases hlt : m < (seatsS r).length
    rotate_left
    ·
     have hlti : ¬ (m : Int) < ((seatsS r).length : Nat) := by omega

     revert hF;refine zrs [1, 1, 4, 5] [1, 5, 6, 7, 8, 9, 10, 11, 12, 13, 74] fun a hF => ?_
     refine cond_no hF rfl ?_
     refine wp_exit ?_
     have hie : m = (seatsS r).length := by omega
     rw [hie] at HS
     exact hKAm _ _ ⟨_, hF.sub ⟨rfl, rfl, rfl, rfl, rfl, rfl, rfl, rfl, rfl, trivial⟩, HS⟩
    have hlti : (m : Int) < ((seatsS r).length : Nat) := by omega

    revert hF;refine zrs [1, 1, 4, 5] [1, 5, 6, 7, 8, 9, 10, 11, 12, 13, 74] fun a hF => ?_
    refine cond_yes hF rfl ?_
    refine wp_skip ?_
    refine hK _ _ ?_;clear hK;replace hF := hF.kp [1, 5, 6, 7, 8, 9, 10, 11, 12, 13] rfl
    clear hKAm
    refine seq_cut (fun a' w' => ∃ v : Value, FrF 259 [] [(1, .pointer (some ⟨gh, 0, none⟩)), (5, v), (6, .int .i64 n), (7, .pointer (some ⟨gl, 0, none⟩)), (8, .int .i64 i), (9, .int .i64 k), (10, .pointer (some ⟨gr, 0, none⟩)), (11, .slice sa (seatsS r).length sc), (12, .int .i64 (X.length : Nat)), (13, .int .i64 m)] a' ∧ Hid (MdS w0 w' h gh v (X ++ ((seatsS r).take (m + 1)).map (seatPlace h l n i k r)) l gl r gr sa sc)) (fun KCm hKCm => ?_) ?_
    rotate_left
    ·
     clear hF HS
     rintro a w' ⟨v, hF, HS⟩
     have hws : IntKind.i64.wrap ((m : Int) + 1) = ((m + 1 : Nat) : Int) := wrap_succ (by omega)
     revert hF;refine zrg [1, 4, 2] [1, 5, 6, 7, 8, 9, 10, 11, 12, 13] fun a hF => ?_
     exact hKBm ((seatsS r).length - (m + 1)) _ _ (by omega) ⟨m + 1, by omega, _, hF, HS⟩
    clear hKBm hikm
    refine wp_block ?_
    have hms := hlt
    have hmi : (m : Int) < ((seatsS r).length : Nat) := by omega
    have hnx : X ++ ((seatsS r).take (m + 1)).map (seatPlace h l n i k r) = X ++ ((seatsS r).take m).map (seatPlace h l n i k r) ++ [seatPlace h l n i k r (seatsS r)[m]] := by
     rw [List.take_succ_eq_append_getElem hms, List.map_append, List.append_assoc]
     rfl
    rw [hnx] at hKCm
    clear hnx
    obtain ⟨q, hq⟩ : ∃ q, q = (seatsS r)[m] := ⟨_, rfl⟩
    have HQ := Lib.hid hq
    rw [← hq] at hKCm
    clear hq
    have hln : (X ++ ((seatsS r).take m).map (seatPlace h l n i k r)).length ≤ 4000 := by
     have h1 := HBX.out
     rw [List.length_append, List.length_map, List.length_take]
     omega
    obtain ⟨Y, hY⟩ : ∃ z, z = X ++ ((seatsS r).take m).map (seatPlace h l n i k r) := ⟨_, rfl⟩
    rw [← hY] at hKCm HS hln
    have HYE := Lib.hid hY
    clear hY
    have HSd : Hid (MdS w0 wr.drew h gh v (Y) l gl r gr sa sc) := HS.out.down (below_d (Below.refl _ _))
    clear HS
    obtain ⟨ba, oba, hba, e0, e1, e2, e3, e4, e5, e6, e7⟩ := row_at HSd.out.seats.recs m (by simpa using hms) (by simpa using hms)
    simp only [List.getElem_map, seatRow] at e1 e2 e5
    have hpx : (seatsS r)[m] = q := by rw [HQ.out]
    rw [hpx] at e1 e5
    have HSA := Lib.hid hba
    rw [hba] at hF
    clear hpx hba e0 e3 e4 e6 e7
    refine wp_seq_k (fun K hK => ?_)
    have HST : Hid (∀ w', Below wr.drew.heap.size wr.drew w' → Below wr.drew.heap.size wr.drew w' ∧ w'.cell? ⟨ba, oba + m * 8 + 1, none⟩ = some (.int .i64 q.2) ∧ w'.cell? ⟨ba, oba + m * 8 + 2, none⟩ = some (.int .i64 r.y) ∧ w'.cell? ⟨ba, oba + m * 8 + 5, none⟩ = some (.int .i64 q.1)) := fun w' hb => ⟨hb, Below.cell_of hb e1, Below.cell_of hb e2, Below.cell_of hb e5⟩
    clear e1 e2 e5
    refine region_any (by kernel_rfl) ?_;generalize wr.drew = wd at *;revert hF;refine zhc (fuel := 2) (fun w' => Below wd.heap.size wd w' ∧ w'.cell? ⟨ba, oba + m * 8 + 1, none⟩ = some (.int .i64 q.2) ∧ w'.cell? ⟨ba, oba + m * 8 + 2, none⟩ = some (.int .i64 r.y) ∧ w'.cell? ⟨ba, oba + m * 8 + 5, none⟩ = some (.int .i64 q.1)) (HST.out _ (Below.refl _ _)) [1, 17, 33, 49, 65, 88, 104, 115, 129, 145, 168, 184, 195, 209, 225, 248, 264, 275, 296] fun a hF => ?_;refine held_one (n := 19) (fuel := 1) (by kernel_rfl) ?_;revert hF;refine qe0 fun a hF => ⟨?_, ?_⟩
    ·
     intro _
     exact HST.out _ (Joins.below_alloc1 wd _)
    have hbx := Joins.below_alloc1 wd (.cells #[.int .i64 0, .int .i64 0, .int .i64 0, .int .i64 0, .int .i64 0, .int .i64 0, .int .i64 0, .int .i64 0, .int .i64 0] 52)
    have hx0 : (wd.alloc (.cells #[.int .i64 0, .int .i64 0, .int .i64 0, .int .i64 0, .int .i64 0, .int .i64 0, .int .i64 0, .int .i64 0, .int .i64 0] 52)).heap[wd.heap.size]? = some (.cells #[.int .i64 0, .int .i64 0, .int .i64 0, .int .i64 0, .int .i64 0, .int .i64 0, .int .i64 0, .int .i64 0, .int .i64 0] 52 (0, 0)) := World.alloc_heap_new _ _
    generalize wd.alloc (.cells #[.int .i64 0, .int .i64 0, .int .i64 0, .int .i64 0, .int .i64 0, .int .i64 0, .int .i64 0, .int .i64 0, .int .i64 0] 52) = wa at *
    obtain ⟨gp, hgp0⟩ : ∃ gp, gp = wd.heap.size := ⟨_, rfl⟩
    have hgp : wd.heap.size ≤ gp := by omega
    rw [← hgp0] at hF hx0
    clear hgp0
    have hSV := run_storeVar_row (P := Tryz.prog) wa gp 52 52 #[.int .i64 0, .int .i64 0, .int .i64 0, .int .i64 0, .int .i64 0, .int .i64 0, .int .i64 0, .int .i64 0, .int .i64 0] #[.int .i64 0, .int .i64 n, .int .i64 i, .int .i64 k, .int .i64 q.1, .int .i64 q.2, .int .i64 r.y, .int .i64 0, .int .i64 (-1)] hx0 (by kernel_rfl) rfl (by simp [Value.oneCell'])
    have hrow := setRow_heap wa gp #[.int .i64 0, .int .i64 0, .int .i64 0, .int .i64 0, .int .i64 0, .int .i64 0, .int .i64 0, .int .i64 0, .int .i64 0] #[.int .i64 0, .int .i64 n, .int .i64 i, .int .i64 k, .int .i64 q.1, .int .i64 q.2, .int .i64 r.y, .int .i64 0, .int .i64 (-1)] 52 (0, 0) hx0
    have hbs : Below wd.heap.size wd (wa.setRow gp #[.int .i64 0, .int .i64 n, .int .i64 i, .int .i64 k, .int .i64 q.1, .int .i64 q.2, .int .i64 r.y, .int .i64 0, .int .i64 (-1)]) := below_setRow hbx hgp #[.int .i64 0, .int .i64 n, .int .i64 i, .int .i64 k, .int .i64 q.1, .int .i64 q.2, .int .i64 r.y, .int .i64 0, .int .i64 (-1)]
    have HFIN := Lib.hid (And.intro hrow (And.intro hbs hgp))
    clear hx0 hbx hrow hbs hgp
    refine held_one (n := 20) (fuel := 0) (by kernel_rfl) ?_;refine op_storev rfl rfl hF rfl rfl rfl rfl hSV ?_;clear hF;refine fun a hF => ⟨?_, ?_⟩
    ·
     intro _
     exact HST.out _ HFIN.out.2.1
    clear hSV
    refine held_end (by kernel_rfl) ?_;replace hF := hF.kp [1, 5, 6, 7, 8, 9, 10, 11, 12, 13, 14] rfl;refine hK _ _ ?_;clear hK
    have HS : Hid (MdS w0 (wa.setRow gp #[.int .i64 0, .int .i64 n, .int .i64 i, .int .i64 k, .int .i64 q.1, .int .i64 q.2, .int .i64 r.y, .int .i64 0, .int .i64 (-1)]) h gh v Y l gl r gr sa sc ∧ PvS w0 (wa.setRow gp #[.int .i64 0, .int .i64 n, .int .i64 i, .int .i64 k, .int .i64 q.1, .int .i64 q.2, .int .i64 r.y, .int .i64 0, .int .i64 (-1)]) v gp ⟨0, n, i, k, q.1, q.2, r.y, 0, -1⟩) := ⟨HSd.out.down HFIN.out.2.1, HFIN.out.1, Nat.le_trans HSd.out.bd.below.size HFIN.out.2.2, fun e => by
     have h1 := (HSd.out.bd.row.lt gp e).2
     have h2 := HFIN.out.2.2
     omega⟩
    clear HSd HFIN HST
    generalize wa.setRow gp #[.int .i64 0, .int .i64 n, .int .i64 i, .int .i64 k, .int .i64 q.1, .int .i64 q.2, .int .i64 r.y, .int .i64 0, .int .i64 (-1)] = wp at *
    rw [← HSA.out] at hF
    clear HSA
    refine wp_seq_k (fun K hK => ?_)
    obtain ⟨c0, c1, c2, c3⟩ := HS.out.1.bd.hall.cells
    obtain ⟨p0, p1, p2, p3, p4, p5, p6, p7, p8⟩ := HS.out.2.at'.cells
    revert hF;refine zrp [4, 1, 4, 4, 4, 4, 5] [7, 8, 9] fun a hF => ?_;revert hF;refine zos fun K hK => ?_
    refine (rview_any _ h n ⟨q.2, r.y⟩ (HH.out.below HS.out.1.bd.below) l HLN.out (by omega)).mono ?_
    rintro e wv ⟨rfl, hbv⟩
    clear c0 c1 c2 c3 p0 p1 p2 p3 p4 p5 p6 p7 p8
    have HSv : Hid (MdS w0 wv h gh v (Y) l gl r gr sa sc ∧ PvS w0 wv v gp ⟨0, n, i, k, q.1, q.2, r.y, 0, -1⟩) := ⟨HS.out.1.down hbv, HS.out.2.down hbv⟩
    clear HS hbv
    obtain ⟨vw, hvw⟩ : ∃ x, x = viewS h.stage l ⟨q.2, r.y⟩ := ⟨_, rfl⟩
    rw [← hvw]
    have HVW := Lib.hid hvw
    clear hvw
    obtain ⟨p0, p1, p2, p3, p4, p5, p6, p7, p8⟩ := HSv.out.2.at'.cells
    have f7 := HSv.out.2.at'.free 7
    refine hK _ _ (fun a hF => ?_);clear hK K;revert hF;refine zrc 8 [4] [9] fun a hF => ?_;refine seq_one ?_;revert hF;refine qu2 fun a hF => ?_;refine seq_end ?_;replace hF := hF.kp [1, 5, 6, 7, 8, 9, 10, 11, 12, 13, 14] rfl;refine hK _ _ ?_;clear hK
    clear p0 p1 p2 p3 p4 p5 p6 p7 p8 f7
    have HS : Hid (MdS w0 (wv.setCell ⟨gp, 7, none⟩ (.int .i64 vw)) h gh v Y l gl r gr sa sc ∧ PvS w0 (wv.setCell ⟨gp, 7, none⟩ (.int .i64 vw)) v gp ⟨0, n, i, k, q.1, q.2, r.y, vw, -1⟩) := ⟨HSv.out.1.pset HSv.out.2 7 _, HSv.out.2.at'.view _, HSv.out.2.base, HSv.out.2.ne⟩
    clear HSv
    generalize wv.setCell ⟨gp, 7, none⟩ (.int .i64 vw) = wy at *
    refine wp_seq_k (fun K hK => ?_)
    obtain ⟨r0, r1, r2, r3, r4, r5, r6, r7⟩ := HS.out.1.row.cells
    obtain ⟨p0, p1, p2, p3, p4, p5, p6, p7, p8⟩ := HS.out.2.at'.cells
    revert hF;refine zrp [4, 4, 4] [3, 4, 5] fun a hF => ?_;revert hF;refine zos fun K hK => ?_
    refine (refmark_any wy r q.1 (HRI.out.below HS.out.1.bd.below)).mono ?_
    rintro e wm ⟨rfl, hbm⟩
    clear r0 r1 r2 r3 r4 r5 r6 r7 p0 p1 p2 p3 p4 p5 p6 p7 p8
    have HSm : Hid (MdS w0 wm h gh v (Y) l gl r gr sa sc ∧ PvS w0 wm v gp ⟨0, n, i, k, q.1, q.2, r.y, vw, -1⟩) := ⟨HS.out.1.down hbm, HS.out.2.down hbm⟩
    clear HS hbm
    obtain ⟨mk, hmk⟩ : ∃ x, x = markS r.marks q.1 := ⟨_, rfl⟩
    rw [← hmk]
    have HMK := Lib.hid hmk
    clear hmk
    refine hK _ _ (fun a hF => ?_);clear hK K;refine seq_one ?_;revert hF;refine qe0 fun a hF => ?_
    obtain ⟨wa, gm, hwa, hgv, hSV, HTW⟩ := var_new wm 46 #[.int .i64 0, .int .i64 0, .int .i64 0] #[.int .i64 mk.kind, .int .i64 mk.seat, .int .i64 mk.wth] (by kernel_rfl) rfl (by simp [Value.oneCell'])
    rw [hwa]
    rw [← hgv] at hF
    clear hwa hgv
    refine seq_one ?_;refine op_storev rfl rfl hF rfl rfl rfl rfl hSV ?_;clear hF;refine fun a hF => ?_
    clear hSV
    refine hK _ _ ?_;clear hK
    generalize wa.setRow gm #[.int .i64 mk.kind, .int .i64 mk.seat, .int .i64 mk.wth] = wk at *
    have HS : Hid (MdS w0 wk h gh v Y l gl r gr sa sc ∧ PvS w0 wk v gp ⟨0, n, i, k, q.1, q.2, r.y, vw, -1⟩ ∧ MarkIn wk gm mk) := ⟨HSm.out.1.down HTW.out.1, HSm.out.2.down HTW.out.1, HTW.out.2.1⟩
    clear HSm HTW
    refine seq_cut (fun a' w' => FrF 259 [] [(1, .pointer (some ⟨gh, 0, none⟩)), (5, v), (6, .int .i64 n), (7, .pointer (some ⟨gl, 0, none⟩)), (8, .int .i64 i), (9, .int .i64 k), (10, .pointer (some ⟨gr, 0, none⟩)), (11, .slice sa (seatsS r).length sc), (12, .int .i64 (X.length : Nat)), (13, .int .i64 m), (14, .pointer (some ⟨gp, 0, none⟩)), (15, .pointer (some ⟨gm, 0, none⟩))] a' ∧ Hid (MdS w0 w' h gh v (Y) l gl r gr sa sc ∧ PvS w0 w' v gp ⟨0, n, i, k, q.1, q.2, r.y, (if mk.kind = 3 then max vw 2 else vw), -1⟩ ∧ MarkIn w' gm mk)) (fun KJ hKJ => ?_) ?_
    ·
     skip
     obtain ⟨m0, m1, m2⟩ := HS.out.2.2.cells
     by_cases h3 : mk.kind = 3
     ·
      have b3 : (mk.kind == 3) = true := by simp [h3]
      have HE : Hid (((if mk.kind = 3 then max vw 2 else vw) : Int) = max vw 2 ∧ (0 : Int) = 0) := by
       rw [h3]
       exact ⟨by simp, by simp [kindS]⟩
      rw [HE.out.1, HE.out.2] at hKJ
      clear h3 HE
      revert hF;refine zrs [4, 4, 4] [1, 5, 6, 7, 8, 9, 10, 11, 12, 13, 14, 15, 111] fun a hF => ?_
      refine cond_yes hF rfl ?_
      obtain ⟨p0, p1, p2, p3, p4, p5, p6, p7, p8⟩ := HS.out.2.1.at'.cells
      have f7 := HS.out.2.1.at'.free 7
      revert hF;refine zrp [4, 4, 4, 4] [4] fun a hF => ?_;refine seq_one ?_;revert hF;refine qu2 fun a hF => ?_;refine seq_end ?_;replace hF := hF.kp [1, 5, 6, 7, 8, 9, 10, 11, 12, 13, 14, 15] rfl
      clear m0 m1 m2 p0 p1 p2 p3 p4 p5 p6 p7 p8 f7
      exact hKJ _ _ ⟨hF.sub ⟨rfl, rfl, rfl, rfl, rfl, rfl, rfl, rfl, rfl, rfl, rfl, rfl, trivial⟩, HS.out.1.pset HS.out.2.1 7 _, ⟨HS.out.2.1.at'.view _, HS.out.2.1.base, HS.out.2.1.ne⟩, (HS.out.1.bd.pset HS.out.2.1 7 _).2.keep HS.out.2.2 (by decide)⟩
     have b3 : (mk.kind == 3) = false := by simp [h3]
     have HE : Hid (((if mk.kind = 3 then max vw 2 else vw) : Int) = vw ∧ (0 : Int) = 0) := by
      refine ⟨?_, ?_⟩ <;> simp [h3, kindS]
     rw [HE.out.1, HE.out.2] at hKJ
     clear h3 HE
     revert hF;refine zrs [4, 4, 4] [1, 5, 6, 7, 8, 9, 10, 11, 12, 13, 14, 15, 111] fun a hF => ?_
     clear m0 m1 m2
     refine cond_no hF rfl ?_
     refine wp_skip ?_
     exact hKJ _ _ ⟨hF.sub ⟨rfl, rfl, rfl, rfl, rfl, rfl, rfl, rfl, rfl, rfl, rfl, rfl, trivial⟩, HS⟩
    clear hF HS
    rintro a wb ⟨hF, HS⟩
    refine seq_cut (fun a' w' => FrF 259 [] [(1, .pointer (some ⟨gh, 0, none⟩)), (5, v), (6, .int .i64 n), (7, .pointer (some ⟨gl, 0, none⟩)), (8, .int .i64 i), (9, .int .i64 k), (10, .pointer (some ⟨gr, 0, none⟩)), (11, .slice sa (seatsS r).length sc), (12, .int .i64 (X.length : Nat)), (13, .int .i64 m), (14, .pointer (some ⟨gp, 0, none⟩)), (15, .pointer (some ⟨gm, 0, none⟩))] a' ∧ Hid (MdS w0 w' h gh v (Y) l gl r gr sa sc ∧ PvS w0 w' v gp ⟨(if mk.kind = 2 then 1 else 0), n, i, k, q.1, q.2, r.y, (if mk.kind = 3 then max vw 2 else vw), -1⟩ ∧ MarkIn w' gm mk)) (fun KJ hKJ => ?_) ?_
    ·
     skip
     obtain ⟨m0, m1, m2⟩ := HS.out.2.2.cells
     by_cases h3 : mk.kind = 2
     ·
      have b3 : (mk.kind == 2) = true := by simp [h3]
      have HE : Hid (((if mk.kind = 3 then max vw 2 else vw) : Int) = (if mk.kind = 3 then max vw 2 else vw) ∧ ((if mk.kind = 2 then 1 else 0) : Int) = 1) := by
       rw [h3]
       exact ⟨by simp, by simp [kindS]⟩
      rw [HE.out.1, HE.out.2] at hKJ
      clear h3 HE
      revert hF;refine zrs [4, 4, 4] [1, 5, 6, 7, 8, 9, 10, 11, 12, 13, 14, 15, 118] fun a hF => ?_
      refine cond_yes hF rfl ?_
      obtain ⟨p0, p1, p2, p3, p4, p5, p6, p7, p8⟩ := HS.out.2.1.at'.cells
      have f0 := HS.out.2.1.at'.free 0
      revert hF;refine zrp [4] [1] fun a hF => ?_;refine seq_one ?_;revert hF;refine qu1 fun a hF => ?_;refine seq_end ?_;replace hF := hF.kp [1, 5, 6, 7, 8, 9, 10, 11, 12, 13, 14, 15] rfl
      clear m0 m1 m2 p0 p1 p2 p3 p4 p5 p6 p7 p8 f0
      exact hKJ _ _ ⟨hF.sub ⟨rfl, rfl, rfl, rfl, rfl, rfl, rfl, rfl, rfl, rfl, rfl, rfl, trivial⟩, HS.out.1.pset HS.out.2.1 0 _, ⟨HS.out.2.1.at'.kind _, HS.out.2.1.base, HS.out.2.1.ne⟩, (HS.out.1.bd.pset HS.out.2.1 0 _).2.keep HS.out.2.2 (by decide)⟩
     have b3 : (mk.kind == 2) = false := by simp [h3]
     have HE : Hid (((if mk.kind = 3 then max vw 2 else vw) : Int) = (if mk.kind = 3 then max vw 2 else vw) ∧ ((if mk.kind = 2 then 1 else 0) : Int) = 0) := by
      refine ⟨?_, ?_⟩ <;> simp [h3, kindS]
     rw [HE.out.1, HE.out.2] at hKJ
     clear h3 HE
     revert hF;refine zrs [4, 4, 4] [1, 5, 6, 7, 8, 9, 10, 11, 12, 13, 14, 15, 118] fun a hF => ?_
     clear m0 m1 m2
     refine cond_no hF rfl ?_
     refine wp_skip ?_
     exact hKJ _ _ ⟨hF.sub ⟨rfl, rfl, rfl, rfl, rfl, rfl, rfl, rfl, rfl, rfl, rfl, rfl, trivial⟩, HS⟩
    clear hF HS
    rintro a wc ⟨hF, HS⟩
    refine seq_cut (fun a' w' => FrF 259 [] [(1, .pointer (some ⟨gh, 0, none⟩)), (5, v), (6, .int .i64 n), (7, .pointer (some ⟨gl, 0, none⟩)), (8, .int .i64 i), (9, .int .i64 k), (10, .pointer (some ⟨gr, 0, none⟩)), (11, .slice sa (seatsS r).length sc), (12, .int .i64 (X.length : Nat)), (13, .int .i64 m), (14, .pointer (some ⟨gp, 0, none⟩))] a' ∧ Hid (MdS w0 w' h gh v (Y) l gl r gr sa sc ∧ PvS w0 w' v gp ⟨(if mk.kind = 4 then 2 else if mk.kind = 2 then 1 else 0), n, i, k, q.1, q.2, r.y, (if mk.kind = 3 then max vw 2 else vw), -1⟩ ∧ MarkIn w' gm mk)) (fun KJ hKJ => ?_) ?_
    ·
     skip
     obtain ⟨m0, m1, m2⟩ := HS.out.2.2.cells
     by_cases h3 : mk.kind = 4
     ·
      have b3 : (mk.kind == 4) = true := by simp [h3]
      have HE : Hid (((if mk.kind = 3 then max vw 2 else vw) : Int) = (if mk.kind = 3 then max vw 2 else vw) ∧ ((if mk.kind = 4 then 2 else if mk.kind = 2 then 1 else 0) : Int) = 2) := by
       rw [h3]
       exact ⟨by simp, by simp [kindS]⟩
      rw [HE.out.1, HE.out.2] at hKJ
      clear h3 HE
      revert hF;refine zrs [4, 4, 4] [1, 5, 6, 7, 8, 9, 10, 11, 12, 13, 14, 122] fun a hF => ?_
      refine cond_yes hF rfl ?_
      obtain ⟨p0, p1, p2, p3, p4, p5, p6, p7, p8⟩ := HS.out.2.1.at'.cells
      have f0 := HS.out.2.1.at'.free 0
      revert hF;refine zrp [4] [1] fun a hF => ?_;refine seq_one ?_;revert hF;refine qu1 fun a hF => ?_;refine seq_end ?_;replace hF := hF.kp [1, 5, 6, 7, 8, 9, 10, 11, 12, 13, 14] rfl
      clear m0 m1 m2 p0 p1 p2 p3 p4 p5 p6 p7 p8 f0
      exact hKJ _ _ ⟨hF.sub ⟨rfl, rfl, rfl, rfl, rfl, rfl, rfl, rfl, rfl, rfl, rfl, trivial⟩, HS.out.1.pset HS.out.2.1 0 _, ⟨HS.out.2.1.at'.kind _, HS.out.2.1.base, HS.out.2.1.ne⟩, (HS.out.1.bd.pset HS.out.2.1 0 _).2.keep HS.out.2.2 (by decide)⟩
     have b3 : (mk.kind == 4) = false := by simp [h3]
     have HE : Hid (((if mk.kind = 3 then max vw 2 else vw) : Int) = (if mk.kind = 3 then max vw 2 else vw) ∧ ((if mk.kind = 4 then 2 else if mk.kind = 2 then 1 else 0) : Int) = (if mk.kind = 2 then 1 else 0)) := by
      refine ⟨?_, ?_⟩ <;> simp [h3, kindS]
     rw [HE.out.1, HE.out.2] at hKJ
     clear h3 HE
     revert hF;refine zrs [4, 4, 4] [1, 5, 6, 7, 8, 9, 10, 11, 12, 13, 14, 122] fun a hF => ?_
     clear m0 m1 m2
     refine cond_no hF rfl ?_
     refine wp_skip ?_
     exact hKJ _ _ ⟨hF.sub ⟨rfl, rfl, rfl, rfl, rfl, rfl, rfl, rfl, rfl, rfl, rfl, trivial⟩, HS⟩
    clear hF HS
    rintro a we ⟨hF, HS⟩
    have hpe : (⟨(if mk.kind = 4 then 2 else if mk.kind = 2 then 1 else 0), n, i, k, q.1, q.2, r.y, (if mk.kind = 3 then max vw 2 else vw), -1⟩ : PlaceR) = seatPlace h l n i k r q := by
     unfold seatPlace
     rw [← HMK.out, ← HVW.out]
     congr 1
     unfold kindS
     by_cases h2 : mk.kind = 2
     ·
      rw [if_neg (by omega), if_pos h2, if_pos h2]
     ·
      rw [if_neg h2, if_neg h2]
    obtain ⟨pp, hpp⟩ : ∃ x, x = seatPlace h l n i k r q := ⟨_, rfl⟩
    rw [← hpp] at hpe hKCm
    rw [hpe] at HS
    clear hpe hpp HMK HVW
    obtain ⟨p0, p1, p2, p3, p4, p5, p6, p7, p8⟩ := HS.out.2.1.at'.cells
    revert hF;refine zrp [1, 4] [2, 3, 4] fun a hF => ?_;refine seq_one ?_;revert hF;refine qe1 fun a hF => ?_
    obtain ⟨v', wz, hAPP, hbz, hpz, htz⟩ := bd_app HS.out.1.bd HS.out.2.1 (by omega)
    have HSz : Hid (MdS w0 wz h gh v' (Y ++ [pp]) l gl r gr sa sc) := HS.out.1.tup hbz htz
    clear HS hbz hpz htz p0 p1 p2 p3 p4 p5 p6 p7 p8
    refine seq_one ?_;refine op_append rfl rfl rfl rfl rfl hF rfl rfl rfl hAPP (fun a hF => ?_);clear hAPP;revert hF;refine zre 4 [2] [1, 5, 6, 7, 8, 9, 10, 11, 12, 13] fun a hF => ?_
    exact hKCm _ _ ⟨_, hF, HSz⟩
   clear hF HS7
   rintro a wn ⟨v, hF, HS⟩
   rw [List.take_length] at HS
   obtain ⟨T, hT⟩ : ∃ T, T = X.length + (seatsS r).length := ⟨_, rfl⟩
   have HT := Lib.hid hT
   have hTl : X.length ≤ T := by omega
   have hT4 : T ≤ 4000 := by omega
   have htl : (X ++ (seatsS r).map (seatPlace h l n i k r)).length = T := by rw [List.length_append, List.length_map, hT]
   obtain ⟨la, ca, rfl⟩ := HS.out.bd.at
   rw [htl] at HS hF
   have HSL : Hid ((seatsS r).length = T - X.length) := by
    show _ = _
    omega
   clear hT htl
   have HS8 : Hid (MdS w0 wn h gh (.slice la T ca) (rowA h l n i k r X X.length T) l gl r gr sa sc) := by
    rw [rowA_start HT.out]
    exact HS.out
   clear HS
   revert hF;refine zrs [1, 2] [1, 5, 6, 7, 8, 9, 10, 12, 16] fun a hF => ?_
   refine wp_block ?_
   refine loop_fr (fun qa a' w' => ∃ ia : Nat, (X.length ≤ ia ∧ ia + qa = T) ∧ FrF 259 [] [(1, .pointer (some ⟨gh, 0, none⟩)), (5, .slice la T ca), (6, .int .i64 n), (7, .pointer (some ⟨gl, 0, none⟩)), (8, .int .i64 i), (9, .int .i64 k), (10, .pointer (some ⟨gr, 0, none⟩)), (12, .int .i64 (X.length : Nat)), (16, .int .i64 ia)] a' ∧ Hid (MdS w0 w' h gh (.slice la T ca) (rowA h l n i k r X ia T) l gl r gr sa sc)) (T - X.length) ⟨X.length, ⟨by omega, by omega⟩, hF, HS8⟩ ?_
   clear hF HS8
   rintro rka a ws ⟨ia, ⟨hia1, hika⟩, hF, HS⟩ KBa hKBa
   refine wp_seq_k (fun K hK => ?_)
   by_cases hlt : ia < T
   rotate_left
   ·
    have hlti : ¬ (ia : Int) < (T : Nat) := by omega

    revert hF;refine zrs [1, 1, 4, 5] [1, 5, 6, 7, 8, 9, 10, 12, 16, 132] fun a hF => ?_
    refine cond_no hF rfl ?_
    refine wp_exit ?_
    have hie : ia = T := by omega
    rw [hie] at HS
    rw [rowA_done HT.out] at HS
    exact hKCr _ _ ⟨_, hF.sub ⟨rfl, rfl, rfl, rfl, rfl, rfl, trivial⟩, HS.out.bd, HS.out.lev⟩
   have hlti : (ia : Int) < (T : Nat) := by omega

   revert hF;refine zrs [1, 1, 4, 5] [1, 5, 6, 7, 8, 9, 10, 12, 16, 132] fun a hF => ?_
   refine cond_yes hF rfl ?_
   refine wp_skip ?_
   refine hK _ _ ?_;clear hK;replace hF := hF.kp [1, 5, 6, 7, 8, 9, 10, 12, 16] rfl

   refine seq_cut (fun a' w' => FrF 259 [] [(1, .pointer (some ⟨gh, 0, none⟩)), (5, .slice la T ca), (6, .int .i64 n), (7, .pointer (some ⟨gl, 0, none⟩)), (8, .int .i64 i), (9, .int .i64 k), (10, .pointer (some ⟨gr, 0, none⟩)), (12, .int .i64 (X.length : Nat)), (16, .int .i64 ia)] a' ∧ Hid (MdS w0 w' h gh (.slice la T ca) (rowA h l n i k r X (ia + 1) T) l gl r gr sa sc)) (fun KCa hKCa => ?_) ?_
   rotate_left
   ·
    clear hF HS
    rintro a w' ⟨hF, HS⟩
    have hws : IntKind.i64.wrap ((ia : Int) + 1) = ((ia + 1 : Nat) : Int) := wrap_succ (by omega)
    revert hF;refine zrg [1, 4, 2] [1, 5, 6, 7, 8, 9, 10, 12, 16] fun a hF => ?_
    exact hKBa (T - (ia + 1)) _ _ (by omega) ⟨ia + 1, ⟨by omega, by omega⟩, hF, HS⟩
   clear hKBa hika
   refine wp_block ?_
   have hia2 : ia < T := by omega
   rw [← rowA_round HWH.out HT.out hia1 hia2] at hKCa
   have hws : IntKind.i64.wrap ((T : Int) - 1) = (T : Int) - 1 := wrap_in (by omega) (by omega)
   revert hF;refine zrs [1, 4, 4, 2] [1, 5, 6, 7, 8, 9, 10, 12, 16, 17] fun a hF => ?_
   refine wp_block ?_
   refine loop_fr (fun qb a' w' => ∃ c : Nat, (c ≤ X.length + qb ∧ X.length + qb ≤ c) ∧ c ≤ T ∧ FrF 259 [] [(1, .pointer (some ⟨gh, 0, none⟩)), (5, .slice la T ca), (6, .int .i64 n), (7, .pointer (some ⟨gl, 0, none⟩)), (8, .int .i64 i), (9, .int .i64 k), (10, .pointer (some ⟨gr, 0, none⟩)), (12, .int .i64 (X.length : Nat)), (16, .int .i64 ia), (17, .int .i64 ((c : Int) - 1))] a' ∧ Hid (MdS w0 w' h gh (.slice la T ca) (rowA h l n i k r X ia c) l gl r gr sa sc)) (T - X.length) ⟨T, ⟨by omega, by omega⟩, by omega, hF, HS⟩ ?_
   clear hF HS
   rintro rkb a wr ⟨c, hcq, hcT, hF, HS⟩ KBb hKBb
   refine wp_seq_k (fun K hK => ?_)
   by_cases hlt : X.length < c
   rotate_left
   ·
    have hlti : ¬ ((X.length : Nat) : Int) ≤ (c : Int) - 1 := by omega
    revert hF;refine zrs [1, 1, 5] [1, 5, 6, 7, 8, 9, 10, 12, 16, 17, 140] fun a hF => ?_
    refine cond_no hF rfl ?_
    refine wp_exit ?_
    have hce : c = X.length := by omega
    rw [hce] at HS
    exact hKCa _ _ ⟨hF.sub ⟨rfl, rfl, rfl, rfl, rfl, rfl, rfl, rfl, rfl, trivial⟩, HS⟩
   have hlti : ((X.length : Nat) : Int) ≤ (c : Int) - 1 := by omega
   revert hF;refine zrs [1, 1, 5] [1, 5, 6, 7, 8, 9, 10, 12, 16, 17, 140] fun a hF => ?_
   refine cond_yes hF rfl ?_
   refine wp_skip ?_
   refine hK _ _ ?_;clear hK;replace hF := hF.kp [1, 5, 6, 7, 8, 9, 10, 12, 16, 17] rfl
   clear hKCa
   obtain ⟨ib, hib⟩ : ∃ ib, c = ib + 1 := ⟨c - 1, by omega⟩
   subst hib
   have hsub : (((ib + 1 : Nat) : Int) - 1) = (ib : Int) := by omega
   rw [hsub] at hF
   clear hsub hlti
   refine seq_cut (fun a' w' => FrF 259 [] [(1, .pointer (some ⟨gh, 0, none⟩)), (5, .slice la T ca), (6, .int .i64 n), (7, .pointer (some ⟨gl, 0, none⟩)), (8, .int .i64 i), (9, .int .i64 k), (10, .pointer (some ⟨gr, 0, none⟩)), (12, .int .i64 (X.length : Nat)), (16, .int .i64 ia), (17, .int .i64 ib)] a' ∧ Hid (MdS w0 w' h gh (.slice la T ca) (rowA h l n i k r X ia ib) l gl r gr sa sc)) (fun KCb hKCb => ?_) ?_
   rotate_left
   ·
    clear hF HS
    rintro a w' ⟨hF, HS⟩
    have hws : IntKind.i64.wrap ((ib : Int) - 1) = (ib : Int) - 1 := wrap_in (by omega) (by omega)
    revert hF;refine zrg [1, 4, 2] [1, 5, 6, 7, 8, 9, 10, 12, 16, 17] fun a hF => ?_
    exact hKBb (ib - X.length) _ _ (by omega) ⟨ib, ⟨by omega, by omega⟩, by omega, hF, HS⟩
   clear hKBb
   refine wp_block ?_
   have hbT : ib < T := by omega
   have hge2 : X.length ≤ ib := by omega
   have hai : ia - X.length < (seatsS r).length := by have := HT.out; omega
   have hbi : ib - X.length < (seatsS r).length := by have := HT.out; omega
   have hiai : (ia : Int) < (T : Nat) := by omega
   have hibi : (ib : Int) < (T : Nat) := by omega
   have HNO := Lib.hid (rowA_no (h := h) (l := l) (n := n) (i := i) (k := k) (r := r) HT.out hia1 hia2 hge2 hbT hai hbi)
   have HYES := Lib.hid (rowA_yes (h := h) (l := l) (n := n) (i := i) (k := k) (r := r) HT.out hia1 hia2 hge2 hbT hai hbi)
   have HEA := Lib.hid (fun h3 => rowA_elem (h := h) (l := l) (n := n) (i := i) (k := k) (r := r) (ia := ia) (c := ib + 1) (j := ia) HT.out hia1 hia2 h3 hai)
   have HEB := Lib.hid (fun h3 => rowA_elem (h := h) (l := l) (n := n) (i := i) (k := k) (r := r) (ia := ia) (c := ib + 1) (j := ib) HT.out hge2 hbT h3 hbi)
   obtain ⟨p, hp⟩ : ∃ p, p = (seatsS r)[ia - X.length] := ⟨_, rfl⟩
   obtain ⟨q, hq⟩ : ∃ p, p = (seatsS r)[ib - X.length] := ⟨_, rfl⟩
   rw [← hp, ← hq] at HNO HYES
   rw [← hp] at HEA
   rw [← hq] at HEB
   clear hp hq hai hbi
   have HSd : Hid (MdS w0 wr.drew h gh (.slice la T ca) (rowA h l n i k r X ia (ib + 1)) l gl r gr sa sc) := HS.out.down (below_d (Below.refl _ _))
   clear HS
   obtain ⟨bbx, obx, hbx, x0, x1, x2, x3, x4, x5, x6, x7, x8⟩ := place_at HSd.out.bd.recs ia (by rw [rowA_len]; have := HT.out; omega) (by rw [rowA_len]; have := HT.out; omega)
   obtain ⟨bby, oby, hby, y0, y1, y2, y3, y4, y5, y6, y7, y8⟩ := place_at HSd.out.bd.recs ib (by rw [rowA_len]; have := HT.out; omega) (by rw [rowA_len]; have := HT.out; omega)
   rw [hbx] at hby
   cases hby
   rw [(HEA.out _).1] at x0
   rw [(HEA.out _).2] at x4
   rw [(HEB.out _).1] at y0
   rw [(HEB.out _).2] at y4
   obtain ⟨r0, r1, r2, r3, r4, r5, r6, r7⟩ := HSd.out.row.cells
   have HLA := Lib.hid hbx
   rw [hbx] at hF
   clear hbx x1 x2 x3 x5 x6 x7 x8 y1 y2 y3 y5 y6 y7 y8
   refine seq_cut (fun a' w' => FrF 259 [] [(1, .pointer (some ⟨gh, 0, none⟩)), (5, .slice (some ⟨bbx, obx, none⟩) T ca), (6, .int .i64 n), (7, .pointer (some ⟨gl, 0, none⟩)), (8, .int .i64 i), (9, .int .i64 k), (10, .pointer (some ⟨gr, 0, none⟩)), (12, .int .i64 (X.length : Nat)), (16, .int .i64 ia), (17, .int .i64 ib), (196, .bool (pairB r p q))] a' ∧ Hid (MdS w0 w' h gh (.slice la T ca) (rowA h l n i k r X ia (ib + 1)) l gl r gr sa sc)) (fun KJ hKJ => ?_) ?_
   ·
    clear hKCb
    obtain ⟨mp, hmp⟩ : ∃ x, x = markS r.marks p.1 := ⟨_, rfl⟩
    obtain ⟨mq, hmq⟩ : ∃ x, x = markS r.marks q.1 := ⟨_, rfl⟩
    have HPB : Hid (pairB r p q = ((decide (mp.kind = 4) && decide (mp.wth = q.1)) || ((decide (mp.kind = 2) && decide (mq.kind = 4)) && decide (mq.wth = p.1)))) := by
     rw [hmp, hmq]
     rfl
    rw [← hmp] at x0
    rw [← hmq] at y0
    have HMP := Lib.hid hmp
    have HMQ := Lib.hid hmq
    clear hmp hmq
    by_cases h4 : mp.kind = 4
    ·
     have hk : (kindS mp.kind == 2) = true := by rw [h4]; rfl
     have hk1 : (kindS mp.kind == 1) = false := by rw [h4]; rfl
     obtain ⟨d, hd⟩ : ∃ d, d = (mp.wth == q.1) := ⟨_, rfl⟩
     have HPD : Hid (pairB r p q = d) := by
      show _ = _
      rw [HPB.out, h4, hd]
      by_cases e : mp.wth = q.1 <;> simp [e]
     clear h4 HPB
     obtain ⟨kp, hkp⟩ : ∃ x, x = kindS mp.kind := ⟨_, rfl⟩
     rw [← hkp] at x0 hk hk1
     clear hkp
     have hde : (mp.wth == q.1) = d := hd.symm
     clear hd
     have HST : Hid (∀ w', Below wr.drew.heap.size wr.drew w' → Below wr.drew.heap.size wr.drew w' ∧ w'.cell? ⟨bbx, obx + ia * 9, none⟩ = some (.int .i64 kp) ∧ w'.cell? ⟨bbx, obx + ia * 9 + 4, none⟩ = some (.int .i64 p.1) ∧ w'.cell? ⟨bbx, obx + ib * 9, none⟩ = some (.int .i64 (kindS mq.kind)) ∧ w'.cell? ⟨bbx, obx + ib * 9 + 4, none⟩ = some (.int .i64 q.1) ∧ w'.cell? ⟨gr, 0, none⟩ = some (.string (bs r.name)) ∧ w'.cell? ⟨gr, 1, none⟩ = some (.int .i64 r.x) ∧ w'.cell? ⟨gr, 2, none⟩ = some (.int .i64 r.y) ∧ w'.cell? ⟨gr, 3, none⟩ = some (.int .i64 r.fr) ∧ w'.cell? ⟨gr, 4, none⟩ = some (.int .i64 r.to) ∧ w'.cell? ⟨gr, 5, none⟩ = some (.int .i64 r.step) ∧ w'.cell? ⟨gr, 6, none⟩ = some (.slice r.ma r.mn r.mc) ∧ w'.cell? ⟨gr, 7, none⟩ = some (.int .i64 r.at')) := fun w' hb => ⟨hb, Below.cell_of hb x0, Below.cell_of hb x4, Below.cell_of hb y0, Below.cell_of hb y4, Below.cell_of hb r0, Below.cell_of hb r1, Below.cell_of hb r2, Below.cell_of hb r3, Below.cell_of hb r4, Below.cell_of hb r5, Below.cell_of hb r6, Below.cell_of hb r7⟩
     clear x0 x4 y0 y4 r0 r1 r2 r3 r4 r5 r6 r7
     have hfm := run_field_mark2
     rw [HPD.out] at hKJ
     cases d
     ·
      refine region_any (by kernel_rfl) ?_;generalize wr.drew = wd at *;revert hF;refine zhc (fuel := 36) (fun w' => Below wd.heap.size wd w' ∧ w'.cell? ⟨bbx, obx + ia * 9, none⟩ = some (.int .i64 kp) ∧ w'.cell? ⟨bbx, obx + ia * 9 + 4, none⟩ = some (.int .i64 p.1) ∧ w'.cell? ⟨bbx, obx + ib * 9, none⟩ = some (.int .i64 (kindS mq.kind)) ∧ w'.cell? ⟨bbx, obx + ib * 9 + 4, none⟩ = some (.int .i64 q.1) ∧ w'.cell? ⟨gr, 0, none⟩ = some (.string (bs r.name)) ∧ w'.cell? ⟨gr, 1, none⟩ = some (.int .i64 r.x) ∧ w'.cell? ⟨gr, 2, none⟩ = some (.int .i64 r.y) ∧ w'.cell? ⟨gr, 3, none⟩ = some (.int .i64 r.fr) ∧ w'.cell? ⟨gr, 4, none⟩ = some (.int .i64 r.to) ∧ w'.cell? ⟨gr, 5, none⟩ = some (.int .i64 r.step) ∧ w'.cell? ⟨gr, 6, none⟩ = some (.slice r.ma r.mn r.mc) ∧ w'.cell? ⟨gr, 7, none⟩ = some (.int .i64 r.at')) (HST.out _ (Below.refl _ _)) [1, 17, 40, 56, 67, 88, 97, 115, 129, 145, 168, 184, 195, 241, 257, 280, 296, 307] fun a hF => ?_;refine held_one (n := 13) (fuel := 35) (by kernel_rfl) ?_;revert hF;refine zoc fun K hK => ?_
      have hC := refmark_any wd r p.1 (HRI.out.below HSd.out.bd.below)
      rw [← HMP.out] at hC
      refine hC.mono ?_
      rintro e wm ⟨rfl, hbm⟩
      have HSm := Lib.hid (HSd.out.down hbm)
      clear hC HSd
      refine hK _ _ (fun a hF => ⟨?_, ?_⟩)
      ·
       intro _
       exact HST.out _ hbm
      clear hK K
      revert hF;refine zhg (fuel := 0) (HST.out _ hbm) [232, 328, 344, 353, 369, 385, 408, 424, 435, 456, 465, 480, 496, 512, 528, 544, 560, 584, 593, 608, 624, 640, 656, 672, 688, 704, 720, 736, 752, 768, 784, 800, 816, 840, 856] fun a hF => ?_;refine held_end (by kernel_rfl) ?_;replace hF := hF.kp [1, 5, 6, 7, 8, 9, 10, 12, 16, 17, 196] rfl
      exact hKJ _ _ ⟨hF, HSm⟩
     ·
      refine region_any (by kernel_rfl) ?_;generalize wr.drew = wd at *;revert hF;refine zhc (fuel := 36) (fun w' => Below wd.heap.size wd w' ∧ w'.cell? ⟨bbx, obx + ia * 9, none⟩ = some (.int .i64 kp) ∧ w'.cell? ⟨bbx, obx + ia * 9 + 4, none⟩ = some (.int .i64 p.1) ∧ w'.cell? ⟨bbx, obx + ib * 9, none⟩ = some (.int .i64 (kindS mq.kind)) ∧ w'.cell? ⟨bbx, obx + ib * 9 + 4, none⟩ = some (.int .i64 q.1) ∧ w'.cell? ⟨gr, 0, none⟩ = some (.string (bs r.name)) ∧ w'.cell? ⟨gr, 1, none⟩ = some (.int .i64 r.x) ∧ w'.cell? ⟨gr, 2, none⟩ = some (.int .i64 r.y) ∧ w'.cell? ⟨gr, 3, none⟩ = some (.int .i64 r.fr) ∧ w'.cell? ⟨gr, 4, none⟩ = some (.int .i64 r.to) ∧ w'.cell? ⟨gr, 5, none⟩ = some (.int .i64 r.step) ∧ w'.cell? ⟨gr, 6, none⟩ = some (.slice r.ma r.mn r.mc) ∧ w'.cell? ⟨gr, 7, none⟩ = some (.int .i64 r.at')) (HST.out _ (Below.refl _ _)) [1, 17, 40, 56, 67, 88, 97, 115, 129, 145, 168, 184, 195, 241, 257, 280, 296, 307] fun a hF => ?_;refine held_one (n := 13) (fuel := 35) (by kernel_rfl) ?_;revert hF;refine zoc fun K hK => ?_
      have hC := refmark_any wd r p.1 (HRI.out.below HSd.out.bd.below)
      rw [← HMP.out] at hC
      refine hC.mono ?_
      rintro e wm ⟨rfl, hbm⟩
      have HSm := Lib.hid (HSd.out.down hbm)
      clear hC HSd
      refine hK _ _ (fun a hF => ⟨?_, ?_⟩)
      ·
       intro _
       exact HST.out _ hbm
      clear hK K
      revert hF;refine zhg (fuel := 0) (HST.out _ hbm) [232, 328, 344, 353, 368, 384, 400, 416, 432, 448, 464, 480, 496, 512, 528, 544, 560, 576, 592, 608, 624, 640, 656, 672, 688, 704, 720, 736, 752, 768, 784, 800, 816, 832, 856] fun a hF => ?_;refine held_end (by kernel_rfl) ?_;replace hF := hF.kp [1, 5, 6, 7, 8, 9, 10, 12, 16, 17, 196] rfl
      exact hKJ _ _ ⟨hF, HSm⟩
    have hk : (kindS mp.kind == 2) = false := by
     have : ¬ kindS mp.kind = 2 := fun e => h4 (kindS_two.1 e)
     simpa using this
    by_cases h2 : mp.kind = 2
    rotate_left
    ·
     have hk1 : (kindS mp.kind == 1) = false := by
      have : ¬ kindS mp.kind = 1 := fun e => h2 (kindS_one.1 e)
      simpa using this
     have HPD : Hid (pairB r p q = false) := by
      show _ = _
      rw [HPB.out]
      simp [h4, h2]
     rw [HPD.out] at hKJ
     clear h4 h2 HPB HPD
     generalize kindS mp.kind = kp at *
     refine region_any (by kernel_rfl) ?_;revert hF;refine zrb (fuel := 0) [1, 33, 74, 105, 148, 169, 193, 240, 256, 288, 320, 352, 400, 432, 448, 480, 512, 544, 576, 624, 640, 682, 705, 737, 769, 810, 841, 884, 905, 929, 960, 992, 1024, 1056, 1104, 1120, 1162, 1185, 1232, 1248, 1280, 1312, 1344, 1392, 1424, 1440, 1472, 1504, 1536, 1568, 1616, 1632, 1674, 1706] [1, 5, 6, 7, 8, 9, 10, 12, 16, 17, 196] fun a hF => ?_
     exact hKJ _ _ ⟨hF, HSd⟩
    have hk1 : (kindS mp.kind == 1) = true := by rw [h2]; rfl
    by_cases hq4 : mq.kind = 4
    rotate_left
    ·
     have hq2 : (kindS mq.kind == 2) = false := by
      have : ¬ kindS mq.kind = 2 := fun e => hq4 (kindS_two.1 e)
      simpa using this
     have HPD : Hid (pairB r p q = false) := by
      show _ = _
      rw [HPB.out]
      simp [h4, hq4]
     rw [HPD.out] at hKJ
     clear h4 h2 hq4 HPB HPD
     generalize kindS mp.kind = kp at *
     generalize kindS mq.kind = kq at *
     refine region_any (by kernel_rfl) ?_;revert hF;refine zrb (fuel := 0) [1, 33, 74, 105, 148, 169, 193, 240, 256, 288, 320, 352, 400, 432, 448, 480, 512, 544, 576, 624, 640, 682, 705, 737, 769, 810, 841, 884, 905, 929, 961, 993, 1034, 1065, 1108, 1129, 1162, 1185, 1232, 1248, 1280, 1312, 1344, 1392, 1424, 1440, 1472, 1504, 1536, 1568, 1616, 1632, 1674, 1706] [1, 5, 6, 7, 8, 9, 10, 12, 16, 17, 196] fun a hF => ?_
     exact hKJ _ _ ⟨hF, HSd⟩
    have hq2 : (kindS mq.kind == 2) = true := by rw [hq4]; rfl
    obtain ⟨d, hd⟩ : ∃ d, d = (mq.wth == p.1) := ⟨_, rfl⟩
    have HPD : Hid (pairB r p q = d) := by
     show _ = _
     rw [HPB.out, h2, hq4, hd]
     by_cases e : mq.wth = p.1 <;> simp [e]
    have hde : (mq.wth == p.1) = d := hd.symm
    rw [HPD.out] at hKJ
    clear h4 h2 hq4 HPB HPD hd
    generalize kindS mp.kind = kp at *
    generalize kindS mq.kind = kq at *
    have HST : Hid (∀ w', Below wr.drew.heap.size wr.drew w' → Below wr.drew.heap.size wr.drew w' ∧ w'.cell? ⟨bbx, obx + ia * 9, none⟩ = some (.int .i64 kp) ∧ w'.cell? ⟨bbx, obx + ia * 9 + 4, none⟩ = some (.int .i64 p.1) ∧ w'.cell? ⟨bbx, obx + ib * 9, none⟩ = some (.int .i64 kq) ∧ w'.cell? ⟨bbx, obx + ib * 9 + 4, none⟩ = some (.int .i64 q.1) ∧ w'.cell? ⟨gr, 0, none⟩ = some (.string (bs r.name)) ∧ w'.cell? ⟨gr, 1, none⟩ = some (.int .i64 r.x) ∧ w'.cell? ⟨gr, 2, none⟩ = some (.int .i64 r.y) ∧ w'.cell? ⟨gr, 3, none⟩ = some (.int .i64 r.fr) ∧ w'.cell? ⟨gr, 4, none⟩ = some (.int .i64 r.to) ∧ w'.cell? ⟨gr, 5, none⟩ = some (.int .i64 r.step) ∧ w'.cell? ⟨gr, 6, none⟩ = some (.slice r.ma r.mn r.mc) ∧ w'.cell? ⟨gr, 7, none⟩ = some (.int .i64 r.at')) := fun w' hb => ⟨hb, Below.cell_of hb x0, Below.cell_of hb x4, Below.cell_of hb y0, Below.cell_of hb y4, Below.cell_of hb r0, Below.cell_of hb r1, Below.cell_of hb r2, Below.cell_of hb r3, Below.cell_of hb r4, Below.cell_of hb r5, Below.cell_of hb r6, Below.cell_of hb r7⟩
    clear x0 x4 y0 y4 r0 r1 r2 r3 r4 r5 r6 r7
    have hfm := run_field_mark2
    refine region_any (by kernel_rfl) ?_;generalize wr.drew = wd at *;revert hF;refine zhc (fuel := 5) (fun w' => Below wd.heap.size wd w' ∧ w'.cell? ⟨bbx, obx + ia * 9, none⟩ = some (.int .i64 kp) ∧ w'.cell? ⟨bbx, obx + ia * 9 + 4, none⟩ = some (.int .i64 p.1) ∧ w'.cell? ⟨bbx, obx + ib * 9, none⟩ = some (.int .i64 kq) ∧ w'.cell? ⟨bbx, obx + ib * 9 + 4, none⟩ = some (.int .i64 q.1) ∧ w'.cell? ⟨gr, 0, none⟩ = some (.string (bs r.name)) ∧ w'.cell? ⟨gr, 1, none⟩ = some (.int .i64 r.x) ∧ w'.cell? ⟨gr, 2, none⟩ = some (.int .i64 r.y) ∧ w'.cell? ⟨gr, 3, none⟩ = some (.int .i64 r.fr) ∧ w'.cell? ⟨gr, 4, none⟩ = some (.int .i64 r.to) ∧ w'.cell? ⟨gr, 5, none⟩ = some (.int .i64 r.step) ∧ w'.cell? ⟨gr, 6, none⟩ = some (.slice r.ma r.mn r.mc) ∧ w'.cell? ⟨gr, 7, none⟩ = some (.int .i64 r.at')) (HST.out _ (Below.refl _ _)) [1, 17, 40, 56, 67, 88, 97, 112, 128, 144, 160, 176, 192, 208, 224, 240, 256, 272, 288, 304, 320, 344, 353, 369, 385, 408, 424, 435, 456, 465, 481, 497, 520, 536, 547, 568, 584, 593, 611, 625, 641, 664, 680, 691, 737, 753, 776, 792, 803] fun a hF => ?_;refine held_one (n := 44) (fuel := 4) (by kernel_rfl) ?_;revert hF;refine zoc fun K hK => ?_
    have hC := refmark_any wd r q.1 (HRI.out.below HSd.out.bd.below)
    rw [← HMQ.out] at hC
    refine hC.mono ?_
    rintro e wm ⟨rfl, hbm⟩
    have HSm := Lib.hid (HSd.out.down hbm)
    clear hC HSd
    refine hK _ _ (fun a hF => ⟨?_, ?_⟩)
    ·
     intro _
     exact HST.out _ hbm
    clear hK K
    revert hF;refine zhg (fuel := 0) (HST.out _ hbm) [728, 824, 840, 856] fun a hF => ?_;refine held_end (by kernel_rfl) ?_;replace hF := hF.kp [1, 5, 6, 7, 8, 9, 10, 12, 16, 17, 196] rfl
    exact hKJ _ _ ⟨hF, HSm⟩
   clear hF HSd x0 x4 y0 y4 r0 r1 r2 r3 r4 r5 r6 r7
   rintro a wb ⟨hF, HS⟩
   obtain ⟨t, ht⟩ : ∃ t, t = pairB r p q := ⟨_, rfl⟩
   rw [← ht] at hF HNO HYES
   clear ht
   cases t
   ·
    refine cond_no hF rfl ?_
    refine wp_skip ?_
    rw [← HLA.out] at hF
    rw [HNO.out rfl] at hKCb
    exact hKCb _ _ ⟨hF.sub ⟨rfl, rfl, rfl, rfl, rfl, rfl, rfl, rfl, rfl, rfl, trivial⟩, HS⟩
   refine cond_yes hF rfl ?_
   have hlen : ia < (rowA h l n i k r X ia (ib + 1)).length := by rw [rowA_len]; have := HT.out; omega
   rw [HYES.out rfl hlen] at hKCb
   have HROW := HS.out.bd.row
   have htl : (rowA h l n i k r X ia (ib + 1)).length = T := by rw [rowA_len]; exact HT.out.symm
   rw [htl] at HROW
   obtain ⟨gb, cur, hla, hgb, hcur, hc8, hf8, hst⟩ := own_wth HROW hlen
   rw [HLA.out] at hla
   cases hla
   have HNEW := Lib.hid (hst (ib : Int))
   have HCUR := Lib.hid hcur
   have HGB := Lib.hid hgb
   clear hst HROW hcur hgb htl
   revert hF;refine zrp [1, 1, 1, 5, 4] [5] fun a hF => ?_;refine seq_one ?_;revert hF;refine qu2 fun a hF => ?_;refine seq_end ?_;replace hF := hF.kp [1, 5, 6, 7, 8, 9, 10, 12, 16, 17] rfl
   clear hc8 hf8
   have ht : TUpd PlTy wb (wb.setCell ⟨bbx, ia * 9 + 8, none⟩ (.int .i64 (ib : Int))) := TUpd.of_set HCUR.out rfl
   rw [← HLA.out] at hF
   refine hKCb _ _ ⟨hF, HS.out.tup ⟨Below.trans HS.out.bd.below (below_set HGB.out), ht.keep HS.out.bd.hall (by decide), ?_⟩ ht⟩
   rw [List.length_set, rowA_len, ← HT.out]
   exact HNEW.out
  clear hF HS3
  rintro a w30 ⟨v, hF, HS⟩
  have HS30 : Hid (BdS w0 w30 h gh v (foldT (putArea h l n) l.areas 0 (foldT (putBlk h l n) l.blocks l.blocks.length (foldT (putLevel h) h.levels n []))) ∧ LevIn w30 gl l) := HS
  clear HS
  revert hF;refine zrs [2] [1, 5, 6, 7, 18] fun a hF => ?_
  refine wp_block ?_
  refine loop_fr (fun qj a' w' => ∃ j : Nat, j + qj = l.an ∧ ∃ v : Value, FrF 259 [] [(1, .pointer (some ⟨gh, 0, none⟩)), (5, v), (6, .int .i64 n), (7, .pointer (some ⟨gl, 0, none⟩)), (18, .int .i64 j)] a' ∧ Hid (BdS w0 w' h gh v (foldT (putArea h l n) l.areas j (foldT (putBlk h l n) l.blocks l.blocks.length (foldT (putLevel h) h.levels n []))) ∧ LevIn w' gl l)) (l.an) ⟨0, by omega, _, hF, HS30⟩ ?_
  clear hF HS30
  rintro rkj a w31 ⟨j, hikj, v, hF, HS⟩ KBj hKBj
  refine wp_seq_k (fun K hK => ?_)
  by_cases hlt : j < l.an
  rotate_left
  ·
   have hlti : ¬ (j : Int) < (l.an : Nat) := by omega
   obtain ⟨q0, q1, q2, q3, q4, q5, q6, q7⟩ := HS.out.2.cells
   revert hF;refine zrs [1, 4, 4, 4, 5] [1, 5, 6, 7, 18, 206] fun a hF => ?_
   clear q0 q1 q2 q3 q4 q5 q6 q7
   refine cond_no hF rfl ?_
   refine wp_exit ?_
   have hie : j = l.areas.length := by rw [HAL.out]; omega
   rw [hie, foldT_all, foldT_all] at HS
   exact hKCn _ _ ⟨_, hF.sub ⟨rfl, rfl, rfl, trivial⟩, HS.out.1⟩
  have hlti : (j : Int) < (l.an : Nat) := by omega
  obtain ⟨q0, q1, q2, q3, q4, q5, q6, q7⟩ := HS.out.2.cells
  revert hF;refine zrs [1, 4, 4, 4, 5] [1, 5, 6, 7, 18, 206] fun a hF => ?_
  clear q0 q1 q2 q3 q4 q5 q6 q7
  refine cond_yes hF rfl ?_
  refine wp_skip ?_
  refine hK _ _ ?_;clear hK;replace hF := hF.kp [1, 5, 6, 7, 18] rfl

  refine seq_cut (fun a' w' => ∃ v : Value, FrF 259 [] [(1, .pointer (some ⟨gh, 0, none⟩)), (5, v), (6, .int .i64 n), (7, .pointer (some ⟨gl, 0, none⟩)), (18, .int .i64 j)] a' ∧ Hid (BdS w0 w' h gh v (foldT (putArea h l n) l.areas (j + 1) (foldT (putBlk h l n) l.blocks l.blocks.length (foldT (putLevel h) h.levels n []))) ∧ LevIn w' gl l)) (fun KCj hKCj => ?_) ?_
  rotate_left
  ·
   clear hF HS
   rintro a w' ⟨v, hF, HS⟩
   have hws : IntKind.i64.wrap ((j : Int) + 1) = ((j + 1 : Nat) : Int) := wrap_succ (by omega)
   revert hF;refine zrg [1, 4, 2] [1, 5, 6, 7, 18] fun a hF => ?_
   exact hKBj (l.an - (j + 1)) _ _ (by omega) ⟨j + 1, by omega, _, hF, HS⟩
  clear hKBj hikj
  refine wp_block ?_
  have hjl : j < l.areas.length := by rw [HAL.out]; exact hlt
  have hji : (j : Int) < (l.an : Nat) := by omega
  have hjj := hlt
  rw [foldT_next _ hjl] at hKCj
  have hby0 := HB4.out (j + 1)
  rw [foldT_next _ hjl] at hby0
  obtain ⟨Y, hY⟩ : ∃ Y, Y = foldT (putArea h l n) l.areas j (foldT (putBlk h l n) l.blocks l.blocks.length (foldT (putLevel h) h.levels n [])) := ⟨_, rfl⟩
  rw [← hY] at hKCj hby0 HS
  clear hY
  obtain ⟨ar, har⟩ : ∃ a, a = l.areas[j] := ⟨_, rfl⟩
  have HARO := Lib.hid (HOKA.out _ (List.getElem_mem hjl))
  rw [← har] at hKCj hby0 HARO
  have HARE := Lib.hid har
  clear har hlt hlti
  have hKCr : ∀ a' w', (∃ v : Value, FrF 259 [] [(1, .pointer (some ⟨gh, 0, none⟩)), (5, v), (6, .int .i64 n), (7, .pointer (some ⟨gl, 0, none⟩)), (18, .int .i64 j)] a' ∧ Hid (BdS w0 w' h gh v (Y ++ areaPlaces h l n j ar) ∧ LevIn w' gl l)) → KCj a' w' := fun a' w' hh => hKCj a' w' hh
  have HBY : Hid (Y.length + ar.holds.toNat ≤ 4000) := by
   have : (putArea h l n Y (ar, j)).length = Y.length + ar.holds.toNat := by
    unfold putArea
    rw [List.length_append, areaPlaces_len]
   rw [this] at hby0
   exact hby0
  clear hby0 hKCj
  obtain ⟨a1, a2, a3, a4, a5, a6, a7, a8, a9, a10⟩ := HARO.out
  obtain ⟨q0, q1, q2, q3, q4, q5, q6, q7⟩ := HS.out.2.cells
  obtain ⟨bA, oA, hba, d0, d1, d2, d3, d4, d5, d6⟩ := area_at (HLI.out.below HS.out.1.below).areas j hjj hjl
  rw [hba] at q3
  rw [← HARE.out] at d0 d1 d2 d3 d4 d5 d6
  clear hba
  refine wp_seq_k (fun K hK => ?_);revert hF;refine zrp [4, 4, 1, 5, 4] [5, 6] fun a hF => ?_;refine seq_one ?_;revert hF;refine qe0 fun a hF => ?_
  obtain ⟨wa, ga, hwa, hgv, hSV, HTW⟩ := var_new w31 61 #[.string ⟨#[]⟩, .int .i64 0, .int .i64 0, .int .i64 0, .int .i64 0, .int .i64 0, .int .i64 0] #[.string (bs ar.name), .int .i64 ar.box.x, .int .i64 ar.box.y, .int .i64 ar.box.x2, .int .i64 ar.box.y2, .int .i64 ar.holds, .int .i64 ar.at'] (by kernel_rfl) rfl (by simp [Value.oneCell'])
  rw [hwa]
  rw [← hgv] at hF
  clear hwa hgv
  refine seq_one ?_;refine op_storev rfl rfl hF rfl rfl rfl rfl hSV ?_;clear hF;refine fun a hF => ?_
  clear hSV
  refine hK _ _ ?_;clear hK
  generalize wa.setRow ga #[.string (bs ar.name), .int .i64 ar.box.x, .int .i64 ar.box.y, .int .i64 ar.box.x2, .int .i64 ar.box.y2, .int .i64 ar.holds, .int .i64 ar.at'] = w32 at *
  clear q0 q1 q2 q3 q4 q5 q6 q7 d0 d1 d2 d3 d4 d5 d6
  have HS2 : Hid (BdS w0 w32 h gh v Y ∧ LevIn w32 gl l ∧ AreaIn w32 ga ar) := ⟨HS.out.1.down HTW.out.1, HS.out.2.down HTW.out.1, HTW.out.2.1⟩
  clear HS HTW
  have hw1 : IntKind.i64.wrap (ar.box.x + ar.box.x2) = ar.box.x + ar.box.x2 := wrap_in (by omega) (by omega)
  have hw2 : IntKind.i64.wrap (ar.box.y + ar.box.y2) = ar.box.y + ar.box.y2 := wrap_in (by omega) (by omega)
  obtain ⟨cx, hcx⟩ : ∃ c, Int.tdiv (ar.box.x + ar.box.x2) 2 = c := ⟨_, rfl⟩
  obtain ⟨cy, hcy⟩ : ∃ c, Int.tdiv (ar.box.y + ar.box.y2) 2 = c := ⟨_, rfl⟩
  have hcx1 : 0 ≤ cx ∧ cx ≤ 10000 := by
   rw [← hcx, Int.tdiv_eq_ediv_of_nonneg (by omega)]
   omega
  have hcy1 : 0 ≤ cy ∧ cy ≤ 10000 := by
   rw [← hcy, Int.tdiv_eq_ediv_of_nonneg (by omega)]
   omega
  have hw3 : IntKind.i64.wrap cx = cx := wrap_in (by omega) (by omega)
  have hw4 : IntKind.i64.wrap cy = cy := wrap_in (by omega) (by omega)
  have hw5 : IntKind.i64.wrap ((l.bn : Int) + (j : Int)) = (l.bn : Int) + (j : Int) := wrap_in (by omega) (by omega)
  clear a1 a2 a3 a4 a5 a6 a7 a8
  have HAE0 : Hid (∀ vw s (hs : s < (areaPlaces h l n j ar).length), vw = viewS h.stage l ⟨cx, cy⟩ → (areaPlaces h l n j ar)[s] = ⟨3, n, (l.bn : Int) + (j : Int), -1, ((s + 1 : Nat) : Int), cx, cy, vw, -1⟩) := fun vw s hs e => by
   rw [areaPlaces_get hs, hcx, hcy, e, HBL.out]
   simp
  obtain ⟨q0, q1, q2, q3, q4, q5, q6, q7⟩ := HS2.out.2.1.cells
  obtain ⟨a0, a1, a2, a3, a4, a5, a6⟩ := HS2.out.2.2.cells
  refine wp_seq_k (fun K hK => ?_);revert hF;refine zrp [1, 4, 4, 4, 1, 5, 4, 4, 4, 4, 4, 4, 5, 4, 4, 4, 4, 4, 4, 4, 5, 4, 7] [23, 24] fun a hF => ?_;refine seq_one ?_;revert hF;refine qe0 fun a hF => ?_
  obtain ⟨wa, gp, hwa, hgv, hSV, HTW⟩ := var_new w32 52 #[.int .i64 0, .int .i64 0, .int .i64 0, .int .i64 0, .int .i64 0, .int .i64 0, .int .i64 0, .int .i64 0, .int .i64 0] #[.int .i64 3, .int .i64 n, .int .i64 ((l.bn : Int) + (j : Int)), .int .i64 (-1), .int .i64 0, .int .i64 cx, .int .i64 cy, .int .i64 0, .int .i64 (-1)] (by kernel_rfl) rfl (by simp [Value.oneCell'])
  rw [hwa]
  rw [← hgv] at hF
  clear hwa hgv
  refine seq_one ?_;refine op_storev rfl rfl hF rfl rfl rfl rfl hSV ?_;clear hF;refine fun a hF => ?_
  clear hSV
  refine hK _ _ ?_;clear hK
  generalize wa.setRow gp #[.int .i64 3, .int .i64 n, .int .i64 ((l.bn : Int) + (j : Int)), .int .i64 (-1), .int .i64 0, .int .i64 cx, .int .i64 cy, .int .i64 0, .int .i64 (-1)] = w33 at *
  clear q0 q1 q2 q3 q4 q5 q6 q7 a0 a1 a2 a3 a4 a5 a6 hw1 hw2 hw3 hw4 hw5 hcx hcy
  have HS3 : Hid (BdS w0 w33 h gh v Y ∧ LevIn w33 gl l ∧ AreaIn w33 ga ar ∧ PvS w0 w33 v gp ⟨3, n, (l.bn : Int) + (j : Int), -1, 0, cx, cy, 0, -1⟩) := ⟨HS2.out.1.down HTW.out.1, HS2.out.2.1.down HTW.out.1, HS2.out.2.2.down HTW.out.1, HTW.out.2.1, Nat.le_trans HS2.out.1.below.size HTW.out.2.2, fun e => by
   have h1 := (HS2.out.1.row.lt gp e).2
   have h2 := HTW.out.2.2
   omega⟩
  clear HS2 HTW
  refine wp_seq_k (fun K hK => ?_)
  obtain ⟨c0, c1, c2, c3⟩ := HS3.out.1.hall.cells
  obtain ⟨p0, p1, p2, p3, p4, p5, p6, p7, p8⟩ := HS3.out.2.2.2.at'.cells
  revert hF;refine zrp [4, 1, 4, 4, 4, 4, 5] [7, 8, 9] fun a hF => ?_;revert hF;refine zos fun K hK => ?_
  refine (rview_any _ h n ⟨cx, cy⟩ (HH.out.below HS3.out.1.below) l HLN.out (by omega)).mono ?_
  rintro e w34 ⟨rfl, hbv⟩
  clear c0 c1 c2 c3 p0 p1 p2 p3 p4 p5 p6 p7 p8
  have HSv : Hid (BdS w0 w34 h gh v Y ∧ LevIn w34 gl l ∧ AreaIn w34 ga ar ∧ PvS w0 w34 v gp ⟨3, n, (l.bn : Int) + (j : Int), -1, 0, cx, cy, 0, -1⟩) := ⟨HS3.out.1.down hbv, HS3.out.2.1.down hbv, HS3.out.2.2.1.down hbv, HS3.out.2.2.2.down hbv⟩
  clear HS3 hbv
  obtain ⟨vw, hvw⟩ : ∃ x, x = viewS h.stage l ⟨cx, cy⟩ := ⟨_, rfl⟩
  have HAE : Hid (∀ s (hs : s < (areaPlaces h l n j ar).length), (areaPlaces h l n j ar)[s] = ⟨3, n, (l.bn : Int) + (j : Int), -1, ((s + 1 : Nat) : Int), cx, cy, vw, -1⟩) := fun s hs => HAE0.out vw s hs hvw
  rw [← hvw]
  clear hvw HAE0
  obtain ⟨p0, p1, p2, p3, p4, p5, p6, p7, p8⟩ := HSv.out.2.2.2.at'.cells
  have f7 := HSv.out.2.2.2.at'.free 7
  refine hK _ _ (fun a hF => ?_);clear hK K;revert hF;refine zrc 8 [4] [9] fun a hF => ?_;refine seq_one ?_;revert hF;refine qu2 fun a hF => ?_;refine seq_end ?_;replace hF := hF.kp [1, 5, 6, 7, 18, 19, 20] rfl;refine hK _ _ ?_;clear hK
  clear p0 p1 p2 p3 p4 p5 p6 p7 p8 f7
  have HS38 : Hid (BdS w0 (w34.setCell ⟨gp, 7, none⟩ (.int .i64 vw)) h gh v (Y ++ (areaPlaces h l n j ar).take 0) ∧ LevIn (w34.setCell ⟨gp, 7, none⟩ (.int .i64 vw)) gl l ∧ AreaIn (w34.setCell ⟨gp, 7, none⟩ (.int .i64 vw)) ga ar ∧ PvS w0 (w34.setCell ⟨gp, 7, none⟩ (.int .i64 vw)) v gp ⟨3, n, (l.bn : Int) + (j : Int), -1, (0 : Nat), cx, cy, vw, -1⟩) := ⟨by
   have : Y ++ (areaPlaces h l n j ar).take 0 = Y := by simp
   rw [this]
   exact (HSv.out.1.pset HSv.out.2.2.2 7 _).1, HSv.out.2.1.tupd (HSv.out.1.pset HSv.out.2.2.2 7 _).2 (by decide), (HSv.out.1.pset HSv.out.2.2.2 7 _).2.keep HSv.out.2.2.1 (by decide), HSv.out.2.2.2.at'.view _, HSv.out.2.2.2.base, HSv.out.2.2.2.ne⟩
  clear HSv
  generalize w34.setCell ⟨gp, 7, none⟩ (.int .i64 vw) = w38 at *
  revert hF;refine zrs [2] [1, 5, 6, 7, 18, 19, 20, 21] fun a hF => ?_
  refine wp_block ?_
  refine loop_fr (fun qs a' w' => ∃ s : Nat, s + qs = ar.holds.toNat ∧ ∃ v : Value, FrF 259 [] [(1, .pointer (some ⟨gh, 0, none⟩)), (5, v), (6, .int .i64 n), (7, .pointer (some ⟨gl, 0, none⟩)), (18, .int .i64 j), (19, .pointer (some ⟨ga, 0, none⟩)), (20, .pointer (some ⟨gp, 0, none⟩)), (21, .int .i64 ((s : Int) + 1))] a' ∧ Hid (BdS w0 w' h gh v (Y ++ (areaPlaces h l n j ar).take s) ∧ LevIn w' gl l ∧ AreaIn w' ga ar ∧ PvS w0 w' v gp ⟨3, n, (l.bn : Int) + (j : Int), -1, (s : Nat), cx, cy, vw, -1⟩)) (ar.holds.toNat) ⟨0, by omega, _, hF, HS38⟩ ?_
  clear hF HS38
  rintro rks a wr ⟨s, hiks, v, hF, HS⟩ KBs hKBs
  refine wp_seq_k (fun K hK => ?_)
  by_cases hlt : s < ar.holds.toNat
  rotate_left
  ·
   have hlti : ¬ (s : Int) + 1 ≤ ar.holds := by omega
   obtain ⟨_, _, _, _, _, a5, _⟩ := HS.out.2.2.1.cells
   revert hF;refine zrs [1, 4, 4, 5] [1, 5, 6, 7, 18, 19, 20, 21, 249] fun a hF => ?_
   clear a5
   refine cond_no hF rfl ?_
   refine wp_exit ?_
   have hie : s = ar.holds.toNat := by omega
   rw [hie] at HS
   have htk : Y ++ (areaPlaces h l n j ar).take ar.holds.toNat = Y ++ areaPlaces h l n j ar := by rw [List.take_of_length_le (by rw [areaPlaces_len]; omega)]
   rw [htk] at HS
   exact hKCr _ _ ⟨_, hF.sub ⟨rfl, rfl, rfl, rfl, rfl, trivial⟩, HS.out.1, HS.out.2.1⟩
  have hlti : (s : Int) + 1 ≤ ar.holds := by omega
  obtain ⟨_, _, _, _, _, a5, _⟩ := HS.out.2.2.1.cells
  revert hF;refine zrs [1, 4, 4, 5] [1, 5, 6, 7, 18, 19, 20, 21, 249] fun a hF => ?_
  clear a5
  refine cond_yes hF rfl ?_
  refine wp_skip ?_
  refine hK _ _ ?_;clear hK;replace hF := hF.kp [1, 5, 6, 7, 18, 19, 20, 21] rfl

  refine seq_cut (fun a' w' => ∃ v : Value, FrF 259 [] [(1, .pointer (some ⟨gh, 0, none⟩)), (5, v), (6, .int .i64 n), (7, .pointer (some ⟨gl, 0, none⟩)), (18, .int .i64 j), (19, .pointer (some ⟨ga, 0, none⟩)), (20, .pointer (some ⟨gp, 0, none⟩)), (21, .int .i64 ((s : Int) + 1))] a' ∧ Hid (BdS w0 w' h gh v (Y ++ (areaPlaces h l n j ar).take (s + 1)) ∧ LevIn w' gl l ∧ AreaIn w' ga ar ∧ PvS w0 w' v gp ⟨3, n, (l.bn : Int) + (j : Int), -1, ((s + 1) : Nat), cx, cy, vw, -1⟩)) (fun KCs hKCs => ?_) ?_
  rotate_left
  ·
   clear hF HS
   rintro a w' ⟨v, hF, HS⟩
   have hws : IntKind.i64.wrap ((s : Int) + 1 + 1) = ((s + 1 : Nat) : Int) + 1 := by rw [wrap_in (by omega) (by omega)]; omega
   revert hF;refine zrg [1, 4, 2] [1, 5, 6, 7, 18, 19, 20, 21] fun a hF => ?_
   exact hKBs (ar.holds.toNat - (s + 1)) _ _ (by omega) ⟨s + 1, by omega, _, hF, HS⟩
  clear hKBs hiks
  refine wp_block ?_
  have hnx : Y ++ (areaPlaces h l n j ar).take (s + 1) = Y ++ (areaPlaces h l n j ar).take s ++ [⟨3, n, (l.bn : Int) + (j : Int), -1, ((s + 1 : Nat) : Int), cx, cy, vw, -1⟩] := by
   have hsl : s < (areaPlaces h l n j ar).length := by rw [areaPlaces_len]; omega
   rw [List.take_succ_eq_append_getElem hsl, List.append_assoc, HAE.out s hsl]
  rw [hnx] at hKCs
  clear hnx
  have hln : (Y ++ (areaPlaces h l n j ar).take s).length ≤ 4000 := by
   have h1 := HBY.out
   rw [List.length_append, List.length_take]
   omega
  obtain ⟨YY, hY⟩ : ∃ z, z = Y ++ (areaPlaces h l n j ar).take s := ⟨_, rfl⟩
  rw [← hY] at hKCs HS hln
  clear hY
  refine wp_seq_k (fun K hK => ?_)
  obtain ⟨p0, p1, p2, p3, p4, p5, p6, p7, p8⟩ := HS.out.2.2.2.at'.cells
  have f4 := HS.out.2.2.2.at'.free 4
  revert hF;refine zrp [1, 4] [2] fun a hF => ?_;refine seq_one ?_;revert hF;refine qu2 fun a hF => ?_;refine seq_end ?_;replace hF := hF.kp [1, 5, 6, 7, 18, 19, 20, 21] rfl;refine hK _ _ ?_;clear hK
  clear p0 p1 p2 p3 p4 p5 p6 p7 p8 f4
  have hse : ((s : Int) + 1) = ((s + 1 : Nat) : Int) := by omega
  have HS2 : Hid (BdS w0 (wr.setCell ⟨gp, 4, none⟩ (.int .i64 ((s : Int) + 1))) h gh v YY ∧ LevIn (wr.setCell ⟨gp, 4, none⟩ (.int .i64 ((s : Int) + 1))) gl l ∧ AreaIn (wr.setCell ⟨gp, 4, none⟩ (.int .i64 ((s : Int) + 1))) ga ar ∧ PvS w0 (wr.setCell ⟨gp, 4, none⟩ (.int .i64 ((s : Int) + 1))) v gp ⟨3, n, (l.bn : Int) + (j : Int), -1, ((s : Int) + 1), cx, cy, vw, -1⟩) := ⟨(HS.out.1.pset HS.out.2.2.2 4 _).1, HS.out.2.1.tupd (HS.out.1.pset HS.out.2.2.2 4 _).2 (by decide), (HS.out.1.pset HS.out.2.2.2 4 _).2.keep HS.out.2.2.1 (by decide), HS.out.2.2.2.at'.seat _, HS.out.2.2.2.base, HS.out.2.2.2.ne⟩
  clear HS
  generalize wr.setCell ⟨gp, 4, none⟩ (.int .i64 ((s : Int) + 1)) = wy at *
  obtain ⟨pp, hpp⟩ : ∃ x : PlaceR, x = ⟨3, n, (l.bn : Int) + (j : Int), -1, ((s : Int) + 1), cx, cy, vw, -1⟩ := ⟨_, rfl⟩
  have HPP := Lib.hid hpp
  rw [← hpp] at HS2
  have hKC2 : ∀ a' w', (∃ v : Value, FrF 259 [] [(1, .pointer (some ⟨gh, 0, none⟩)), (5, v), (6, .int .i64 n), (7, .pointer (some ⟨gl, 0, none⟩)), (18, .int .i64 j), (19, .pointer (some ⟨ga, 0, none⟩)), (20, .pointer (some ⟨gp, 0, none⟩)), (21, .int .i64 ((s : Int) + 1))] a' ∧ Hid (BdS w0 w' h gh v (YY ++ [pp]) ∧ LevIn w' gl l ∧ AreaIn w' ga ar ∧ PvS w0 w' v gp pp)) → KCs a' w' := by
   rw [hpp, hse]
   rw [hse] at hKCs
   exact hKCs
  clear hKCs hpp hse
  obtain ⟨p0, p1, p2, p3, p4, p5, p6, p7, p8⟩ := HS2.out.2.2.2.at'.cells
  revert hF;refine zrp [1, 4] [2, 3, 4] fun a hF => ?_;refine seq_one ?_;revert hF;refine qe1 fun a hF => ?_
  obtain ⟨v', wz, hAPP, hbz, hpz, htz⟩ := bd_app HS2.out.1 HS2.out.2.2.2 (by omega)
  have HSz : Hid (BdS w0 wz h gh v' (YY ++ [pp]) ∧ LevIn wz gl l ∧ AreaIn wz ga ar ∧ PvS w0 wz v' gp pp) := ⟨hbz, HS2.out.2.1.tupd htz (by decide), htz.keep HS2.out.2.2.1 (by decide), hpz⟩
  clear HS2 hbz hpz htz p0 p1 p2 p3 p4 p5 p6 p7 p8
  refine seq_one ?_;refine op_append rfl rfl rfl rfl rfl hF rfl rfl rfl hAPP (fun a hF => ?_);clear hAPP;revert hF;refine zre 4 [2] [1, 5, 6, 7, 18, 19, 20, 21] fun a hF => ?_
  exact hKC2 _ _ ⟨_, hF, HSz⟩
 clear hF HS2
 rintro a w50 ⟨v, hF, HS⟩
 rw [foldT_all] at HS
 have HSF : Hid (BdS w0 w50 h gh v (placesS h)) := HS
 clear HS
 revert hF;refine zrs [1, 2, 2] [2, 3] fun a hF => ?_;refine wp_ret ?_;(try simp only [then_ret, block_ret, goto_ret]);revert hF;refine zq ?_
 rw [HE.out]
 exact ⟨⟨_, _, rfl, Rcs.of_own HSF.out.row, ⟨none, 0, rfl, ⟨rfl, fun i hi => absurd hi (by simp)⟩, fun _ => rfl⟩⟩, HSF.out.below⟩
end Go.Proofs.YtmcdhggnpfhlmaaGreat
