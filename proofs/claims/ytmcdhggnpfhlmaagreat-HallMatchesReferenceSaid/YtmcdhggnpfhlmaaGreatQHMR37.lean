/- hall: the reference: Faults. -/
import Derived.Test.YtmcdhggnpfhlmaaGreatQHMR35
import Derived.Test.YtmcdhggnpfhlmaaGreatQHMR36

set_option linter.unusedVariables false
set_option linter.unusedSimpArgs false
namespace Go.Proofs.YtmcdhggnpfhlmaaGreat
open Go.RowKit Go.IntWalk
set_option linter.unusedSimpArgs false
set_option linter.unusedVariables false

theorem sev_len_take {h : HallR} {c : Nat} (hs : ∀ l ∈ h.levels, (severalS l).length ≤ c) (n : Nat) : ((h.levels.take n).flatMap severalS).length ≤ h.levels.length * c := by
 have h1 := flat_bound (f := severalS) (c := c) (xs := h.levels.take n) fun l hl => hs l (List.mem_of_mem_take hl)
 exact Nat.le_trans h1 (Nat.mul_le_mul_right _ (by simp; omega))
set_option maxRecDepth 100000 in
set_option maxHeartbeats 16000000 in
theorem rfaults_any (w0 : World) (h : HallR) (hh : h.In w0) (hsm : h.Sm) (h0 : ∀ l ∈ h.levels, ∀ b ∈ l.blocks, b.ra = none → b.rc = 0) :
  Calls Tryz.prog 24 #[.agg #[.string (bs h.name), .int .i64 h.stage.x, .int .i64 h.stage.y, .slice h.la h.ln h.lc]] w0 fun e w' => ∃ v, e = .returned v ∧ Below w0.heap.size w0 w' ∧ Rcs FaultE w' v (faultsS h) := by
 have HH := Lib.hid hh
 have HSM := Lib.hid hsm
 have H0 := Lib.hid h0
 have HLL : Hid (h.levels.length = h.ln) := hh.levels.1
 have hln := hsm.ln
 have HSVL : Hid (∀ l ∈ h.levels, (severalS l).length ≤ 20000) := fun l hl => by
  have hi := hh.lev l hl
  have hs := hsm.lev l hl
  have hr := hs.rest
  exact severalS_len (by rw [hi.blocks.1]; exact hs.b) (fun b hb => by rw [(hi.blk b hb).1.1]; exact hsm.rn l hl b hb) (by rw [hi.areas.1]; omega)
 have HFL : Hid (∀ n, ((h.levels.take n).flatMap severalS).length ≤ 240000) := fun n => by
  have h1 := sev_len_take HSVL.out n
  have h2 := HLL.out
  omega
 clear hh hsm h0
 refine enter_fr (N := 46) [.agg #[.string (bs h.name), .int .i64 h.stage.x, .int .i64 h.stage.y, .slice h.la h.ln h.lc]] (Tryz.func24) rfl Tryz.ntmps24 (by rfl) (fun a hF => ?_);replace hF := hF.kp [0] rfl;refine wp_seq_k (fun K hK => ?_);refine region_seq (l := [0, 1]) (by kernel_rfl) ?_;refine seq_one ?_;revert hF;refine qe1 fun a hF => ?_
 have HX : Hid (CtS w0 (w0.alloc (.cells #[.string (bs h.name), .int .i64 h.stage.x, .int .i64 h.stage.y, .slice h.la h.ln h.lc] 26)) h w0.heap.size) := ⟨Joins.below_alloc1 w0 _, World.alloc_heap_new w0 _⟩
 generalize w0.alloc (.cells #[.string (bs h.name), .int .i64 h.stage.x, .int .i64 h.stage.y, .slice h.la h.ln h.lc] 26) = w1 at *
 obtain ⟨gh, hg⟩ : ∃ g, g = w0.heap.size := ⟨_, rfl⟩
 rw [← hg] at hF HX
 clear hg
 revert hF;refine zre 1 [2] [1] fun a hF => ?_;refine hK _ _ ?_;clear hK;refine wp_seq_k (fun K hK => ?_)
 obtain ⟨c0, c1, c2, c3⟩ := HX.out.2.cells
 revert hF;refine zrp [4] [1, 2] fun a hF => ?_;revert hF;refine zos fun K hK => ?_
 refine (rsingle_any w1 h (HH.out.below HX.out.1) HSM.out).mono ?_
 rintro e w2 ⟨v0, rfl, hb2, ho2⟩
 have HS : Hid (SgS w0 w2 h gh v0 (singleS h)) := ⟨HX.out.1.trans (hb2.mono HX.out.1.size), HX.out.2.down hb2, own_mono ho2 HX.out.1.size⟩
 clear HX hb2 ho2 c0 c1 c2 c3
 refine hK _ _ (fun a hF => ?_);clear hK K;revert hF;refine zre 2 [2] [1, 3] fun a hF => ?_;refine hK _ _ ?_;clear hK
 obtain ⟨la, ca, rfl, _⟩ := Rcs.of_own HS.out.row
 refine wp_seq_k (fun K hK => ?_)
 by_cases hs : singleS h ≠ []
 ·
  have hpos : 0 < (singleS h).length := List.length_pos_iff.2 hs
  have HFE : Hid (faultsS h = singleS h) := by
   show _ = _
   unfold faultsS
   rw [if_pos hs]
  clear hs
  have hposi : (0 : Int) < ((singleS h).length : Nat) := by omega
  revert hF;refine zrs [1, 4, 4] [1, 3, 9] fun a hF => ?_
  refine cond_yes hF rfl ?_
  revert hF;refine zrs [1, 2] [2] fun a hF => ?_;refine wp_ret ?_;(try simp only [then_ret, block_ret, goto_ret]);revert hF;refine zq ?_
  rw [HFE.out]
  exact ⟨_, rfl, HS.out.below, Rcs.of_own HS.out.row⟩
 have hs0 : singleS h = [] := Classical.not_not.1 hs
 clear hs
 rw [hs0] at HS hF
 have HNS : Hid (NoSingle h) := noSingle hs0
 have HF0 : Hid (faultsS h = if ¬ (coordB h.stage.x && coordB h.stage.y) then [⟨2, -1, -1⟩] else if 4000 < countS h then [⟨3, -1, -1⟩] else h.levels.flatMap severalS) := by
  show _ = _
  unfold faultsS
  rw [if_neg (by rw [hs0]; simp)]
 clear hs0
 have hposi : ¬ (0 : Int) < (([] : List FaultR).length : Nat) := by simp
 revert hF;refine zrs [1, 4, 4] [1, 3, 9] fun a hF => ?_
 refine cond_no hF rfl ?_
 refine wp_skip ?_
 refine hK _ _ ?_;clear hK
 clear hposi
 refine wp_seq_k (fun K hK => ?_)
 have HS2 := HS
 clear HS
 refine seq_cut (fun a' w' => FrF 46 [] [(1, .pointer (some ⟨gh, 0, none⟩)), (3, .slice la ([] : List FaultR).length ca), (22, .bool (!(coordB h.stage.x && coordB h.stage.y)))] a' ∧ Hid (SgS w0 w' h gh (.slice la ([] : List FaultR).length ca) [])) (fun KA hKA => ?_) ?_
 ·
  obtain ⟨c0, c1, c2, c3⟩ := HS2.out.hall.cells
  revert hF;refine zrp [4, 4, 4] [3, 4, 5, 6, 7, 8, 9, 10, 11] fun a hF => ?_;revert hF;refine zos fun K hK => ?_
  refine (rcoord_any w2 h.stage.x).mono ?_
  rintro e w3 ⟨rfl, hb3⟩
  have HS3 := Lib.hid (HS2.out.down hb3)
  clear HS2 hb3 c0 c1 c2 c3
  obtain ⟨t, ht⟩ : ∃ t, t = coordB h.stage.x := ⟨_, rfl⟩
  rw [← ht] at hKA ⊢
  clear ht
  cases t
  ·
   refine hK _ _ (fun a hF => ?_);clear hK K;revert hF;refine zre 4 [4, 1, 0, 0, 0, 0, 0, 5] [1, 3, 22] fun a hF => ?_
   exact hKA _ _ ⟨hF, HS3⟩
  obtain ⟨c0, c1, c2, c3⟩ := HS3.out.hall.cells
  refine hK _ _ (fun a hF => ?_);clear hK K;revert hF;refine zrc 4 [4, 1, 4, 4, 4] [9, 10, 11] fun a hF => ?_;revert hF;refine zos fun K hK => ?_
  refine (rcoord_any w3 h.stage.y).mono ?_
  rintro e w4 ⟨rfl, hb3⟩
  have HS4 := Lib.hid (HS3.out.down hb3)
  clear HS3 hb3 c0 c1 c2 c3
  obtain ⟨t, ht⟩ : ∃ t, t = coordB h.stage.y := ⟨_, rfl⟩
  rw [← ht] at hKA ⊢
  clear ht
  refine hK _ _ (fun a hF => ?_);clear hK K;revert hF;refine zre 10 [4, 5] [1, 3, 22] fun a hF => ?_
  exact hKA _ _ ⟨hF, HS4⟩
 clear hF HS2
 rintro a w3 ⟨hF, HS⟩
 obtain ⟨t, ht⟩ : ∃ t, t = (coordB h.stage.x && coordB h.stage.y) := ⟨_, rfl⟩
 rw [← ht] at hF HF0
 clear ht
 cases t
 ·
  have HFE : Hid (faultsS h = [⟨2, -1, -1⟩]) := HF0.out
  refine cond_yes hF rfl ?_
  clear HF0
  refine wp_seq_k (fun K hK => ?_);refine region_seq (l := [0, 1, 2]) (by kernel_rfl) ?_;revert hF;refine zos fun K hK => ?_
  refine (rfault_any _ ⟨2, -1, -1⟩).mono ?_
  rintro e wf ⟨rfl, hbf⟩
  have hN := recs_alloc FaultE wf 55 [⟨2, -1, -1⟩] #[.int .i64 2, .int .i64 (-1), .int .i64 (-1)] rfl
  have HN : Hid (Below w0.heap.size w0 (wf.alloc (.cells #[.int .i64 2, .int .i64 (-1), .int .i64 (-1)] 55)) ∧ Rcs FaultE (wf.alloc (.cells #[.int .i64 2, .int .i64 (-1), .int .i64 (-1)] 55)) (.slice (some ⟨wf.heap.size, 0, none⟩) 1 1) [⟨2, -1, -1⟩]) := ⟨(HS.out.below.trans (hbf.mono HS.out.below.size)).trans ((Joins.below_alloc1 wf _).mono (Nat.le_trans HS.out.below.size hbf.size)), _, _, rfl, hN, fun h => by cases h⟩
  clear hN hbf HS
  refine hK _ _ (fun a hF => ?_);clear hK K;refine seq_one ?_;revert hF;refine qe1 fun a hF => ?_;revert hF;refine zre 2 [2] [2] fun a hF => ?_;refine hK _ _ ?_;clear hK;refine wp_ret ?_;(try simp only [then_ret, block_ret, goto_ret]);revert hF;refine zq ?_
  rw [HFE.out]
  exact ⟨_, rfl, HN.out.1, HN.out.2⟩
 refine cond_no hF rfl ?_
 refine wp_skip ?_
 refine hK _ _ ?_;clear hK;refine wp_seq_k (fun K hK => ?_);refine wp_seq_k (fun K hK => ?_)
 obtain ⟨c0, c1, c2, c3⟩ := HS.out.hall.cells
 revert hF;refine zrp [4] [1, 2] fun a hF => ?_;revert hF;refine zos fun K hK => ?_
 refine (rcount_any w3 h (HH.out.below HS.out.below) HSM.out HNS.out H0.out).mono ?_
 rintro e w4 ⟨rfl, hb3⟩
 have HS4 := Lib.hid (HS.out.down hb3)
 clear HS hb3 c0 c1 c2 c3
 by_cases hc : 4000 < countS h
 ·
  have hci : (4000 : Int) < countS h := hc
  have HFE : Hid (faultsS h = [⟨3, -1, -1⟩]) := by
   show _ = _
   rw [HF0.out]
   simp only [not_true_eq_false, if_false, if_pos hc]
  clear hc HF0
  refine hK _ _ (fun a hF => ?_);clear hK K;revert hF;refine zre 2 [4] [1, 3, 27] fun a hF => ?_;refine hK _ _ ?_;clear hK
  refine cond_yes hF rfl ?_
  have HS := HS4
  clear HS4
  refine wp_seq_k (fun K hK => ?_);refine region_seq (l := [0, 1, 2]) (by kernel_rfl) ?_;revert hF;refine zos fun K hK => ?_
  refine (rfault_any _ ⟨3, -1, -1⟩).mono ?_
  rintro e wf ⟨rfl, hbf⟩
  have hN := recs_alloc FaultE wf 55 [⟨3, -1, -1⟩] #[.int .i64 3, .int .i64 (-1), .int .i64 (-1)] rfl
  have HN : Hid (Below w0.heap.size w0 (wf.alloc (.cells #[.int .i64 3, .int .i64 (-1), .int .i64 (-1)] 55)) ∧ Rcs FaultE (wf.alloc (.cells #[.int .i64 3, .int .i64 (-1), .int .i64 (-1)] 55)) (.slice (some ⟨wf.heap.size, 0, none⟩) 1 1) [⟨3, -1, -1⟩]) := ⟨(HS.out.below.trans (hbf.mono HS.out.below.size)).trans ((Joins.below_alloc1 wf _).mono (Nat.le_trans HS.out.below.size hbf.size)), _, _, rfl, hN, fun h => by cases h⟩
  clear hN hbf HS
  refine hK _ _ (fun a hF => ?_);clear hK K;refine seq_one ?_;revert hF;refine qe1 fun a hF => ?_;revert hF;refine zre 2 [2] [2] fun a hF => ?_;refine hK _ _ ?_;clear hK;refine wp_ret ?_;(try simp only [then_ret, block_ret, goto_ret]);revert hF;refine zq ?_
  rw [HFE.out]
  exact ⟨_, rfl, HN.out.1, HN.out.2⟩
 have hci : ¬ (4000 : Int) < countS h := hc
 have HFE : Hid (faultsS h = h.levels.flatMap severalS) := by
  show _ = _
  rw [HF0.out]
  simp only [not_true_eq_false, if_false, if_neg hc]
 clear hc HF0
 refine hK _ _ (fun a hF => ?_);clear hK K;revert hF;refine zre 2 [4] [1, 3, 27] fun a hF => ?_;refine hK _ _ ?_;clear hK
 refine cond_no hF rfl ?_
 refine wp_skip ?_
 refine hK _ _ ?_;clear hK
 clear hci
 have HS3 : Hid (SgS w0 w4 h gh (.slice la ([] : List FaultR).length ca) ((h.levels.take 0).flatMap severalS)) := HS4.out
 clear HS4
 refine seq_cut (fun a' w' => ∃ v : Value, FrF 46 [] [(1, .pointer (some ⟨gh, 0, none⟩)), (3, v)] a' ∧ Hid (SgS w0 w' h gh v ((h.levels.take h.levels.length).flatMap severalS))) (fun KAn hKAn => ?_) ?_
 ·
  skip
  revert hF;refine zrs [2] [1, 3, 4] fun a hF => ?_
  refine wp_block ?_
  refine loop_fr (fun qn a' w' => ∃ n : Nat, n + qn = h.ln ∧ ∃ v : Value, FrF 46 [] [(1, .pointer (some ⟨gh, 0, none⟩)), (3, v), (4, .int .i64 n)] a' ∧ Hid (SgS w0 w' h gh v ((h.levels.take n).flatMap severalS))) (h.ln) ⟨0, by omega, _, hF, HS3⟩ ?_
  clear hF HS3
  rintro rkn a w4 ⟨n, hikn, v, hF, HS⟩ KBn hKBn
  refine wp_seq_k (fun K hK => ?_)
  by_cases hlt : n < h.ln
  rotate_left
  ·
   have hlti : ¬ (n : Int) < (h.ln : Nat) := by omega
   obtain ⟨c0, c1, c2, c3⟩ := HS.out.hall.cells
   revert hF;refine zrs [1, 4, 4, 4, 5] [1, 3, 4, 34] fun a hF => ?_
   clear c0 c1 c2 c3
   refine cond_no hF rfl ?_
   refine wp_exit ?_
   have hne : n = h.levels.length := by rw [HLL.out]; omega
   rw [hne] at HS
   exact hKAn _ _ ⟨_, hF.sub ⟨rfl, rfl, trivial⟩, HS⟩
  have hlti : (n : Int) < (h.ln : Nat) := by omega
  obtain ⟨c0, c1, c2, c3⟩ := HS.out.hall.cells
  revert hF;refine zrs [1, 4, 4, 4, 5] [1, 3, 4, 34] fun a hF => ?_
  clear c0 c1 c2 c3
  refine cond_yes hF rfl ?_
  refine wp_skip ?_
  refine hK _ _ ?_;clear hK;replace hF := hF.kp [1, 3, 4] rfl
  clear hKAn
  refine seq_cut (fun a' w' => ∃ v : Value, FrF 46 [] [(1, .pointer (some ⟨gh, 0, none⟩)), (3, v), (4, .int .i64 n)] a' ∧ Hid (SgS w0 w' h gh v ((h.levels.take (n + 1)).flatMap severalS))) (fun KCn hKCn => ?_) ?_
  rotate_left
  ·
   clear hF HS
   rintro a w' ⟨v, hF, HS⟩
   have hws : IntKind.i64.wrap ((n : Int) + 1) = ((n + 1 : Nat) : Int) := wrap_succ (by omega)
   revert hF;refine zrg [1, 4, 2] [1, 3, 4] fun a hF => ?_
   exact hKBn (h.ln - (n + 1)) _ _ (by omega) ⟨n + 1, by omega, _, hF, HS⟩
  clear hKBn hikn
  refine wp_block ?_
  have hin : n < h.levels.length := by rw [HLL.out]; exact hlt
  have hi1 : n < h.ln := hlt
  have hni : (n : Int) < (h.ln : Nat) := by omega
  have hnx : (h.levels.take (n + 1)).flatMap severalS = (h.levels.take n).flatMap severalS ++ severalS h.levels[n] := by
   rw [List.take_succ_eq_append_getElem hin, List.flatMap_append]
   simp
  rw [hnx] at hKCn
  clear hnx
  obtain ⟨l, hl⟩ : ∃ l, l = h.levels[n] := ⟨_, rfl⟩
  have HLI : Hid (l.In w0) := by rw [hl]; exact HH.out.lev _ (List.getElem_mem hin)
  have HLS : Hid (l.Sm) := by rw [hl]; exact HSM.out.lev _ (List.getElem_mem hin)
  have HRN : Hid (∀ b ∈ l.blocks, b.rn ≤ 8) := by rw [hl]; exact HSM.out.rn _ (List.getElem_mem hin)
  have HR0 : Hid (∀ b ∈ l.blocks, b.ra = none → b.rc = 0) := by rw [hl]; exact H0.out _ (List.getElem_mem hin)
  have HRK : Hid (∀ b ∈ l.blocks, ∀ r ∈ b.rows, RowOk r) := by rw [hl]; exact fun b hb r hr => (HNS.out.rows _ (List.getElem_mem hin) b hb r hr).1
  have HSL : Hid ((severalS l).length ≤ 20000) := by rw [hl]; exact HSVL.out _ (List.getElem_mem hin)
  have hsl2 := HFL.out n
  rw [← hl] at hKCn
  have HLE := Lib.hid hl
  clear hl hlt hlti
  obtain ⟨c0, c1, c2, c3⟩ := HS.out.hall.cells
  obtain ⟨bB, oB, hbb, b0, b1, b2, b3, b4, b5, b6, b7⟩ := lev_at (HH.out.below HS.out.below).levels n hi1 hin
  rw [hbb] at c3
  rw [← HLE.out] at b0 b1 b2 b3 b4 b5 b6 b7
  clear hbb
  revert hF;refine zrp [1, 4, 4, 1, 5, 4] [6, 7, 8] fun a hF => ?_;revert hF;refine zos fun K hK => ?_
  refine (rseveral_any w4 l (HLI.out.below HS.out.below) HLS.out HRN.out HRK.out HR0.out).mono ?_
  rintro e w5 ⟨u, rfl, hb5, ho5⟩
  clear c0 c1 c2 c3 b0 b1 b2 b3 b4 b5 b6 b7
  have HS5 := Lib.hid (HS.out.down hb5)
  clear HS
  have hu := Rcs.of_own ho5
  obtain ⟨v', w6, hAPP, ho, hg, _⟩ := append_recs (E := FaultE) 36 55 36 Tryz.underlying36 info_fault rfl (by decide) HS5.out.row (u := u) hu (by have := HSL.out; omega) HS5.out.below.size
  have HS6 : Hid (SgS w0 w6 h gh v' ((h.levels.take n).flatMap severalS ++ severalS l)) := ⟨HS5.out.below.grown hg HS5.out.below.size (fun k hk => (HS5.out.row.lt k hk).1), (TUpd.of_grown (S := FltT) hg fun b hb => by
   obtain ⟨cur, hh⟩ := own_type HS5.out.row hb
   exact ⟨_, _, _, hh, rfl⟩).keep HS5.out.hall (by decide), by rw [List.length_append]; exact ho⟩
  clear ho hg hu ho5 hb5 HS5 hsl2
  refine hK _ _ (fun a hF => ?_);clear hK K;refine seq_one ?_;refine op_append rfl rfl rfl rfl rfl hF rfl rfl rfl hAPP (fun a hF => ?_);clear hAPP;revert hF;refine zre 8 [2] [1, 3, 4] fun a hF => ?_
  exact hKCn _ _ ⟨_, hF, HS6⟩
 clear hF HS3
 rintro a w10 ⟨v, hF, HS⟩
 revert hF;refine zrs [1, 2] [2] fun a hF => ?_;refine wp_ret ?_;(try simp only [then_ret, block_ret, goto_ret]);revert hF;refine zq ?_
 rw [HFE.out, ← List.take_length (l := h.levels)]
 exact ⟨v, rfl, HS.out.below, Rcs.of_own HS.out.row⟩
end Go.Proofs.YtmcdhggnpfhlmaaGreat
