/- foyerref01.Split: the walk. -/
import Derived.Test.YtgpmhaeiccljaaaDoorMY
namespace Go.Proofs.YtgpmhaeiccljaaaDoor
open Go.RowKit Go.IntWalk

theorem splitB_neg (n : Int) (W : List Int) : splitB (0 - n) W = splitB n W := by
  unfold splitB
  rw [show (0 : Int) - n = -n from by omega, amt_neg]

theorem map_neg (L : List Int) (i : Nat) (hi : i < L.length) : ix (L.map fun x => 0 - x) i = 0 - ix L i := by
  rw [ix_eq _ _ hi, ix_eq _ _ (by simpa using hi), List.getElem_map]

set_option maxRecDepth 10000 in
set_option maxHeartbeats 3200000 in
theorem rsplit_any (n : Int) (ra : Option Addr) (k c : Nat) (W : List Int) (w : World) (hk : k ≤ 100) (hW : Ints w ra k W) :
    Calls Tryd.prog 42 #[.int .i64 n, .slice ra k c] w (SplitPost n W w) := by
  by_cases hn : 0 ≤ n
  · exact rsplit_pos n ra k c W w hn hk hW
  have HW := Lib.hid hW
  have hlen : W.length = k := hW.1
  have HL := Lib.hid hlen
  have hwq : splitB n W = (amtB n && wgtB W) := by unfold splitB; rw [wgt_eq, Bool.and_assoc]
  obtain ⟨b1, h1⟩ : ∃ b, amtB n = b := ⟨_, rfl⟩
  obtain ⟨b2, h2⟩ : ∃ b, wgtB W = b := ⟨_, rfl⟩
  rw [h1, h2] at hwq
  have H1 := Lib.hid h1
  have H2 := Lib.hid h2
  have HQ := Lib.hid hwq
  have HNEG := Lib.hid (split_neg n W (by omega))
  clear hW hlen h1 h2 hwq
  go_enter Tryd.func42, Tryd.ntmps42
  cases b1
  · have HNO : Hid (splitB n W = false) := HQ.out
    go_wp2_with fail
    refine (rvalid_any n w).mono ?_
    rintro e w' ⟨rfl, rfl⟩
    rw [H1.out]
    go_wp2_with fail
    go_ret2
    exact ⟨Below.refl _ _, .inl ⟨HNO.out, rfl⟩⟩
  have HWG := Lib.hid (weights_any ra k c W w (by omega) HW.out)
  go_wp2_with fail
  refine (rvalid_any n w).mono ?_
  rintro e w' ⟨rfl, rfl⟩
  rw [H1.out]
  go_wp2_with fail
  refine HWG.out.mono ?_
  rintro e w' ⟨rfl, rfl⟩
  rw [H2.out]
  clear HWG
  cases b2
  · have HNO : Hid (splitB n W = false) := HQ.out
    go_wp2_with fail
    go_ret2
    exact ⟨Below.refl _ _, .inl ⟨HNO.out, rfl⟩⟩
  have HYES : Hid (splitB n W = true) := HQ.out
  have hrg := (amtB_iff n).mp H1.out
  unfold Amt at hrg
  have e1 : decide (n < 0) = true := by simp; omega
  have HPOS := Lib.hid (rsplit_pos (0 - n) ra k c W w (by omega) hk HW.out)
  have hpe := HNEG.out
  obtain ⟨S, hS⟩ : ∃ z, splitS (0 - n) W = z := ⟨_, rfl⟩
  have hSl : S.length = k := by rw [← hS, splitS_length, HL.out]
  have hSr : Hid (∀ i, i < k → -1000000001 ≤ ix S i ∧ ix S i ≤ 1000000001) := by
    have hsp : amtB (0 - n) = true ∧ (W.all fun x => !badB x) = true ∧ allW W ≠ 0 := by
      have := HYES.out
      rw [← splitB_neg] at this
      unfold splitB at this
      simpa [and_assoc] using this
    have hin : ∀ i, i < W.length → 0 ≤ ix W i ∧ ix W i ≤ 1000000000 := fun i hi => (bad_iff _).1 (by have := (all_ix _ W).mp hsp.2.1 i hi; simpa using this)
    have hNM := nums_of (n := 0 - n) hsp.1 hin hsp.2.2 (by rw [HL.out]; exact hk)
    intro i hi
    rw [← hS, splitS_at _ _ _ (by rw [HL.out]; exact hi)]
    have := nums_part hNM i (by rw [HL.out]; exact hi)
    rcases sign_range (0 - n) with e | e <;> rw [e] at this ⊢ <;> omega
  rw [hS] at hpe
  have HS := Lib.hid hS
  have HPE := Lib.hid hpe
  have HSL := Lib.hid hSl
  clear hpe hS HQ H1 H2 HNEG hSl
  go_wp2_with fail
  have en : -n = 0 - n := by omega
  rw [en]
  refine HPOS.out.mono ?_
  rintro e w1 ⟨hb, hpost⟩
  rcases hpost with ⟨hf, _⟩ | ⟨_, g, rfl, hg, hr⟩
  · rw [splitB_neg, HYES.out] at hf; simp at hf
  rw [HL.out]
  rw [HS.out] at hr
  have HB := Lib.hid hb
  have HR := Lib.hid hr
  clear hb hr en HPOS
  go_wp2_with fail
  obtain ⟨wo, rfl⟩ : ∃ wo : World, wo = w1 := ⟨_, rfl⟩
  go_loopw [8] (fun v8 wr => ∃ (i : Nat) (D : List Int), v8 = .int .i64 i ∧ i ≤ k ∧ Hid (D.length = k ∧ ∀ j, j < k → ix D j = if j < i then 0 - ix S j else ix S j) ∧ Hid (Below w.heap.size w wr ∧ IntRow wr g 3 D)) (fun v8 _ => k - (intOf v8).toNat)
  case atStart => exact ⟨0, S, rfl, Nat.zero_le _, ⟨HSL.out, fun j hj => by rw [if_neg (by omega)]⟩, HB.out, HR.out⟩
  case round =>
    clear HB HR
    obtain ⟨i, D, rfl, hi, HD, HM⟩ := hrel
    by_cases hlt : i < k
    · have hiD : i < D.length := by rw [HD.out.1]; exact hlt
      have x0 := HM.out.2.cell i hiD
      have xf := HM.out.2.free i
      have hx := HD.out.2 i hlt
      rw [if_neg (by omega)] at hx
      have hrange := hSr.out i hlt
      rw [← hx] at hrange
      have HN : Hid (∀ z, ix D i = z → (D.set i (-z)).length = k ∧ ∀ j, j < k → ix (D.set i (-z)) j = if j < i + 1 then 0 - ix S j else ix S j) := fun z hz => ⟨by rw [List.length_set]; exact HD.out.1, fun j hj => by
        rw [ix_set _ _ _ _ hiD]
        by_cases e : i = j
        · subst e; rw [if_pos rfl, if_pos (by omega), ← hx, hz]; omega
        · rw [if_neg e, HD.out.2 j hj]
          by_cases h2 : j < i
          · rw [if_pos h2, if_pos (by omega)]
          · rw [if_neg h2, if_neg (by omega)]⟩
      obtain ⟨z, hz⟩ : ∃ z, ix D i = z := ⟨_, rfl⟩
      have HN2 := Lib.hid (HN.out z hz)
      have HM2 : Hid (Below w.heap.size w (wr.setCell ⟨g, i, none⟩ (.int .i64 (-z))) ∧ IntRow (wr.setCell ⟨g, i, none⟩ (.int .i64 (-z))) g 3 (D.set i (-z))) := ⟨HM.out.1.setCell hg _, HM.out.2.set i hiD (-z)⟩
      rw [hz] at x0 hrange
      clear HN hz hx hiD HD HM
      go_wp2_with fail
      go_roundw
      case rel => exact ⟨i + 1, _, by go_num, by omega, HN2, HM2⟩
      case measure => simp [intOf]; omega
    · obtain rfl : k = i := by omega
      have HFIN : Hid (D = splitS n W) := by
        show _ = _
        rw [HPE.out]
        apply list_ext_ix
        · rw [HD.out.1, List.length_map, HSL.out]
        · intro j hj
          rw [HD.out.1] at hj
          rw [HD.out.2 j hj, if_pos hj, map_neg _ _ (by rw [HSL.out]; exact hj)]
      go_wp2_with fail
      go_ret2
      refine ⟨HM.out.1, .inr ⟨HYES.out, g, by rw [HL.out]; rfl, hg, ?_⟩⟩
      rw [← HFIN.out]; exact HM.out.2
end Go.Proofs.YtgpmhaeiccljaaaDoor
