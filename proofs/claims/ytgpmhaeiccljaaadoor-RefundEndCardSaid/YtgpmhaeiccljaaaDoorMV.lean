/- foyerref01: Valid, Weights: the walks. -/
import Derived.Test.YtgpmhaeiccljaaaDoorLPP
import Derived.Test.YtgpmhaeiccljaaaDoorBools
namespace Go.Proofs.YtgpmhaeiccljaaaDoor
open Go.RowKit Go.IntWalk

theorem rvalid_any (n : Int) (w : World) : Calls Tryd.prog 56 #[.int .i64 n] w fun e w' => e = .returned (.bool (amtB n)) ∧ w = w' := by
  by_cases h : -1000000000 ≤ n
  · have HI : Hid (amtB n = decide (n ≤ 1000000000)) := by show _ = _; unfold amtB inB; simp [h]
    go_enter Tryd.func56, Tryd.ntmps56
    go_wp2_with fail
    go_ret
    exact ⟨by rw [HI.out]; rfl, rfl⟩
  · have e1 : decide (-1000000000 ≤ n) = false := by simp; omega
    have HI : Hid (amtB n = false) := by show _ = _; unfold amtB inB; simp [h]
    go_enter Tryd.func56, Tryd.ntmps56
    go_wp2_with fail
    go_ret
    exact ⟨by rw [HI.out]; rfl, rfl⟩

/-- Weights that may be split by. -/
def wgtB (W : List Int) : Bool := (W.all fun x => !badB x) && (W.any fun x => decide (0 < x))

theorem wgt_eq (W : List Int) : wgtB W = ((W.all fun x => !badB x) && !(allW W == 0)) := by
  unfold wgtB
  cases h : (W.all fun x => !badB x)
  · rfl
  · rw [Bool.true_and, Bool.true_and]
    have hin : ∀ i, i < W.length → 0 ≤ ix W i := fun i hi => by
      have := (all_ix _ W).mp h i hi
      have h2 : badB (ix W i) = false := by simpa using this
      exact ((bad_iff _).1 h2).1
    rw [Bool.eq_iff_iff]
    simp only [List.any_eq_true, decide_eq_true_eq, Bool.not_eq_true', beq_eq_false_iff_ne]
    constructor
    · rintro ⟨x, hx, h0⟩ he
      obtain ⟨i, hi, rfl⟩ := List.getElem_of_mem hx
      have := ix_le_all W hin i hi
      rw [ix_eq _ _ hi, he] at this
      omega
    · intro he
      apply Classical.byContradiction
      intro hn
      apply he
      have : ∀ i, i < W.length → ix W i = 0 := fun i hi => by
        have a := hin i hi
        apply Classical.byContradiction
        intro hne
        exact hn ⟨W[i], List.getElem_mem hi, by rw [← ix_eq _ _ hi]; omega⟩
      unfold allW
      rw [sumN_congr (ix W) (fun _ => 0) _ this, sumN_const]
      omega

set_option maxRecDepth 10000 in
set_option maxHeartbeats 800000 in
theorem weights_any (ra : Option Addr) (k c : Nat) (W : List Int) (w : World) (hk : k ≤ 100000) (hW : Ints w ra k W) :
    Calls Tryd.prog 57 #[.slice ra k c] w fun e w' => e = .returned (.bool (wgtB W)) ∧ w = w' := by
  have HL := Lib.hid hW
  have hlen : W.length = k := hW.1
  have HN := Lib.hid hlen
  clear hW hlen
  go_enter Tryd.func57, Tryd.ntmps57
  go_wp2_with fail
  go_loop [3, 4] (fun v3 v4 => ∃ (i : Nat) (s : Bool), v4 = .int .i64 i ∧ v3 = .bool s ∧ i ≤ k ∧ Hid ((W.take i).any (fun x => decide (0 < x)) = s) ∧ Hid (∀ j, j < i → badB (ix W j) = false)) (fun _ v4 => k - (intOf v4).toNat)
  case atStart => exact ⟨0, false, rfl, rfl, Nat.zero_le _, by simp [Hid], by simp [Hid]⟩
  case round =>
    obtain ⟨i, s, rfl, rfl, hi, HS, HA⟩ := hrel
    by_cases hlt : i < k
    · obtain ⟨b, o, rfl, c1⟩ := HL.out.2 i hlt
      have hiW : i < W.length := by rw [HN.out]; exact hlt
      have hta : (W.take (i + 1)).any (fun x => decide (0 < x)) = (s || decide (0 < ix W i)) := by
        rw [List.take_succ_eq_append_getElem hiW, List.any_append, HS.out, ix_eq _ _ hiW]
        simp
      obtain ⟨x, hx⟩ : ∃ z, ix W i = z := ⟨_, rfl⟩
      rw [hx] at c1 hta
      have HTA := Lib.hid hta
      have HX := Lib.hid hx
      clear hx hta hiW
      by_cases h0 : x < 0
      · have e1 : decide (x < 0) = true := by simp; exact h0
        have HF : Hid (wgtB W = false) := by
          show _ = _
          unfold wgtB
          have : (W.all fun x => !badB x) = false := by
            rw [Bool.eq_false_iff]
            intro ha
            have := (all_ix _ _).mp ha i (by rw [HN.out]; exact hlt)
            rw [HX.out] at this
            unfold badB at this
            rw [e1] at this
            simp at this
          rw [this]; rfl
        go_wp2_with fail
        go_ret
        exact ⟨by rw [HF.out]; rfl, rfl⟩
      · have e1 : decide (x < 0) = false := by simp; omega
        obtain ⟨q, hq⟩ : ∃ q, amtB x = q := ⟨_, rfl⟩
        have HQ := Lib.hid hq
        clear hq
        cases q
        · have HF : Hid (wgtB W = false) := by
            show _ = _
            unfold wgtB
            have : (W.all fun x => !badB x) = false := by
              rw [Bool.eq_false_iff]
              intro ha
              have := (all_ix _ _).mp ha i (by rw [HN.out]; exact hlt)
              rw [HX.out] at this
              have hh := (bad_iff x).1 (by simpa using this)
              have h2 := HQ.out
              rw [(amtB_iff x).mpr (by unfold Amt; omega)] at h2
              simp at h2
            rw [this]; rfl
          go_wp2_with fail
          refine (rvalid_any x w).mono ?_
          rintro e w' ⟨rfl, rfl⟩
          rw [HQ.out]
          go_wp2_with fail
          go_ret
          exact ⟨by rw [HF.out]; rfl, rfl⟩
        · have hxr := (amtB_iff x).mp HQ.out
          unfold Amt at hxr
          have HA2 : Hid (∀ j, j < i + 1 → badB (ix W j) = false) := fun j hj => by
            by_cases e : j = i
            · subst e; rw [HX.out]; exact (bad_iff x).2 (by omega)
            · exact HA.out j (by omega)
          clear HA HS
          cases s
          · go_wp2_with fail
            refine (rvalid_any x w).mono ?_
            rintro e w' ⟨rfl, rfl⟩
            rw [HQ.out]
            go_wp2_with fail
            go_round
            case rel => exact ⟨i + 1, _, by go_num, rfl, by omega, by show _ = _; rw [HTA.out]; simp, HA2⟩
            case measure => simp [intOf]; omega
          · go_wp2_with fail
            refine (rvalid_any x w).mono ?_
            rintro e w' ⟨rfl, rfl⟩
            rw [HQ.out]
            go_wp2_with fail
            go_round
            case rel => exact ⟨i + 1, _, by go_num, rfl, by omega, by show _ = _; rw [HTA.out]; rfl, HA2⟩
            case measure => simp [intOf]; omega
    · obtain rfl : i = k := by omega
      have HF : Hid (wgtB W = s) := by
        show _ = _
        unfold wgtB
        have : (W.all fun x => !badB x) = true := (all_ix _ _).mpr (fun j hj => by rw [HA.out j (by rw [← HN.out]; exact hj)]; rfl)
        rw [this, Bool.true_and, ← HS.out, List.take_of_length_le (by rw [HN.out]; exact Nat.le_refl _)]
      clear HA HS
      go_wp2_with fail
      go_ret
      exact ⟨by rw [HF.out]; rfl, rfl⟩
end Go.Proofs.YtgpmhaeiccljaaaDoor
