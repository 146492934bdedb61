/- foyerref26.Choice: the walk. -/
import Derived.Test.YtkdbenoleendcaaGreatDoorQHMB30

namespace Go.Proofs.YtkdbenoleendcaaGreatDoor
open Go.RowKit Go.IntWalk

theorem Ints.take {w : World} {ra : Option Addr} {n : Nat} {l : List Int} (h : Ints w ra n l) (i : Nat) (hi : i ≤ n) : Ints w ra i (l.take i) := by
  have hl := h.1
  refine ⟨by simp; omega, fun k hk => ?_⟩
  obtain ⟨b, o, e, c⟩ := h.2 k (by omega)
  refine ⟨b, o, e, ?_⟩
  have : ix (l.take i) k = ix l k := by
    rw [ix_get (by simp; omega), ix_get (by omega), List.getElem_take]
  rw [this]
  exact c

set_option maxRecDepth 10000 in
set_option maxHeartbeats 1600000 in
theorem rchoice_any (ra : Option Addr) (m mc n : Nat) (l : List Int) (w : World) (hL : Ints w ra m l) (hm : m ≤ 1000000) (hmc : m ≤ mc) :
    Calls Tryz.prog 29 #[.slice ra m mc, .int .i64 n] w fun e w' => e = .returned (.bool (choiceB n l)) ∧ Quiet w w' := by
  have hlen := hL.1
  have HL := Lib.hid hL
  clear hL
  by_cases h1 : m < 1
  · have HR : Hid (choiceB n l = false) := choice_no (fun h => by omega)
    go_enter Tryz.func29, Tryz.ntmps29
    go_wp2_with fail
    go_ret
    exact ⟨by rw [HR.out]; rfl, Quiet.refl _⟩
  by_cases h2 : 12 < m
  · have HR : Hid (choiceB n l = false) := choice_no (fun h => by omega)
    go_enter Tryz.func29, Tryz.ntmps29
    go_wp2_with fail
    go_ret
    exact ⟨by rw [HR.out]; rfl, Quiet.refl _⟩
  go_enter Tryz.func29, Tryz.ntmps29
  go_wp2_with fail
  go_loopw [5] (fun v5 wr => ∃ i : Nat, v5 = .int .i64 i ∧ i ≤ m ∧ Hid (Quiet w wr) ∧
    Hid (∀ j, j < i → (0 ≤ ix l j ∧ ix l j < n) ∧ ∀ k, k < j → ix l k ≠ ix l j)) (fun v5 _ => m - (intOf v5).toNat)
  case atStart => exact ⟨0, rfl, Nat.zero_le _, Quiet.refl _, fun j hj => by omega⟩
  case round =>
    obtain ⟨i, rfl, hi, HB, HW⟩ := hrel
    by_cases hlt : i < m
    · obtain ⟨b, o, rfl, c0⟩ := (HL.out.below HB.out.below).2 i hlt
      have HLr : Hid (Ints wr (some ⟨b, o, none⟩) m l) := HL.out.below HB.out.below
      obtain ⟨p, hp⟩ : ∃ p, ix l i = p := ⟨_, rfl⟩
      rw [hp] at c0
      have HP := Lib.hid hp
      clear hp
      by_cases hp0 : p < 0
      · have HR : Hid (choiceB n l = false) := choice_no (fun h => by have := h.2 i (by omega); rw [HP.out] at this; omega)
        go_upto_region 6 with fail
        go_quiet (fail)
        go_wp2_with fail
        go_ret
        exact ⟨by rw [HR.out]; rfl, HB.out.more nq⟩
      by_cases hpn : (n : Int) ≤ p
      · have HR : Hid (choiceB n l = false) := choice_no (fun h => by have := h.2 i (by omega); rw [HP.out] at this; omega)
        go_upto_region 6 with fail
        go_quiet (fail)
        go_wp2_with fail
        go_ret
        exact ⟨by rw [HR.out]; rfl, HB.out.more nq⟩
      have HC : Hid (∀ q, Calls Tryz.prog 47 #[.slice (some ⟨b, o, none⟩) i mc, .int .i64 p] (wr.drewN q) fun e w' => e = .returned (.bool (decide (p ∈ l.take i))) ∧ wr.drewN q = w') := fun q =>
        in_any (some ⟨b, o, none⟩) i mc (l.take i) p _ (HLr.out.take i (by omega)) (by omega)
      cases hb : decide (p ∈ l.take i)
      · have HNB : Hid (∀ k, k < i → ix l k ≠ p) := fun k hk e => by
          rw [decide_eq_false_iff_not] at hb
          refine hb ?_
          rw [← e, ix_get (by omega), ← List.getElem_take (j := i) (h := by simp; omega)]
          exact List.getElem_mem _
        rw [hb] at HC
        clear hb
        go_upto_region 6 with fail
        go_quiet (exact Calls.quiet_of_same ((HC.out _).mono fun e w' ⟨h1, h2⟩ => ⟨h1, h2.symm⟩))
        go_wp2_with fail
        go_roundw
        case rel => exact ⟨i + 1, by go_num, by omega, HB.out.more nq, fun j hj => by
          by_cases e : j = i
          · rw [e, HP.out]; exact ⟨by omega, HNB.out⟩
          · exact HW.out j (by omega)⟩
        case measure => simp [intOf]; omega
      · have HR : Hid (choiceB n l = false) := choice_no (fun h => by
          rw [decide_eq_true_eq] at hb
          obtain ⟨j, hj, e⟩ := List.getElem_of_mem hb
          have hji : j < i := by simp at hj; omega
          rw [List.getElem_take, ← ix_get (by omega)] at e
          exact (h.2 i (by omega)).2 j hji (e.trans HP.out.symm))
        rw [hb] at HC
        clear hb
        go_upto_region 6 with fail
        go_quiet (exact Calls.quiet_of_same ((HC.out _).mono fun e w' ⟨h1, h2⟩ => ⟨h1, h2.symm⟩))
        go_wp2_with fail
        go_ret
        exact ⟨by rw [HR.out]; rfl, HB.out.more nq⟩
    · have hi' : i = m := by omega
      subst hi'
      have HR : Hid (choiceB n l = true) := choice_ix.mpr ⟨by omega, fun j hj => HW.out j (by omega)⟩
      go_wp2_with fail
      go_ret
      exact ⟨by rw [HR.out]; rfl, HB.out⟩
end Go.Proofs.YtkdbenoleendcaaGreatDoor
