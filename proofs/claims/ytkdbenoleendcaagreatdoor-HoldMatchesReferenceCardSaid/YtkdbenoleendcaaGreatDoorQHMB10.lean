/- foyerref05.Name: the walks. -/
import Derived.Test.YtkdbenoleendcaaGreatDoorQHMB06

namespace Go.Proofs.YtkdbenoleendcaaGreatDoor
open Go.RowKit Go.IntWalk

theorem letter_any (c : Nat) (hc : c ≤ 255) (w : World) : Calls Tryz.prog 46 #[.int .u8 c] w fun e w' => e = .returned (.bool (ltr c)) ∧ w = w' := by
  have HL : Hid (ltr c = (decide (97 ≤ c ∧ c ≤ 122) || decide (65 ≤ c ∧ c ≤ 90))) := rfl
  by_cases h1 : 97 ≤ c
  · have a1 : decide ((97 : Int) ≤ c) = true := by simp; omega
    by_cases h2 : c ≤ 122
    · have a2 : decide ((c : Int) ≤ 122) = true := by simp; omega
      have HR : Hid (ltr c = true) := by show _ = _; rw [HL.out]; simp; omega
      clear HL
      go_enter Tryz.func46, Tryz.ntmps46
      go_wp2_with fail
      go_ret
      exact ⟨by rw [HR.out]; rfl, rfl⟩
    · have a2 : decide ((c : Int) ≤ 122) = false := by simp; omega
      have a3 : decide ((65 : Int) ≤ c) = true := by simp; omega
      have a4 : decide ((c : Int) ≤ 90) = false := by simp; omega
      have HR : Hid (ltr c = false) := by show _ = _; rw [HL.out]; simp; omega
      clear HL
      go_enter Tryz.func46, Tryz.ntmps46
      go_wp2_with fail
      go_ret
      exact ⟨by rw [HR.out]; rfl, rfl⟩
  · have a1 : decide ((97 : Int) ≤ c) = false := by simp; omega
    by_cases h3 : 65 ≤ c
    · have a3 : decide ((65 : Int) ≤ c) = true := by simp; omega
      by_cases h4 : c ≤ 90
      · have a4 : decide ((c : Int) ≤ 90) = true := by simp; omega
        have HR : Hid (ltr c = true) := by show _ = _; rw [HL.out]; simp; omega
        clear HL
        go_enter Tryz.func46, Tryz.ntmps46
        go_wp2_with fail
        go_ret
        exact ⟨by rw [HR.out]; rfl, rfl⟩
      · have a4 : decide ((c : Int) ≤ 90) = false := by simp; omega
        have HR : Hid (ltr c = false) := by show _ = _; rw [HL.out]; simp; omega
        clear HL
        go_enter Tryz.func46, Tryz.ntmps46
        go_wp2_with fail
        go_ret
        exact ⟨by rw [HR.out]; rfl, rfl⟩
    · have a3 : decide ((65 : Int) ≤ c) = false := by simp; omega
      have HR : Hid (ltr c = false) := by show _ = _; rw [HL.out]; simp; omega
      clear HL
      go_enter Tryz.func46, Tryz.ntmps46
      go_wp2_with fail
      go_ret
      exact ⟨by rw [HR.out]; rfl, rfl⟩

theorem digit_any (c : Nat) (hc : c ≤ 255) (w : World) : Calls Tryz.prog 54 #[.int .u8 c] w fun e w' => e = .returned (.bool (dgt c)) ∧ w = w' := by
  have HL : Hid (dgt c = decide (48 ≤ c ∧ c ≤ 57)) := rfl
  by_cases h1 : 48 ≤ c
  · have a1 : decide ((48 : Int) ≤ c) = true := by simp; omega
    by_cases h2 : c ≤ 57
    · have a2 : decide ((c : Int) ≤ 57) = true := by simp; omega
      have HR : Hid (dgt c = true) := by show _ = _; rw [HL.out]; simp; omega
      clear HL
      go_enter Tryz.func54, Tryz.ntmps54
      go_wp2_with fail
      go_ret
      exact ⟨by rw [HR.out]; rfl, rfl⟩
    · have a2 : decide ((c : Int) ≤ 57) = false := by simp; omega
      have HR : Hid (dgt c = false) := by show _ = _; rw [HL.out]; simp; omega
      clear HL
      go_enter Tryz.func54, Tryz.ntmps54
      go_wp2_with fail
      go_ret
      exact ⟨by rw [HR.out]; rfl, rfl⟩
  · have a1 : decide ((48 : Int) ≤ c) = false := by simp; omega
    have HR : Hid (dgt c = false) := by show _ = _; rw [HL.out]; simp; omega
    clear HL
    go_enter Tryz.func54, Tryz.ntmps54
    go_wp2_with fail
    go_ret
    exact ⟨by rw [HR.out]; rfl, rfl⟩

theorem word_any (c : Nat) (hc : c ≤ 255) (w : World) : Calls Tryz.prog 45 #[.int .u8 c] w fun e w' => e = .returned (.bool (wrd c)) ∧ w = w' := by
  have HL : Hid (wrd c = (ltr c || dgt c || decide (c = 95))) := rfl
  cases h1 : ltr c
  · rw [h1] at HL
    cases h2 : dgt c
    · rw [h2] at HL
      have a1 : ((c : Int) == 95) = decide (c = 95) := by
        by_cases h : c = 95
        · subst h; rfl
        · have : ((c : Int) == 95) = false := by simp; omega
          rw [this]; simp [h]
      have H1 := Lib.hid h1
      have H2 := Lib.hid h2
      clear h1 h2
      go_enter Tryz.func45, Tryz.ntmps45
      go_wp2_with fail
      refine (letter_any c hc w).mono ?_
      rintro e w' ⟨rfl, rfl⟩
      rw [H1.out]
      go_wp2_with fail
      refine (digit_any c hc w).mono ?_
      rintro e w' ⟨rfl, rfl⟩
      rw [H2.out]
      go_wp2_with fail
      go_ret
      exact ⟨by rw [HL.out]; simp, rfl⟩
    · rw [h2] at HL
      have H1 := Lib.hid h1
      have H2 := Lib.hid h2
      clear h1 h2
      go_enter Tryz.func45, Tryz.ntmps45
      go_wp2_with fail
      refine (letter_any c hc w).mono ?_
      rintro e w' ⟨rfl, rfl⟩
      rw [H1.out]
      go_wp2_with fail
      refine (digit_any c hc w).mono ?_
      rintro e w' ⟨rfl, rfl⟩
      rw [H2.out]
      go_wp2_with fail
      go_ret
      exact ⟨by rw [HL.out]; simp, rfl⟩
  · rw [h1] at HL
    have H1 := Lib.hid h1
    clear h1
    go_enter Tryz.func45, Tryz.ntmps45
    go_wp2_with fail
    refine (letter_any c hc w).mono ?_
    rintro e w' ⟨rfl, rfl⟩
    rw [H1.out]
    go_wp2_with fail
    go_ret
    exact ⟨by rw [HL.out]; simp, rfl⟩

theorem byte_le (t : List UInt8) (i : Nat) : byte t i ≤ 255 := by unfold byte; have := (t.getD i 0).toNat_lt; omega

set_option maxRecDepth 10000 in
set_option maxHeartbeats 800000 in
theorem rname_any (t : List UInt8) (hlen : t.length ≤ 1000) (w : World) : Calls Tryz.prog 28 #[.string (bs t)] w fun e w' => e = .returned (.bool (nameS t)) ∧ w = w' := by
  have hbs := bs_size t
  have HN := Lib.hid (name_iff t)
  go_enter Tryz.func28, Tryz.ntmps28
  go_wp2_with fail
  go_loopw [3] (fun v3 wr => ∃ i : Nat, v3 = .int .i64 i ∧ w = wr ∧ i ≤ t.length ∧ Hid (∀ k, k < i → wrd (byte t k) = true)) (fun v3 _ => t.length - (intOf v3).toNat)
  case atStart => exact ⟨0, rfl, rfl, Nat.zero_le _, fun k hk => by omega⟩
  case round =>
    obtain ⟨i, rfl, rfl, hi, HW⟩ := hrel
    by_cases hlt : i < t.length
    · have hjs : i < (bs t).size := by rw [bs_size]; exact hlt
      have HB := Lib.hid (byte_get hlt hjs)
      obtain ⟨c, hc⟩ : ∃ c : Nat, ((bs t)[i]'hjs).toNat = c := ⟨_, rfl⟩
      have HC := Lib.hid (HB.out.symm.trans hc)
      have hc255 : c ≤ 255 := by rw [← HC.out]; exact byte_le t i
      go_wp2_with fail
      refine (word_any c hc255 w).mono ?_
      rintro e w' ⟨rfl, rfl⟩
      cases hw : wrd c
      · have HR : Hid (nameS t = false) := by
          show _ = _
          cases hh : nameS t
          · rfl
          · have := (HN.out.mp hh).2.2 i hlt
            rw [HC.out, hw] at this
            simp at this
        clear hw
        go_wp2_with fail
        go_ret
        exact ⟨by rw [HR.out]; rfl, rfl⟩
      · have HW2 := Lib.hid hw
        clear hw
        go_wp2_with fail
        go_roundw
        case rel => exact ⟨i + 1, by go_num, trivial, hlt, fun k hk => by
          by_cases e : k = i
          · rw [e, HC.out]; exact HW2.out
          · exact HW.out k (by omega)⟩
        case measure => simp [intOf]; omega
    · have hi' : i = t.length := by omega
      subst hi'
      by_cases h0 : 0 < t.length
      · by_cases h24 : t.length ≤ 24
        · have hjs : 0 < (bs t).size := by rw [bs_size]; exact h0
          have HB := Lib.hid (byte_get h0 hjs)
          obtain ⟨c, hc⟩ : ∃ c : Nat, ((bs t)[0]'hjs).toNat = c := ⟨_, rfl⟩
          have HC := Lib.hid (HB.out.symm.trans hc)
          have hc255 : c ≤ 255 := by rw [← HC.out]; exact byte_le t 0
          have HR : Hid (nameS t = ltr c) := by
            show _ = _
            cases hl : ltr c
            · cases hh : nameS t
              · rfl
              · have := (HN.out.mp hh).2.1; rw [HC.out, hl] at this; simp at this
            · exact HN.out.mpr ⟨⟨h0, h24⟩, by rw [HC.out]; exact hl, HW.out⟩
          have b1 : (t.length : Int) ≤ 24 := by omega
          go_wp2_with fail
          refine (letter_any c hc255 w).mono ?_
          rintro e w' ⟨rfl, rfl⟩
          go_wp2_with fail
          go_ret
          exact ⟨by rw [HR.out]; rfl, rfl⟩
        · have HR : Hid (nameS t = false) := by
            show _ = _
            cases hh : nameS t
            · rfl
            · have := (HN.out.mp hh).1; omega
          go_wp2_with fail
          go_ret
          exact ⟨by rw [HR.out]; rfl, rfl⟩
      · have HR : Hid (nameS t = false) := by
          show _ = _
          cases hh : nameS t
          · rfl
          · have := (HN.out.mp hh).1; omega
        go_wp2_with fail
        go_ret
        exact ⟨by rw [HR.out]; rfl, rfl⟩
end Go.Proofs.YtkdbenoleendcaaGreatDoor
