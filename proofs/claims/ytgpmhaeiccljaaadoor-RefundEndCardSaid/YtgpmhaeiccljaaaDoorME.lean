/- slices.IndexFunc, ContainsFunc at []int with a function that only computes; money.sum, money.Sum: the walks. -/
import Derived.Test.YtgpmhaeiccljaaaDoorMB
import Derived.Test.YtgpmhaeiccljaaaDoorMD
import Derived.WalkSpells
namespace Go.Proofs.YtgpmhaeiccljaaaDoor
open Go.RowKit Go.IntWalk

/-- What IndexFunc returns. -/
def IdxPost (p : Nat → Bool) (n : Nat) (w : World) (e : Ending) (w' : World) : Prop :=
  w = w' ∧ ∃ v, e = .returned (.int .i64 v) ∧ ((v = -1 ∧ ∀ k, k < n → p k = false) ∨ (0 ≤ v ∧ ∃ j, j < n ∧ p j = true))

set_option maxRecDepth 10000 in
theorem index_any (f : Nat) (p : Int → Bool) (ra : Option Addr) (n c : Nat) (G : List Int) (w : World) (hn : n ≤ 1000000)
    (hcf : ∀ (args : Array Value) (w : World), (callFunc f args).run Tryd.prog w = .ok (.enter f args) w) (hG : Ints w ra n G)
    (hcl : ∀ x wr, Calls Tryd.prog f #[.int .i64 x] wr fun e w' => e = .returned (.bool (p x)) ∧ wr = w') :
    Calls Tryd.prog 62 #[.slice ra n c, .func (.func f) #[] #[]] w (IdxPost (fun k => p (ix G k)) n w) := by
  have HG := Lib.hid hG
  have HCL := Lib.hid hcl
  clear hG hcl
  go_enter Tryd.func62, Tryd.ntmps62
  go_wp2_with fail
  go_loop [4, 5, 8] (fun _ _ k => ∃ i : Nat, i ≤ n ∧ k = .int .i64 i ∧ Hid (∀ k, k < i → p (ix G k) = false)) (fun _ _ k => n - (intOf k).toNat)
  case atStart => exact ⟨0, Nat.zero_le _, rfl, fun k hk => absurd hk (by omega)⟩
  case round =>
    obtain ⟨i, hi, rfl, HR⟩ := hrel
    by_cases hlt : i < n
    · obtain ⟨b, o, rfl, r1⟩ := HG.out.2 i hlt
      obtain ⟨x, hx⟩ : ∃ x, ix G i = x := ⟨_, rfl⟩
      rw [hx] at r1
      have HX := Lib.hid hx
      obtain ⟨q, hq⟩ : ∃ q, p x = q := ⟨_, rfl⟩
      have HQ := Lib.hid hq
      clear hx hq
      go_wp2_with fail
      refine (HCL.out x w).mono ?_
      rintro e w' ⟨rfl, rfl⟩
      rw [HQ.out]
      cases q
      · have HR2 : Hid (∀ k, k < i + 1 → p (ix G k) = false) := fun k hk => by
          by_cases e : k = i
          · subst e; rw [HX.out]; exact HQ.out
          · exact HR.out k (by omega)
        go_wp2_with fail
        go_round
        case rel => exact ⟨i + 1, by omega, by go_num, HR2⟩
        case measure => simp [intOf]; omega
      · have HF : Hid (∃ j, j < n ∧ p (ix G j) = true) := ⟨i, hlt, by rw [HX.out]; exact HQ.out⟩
        go_wp2_with fail
        go_ret
        exact ⟨rfl, _, rfl, Or.inr ⟨by omega, HF.out⟩⟩
    · obtain rfl : i = n := by omega
      go_wp2_with fail
      go_ret
      exact ⟨rfl, _, rfl, Or.inl ⟨rfl, HR.out⟩⟩

/-- What ContainsFunc returns. -/
def CtnPost (p : Nat → Bool) (n : Nat) (w : World) (e : Ending) (w' : World) : Prop := w = w' ∧ ∃ q : Bool, e = .returned (.bool q) ∧ (q = true ↔ ∃ j, j < n ∧ p j = true)

theorem contains_any (f : Nat) (p : Int → Bool) (ra : Option Addr) (n c : Nat) (G : List Int) (w : World) (hn : n ≤ 1000000)
    (hcf : ∀ (args : Array Value) (w : World), (callFunc f args).run Tryd.prog w = .ok (.enter f args) w) (hG : Ints w ra n G)
    (hcl : ∀ x wr, Calls Tryd.prog f #[.int .i64 x] wr fun e w' => e = .returned (.bool (p x)) ∧ wr = w') :
    Calls Tryd.prog 49 #[.slice ra n c, .func (.func f) #[] #[]] w (CtnPost (fun k => p (ix G k)) n w) := by
  have HI := Lib.hid (index_any f p ra n c G w hn hcf hG hcl)
  clear hG hcl hcf
  go_enter Tryd.func49, Tryd.ntmps49
  go_wp2_with fail
  refine HI.out.mono ?_
  rintro e w' ⟨rfl, v, rfl, hv⟩
  have HV := Lib.hid hv
  clear hv
  by_cases h0 : 0 ≤ v
  · have e1 : decide (0 ≤ v) = true := by simp; exact h0
    have HF : Hid (∃ j, j < n ∧ p (ix G j) = true) := by
      rcases HV.out with h | h
      · omega
      · exact h.2
    go_wp2_with fail
    go_ret
    exact ⟨rfl, true, rfl, ⟨fun _ => HF.out, fun _ => rfl⟩⟩
  · have e1 : decide (0 ≤ v) = false := by simp; omega
    have HF : Hid (∀ k, k < n → p (ix G k) = false) := by
      rcases HV.out with h | h
      · exact h.2
      · omega
    go_wp2_with fail
    go_ret
    exact ⟨rfl, false, rfl, ⟨fun h => by simp at h, fun ⟨j, hj, h⟩ => by have h2 := HF.out j hj; dsimp only at h; rw [h2] at h; simp at h⟩⟩

theorem sumN_range (G : List Int) (n : Nat) (h : ∀ k, k < n → -1000000000 ≤ ix G k ∧ ix G k ≤ 1000000000) : ∀ i, i ≤ n → -1000000000 * (i : Int) ≤ sumN (ix G) i ∧ sumN (ix G) i ≤ 1000000000 * i := by
  intro i
  induction i with
  | zero => intro _; simp [sumN]
  | succ i ih => intro hi; have a := ih (by omega); have b := h i (by omega); rw [sumN]; omega

set_option maxRecDepth 10000 in
theorem msum_any (ra : Option Addr) (n c : Nat) (G : List Int) (w : World) (hn : n ≤ 1000000) (hG : Ints w ra n G) (hb : ∀ k, k < n → -1000000000 ≤ ix G k ∧ ix G k ≤ 1000000000) :
    Calls Tryd.prog 50 #[.slice ra n c] w fun e w' => e = .returned (.int .i64 (sumN (ix G) n)) ∧ w = w' := by
  have HG := Lib.hid hG
  have HR := Lib.hid (sumN_range G n hb)
  have HB := Lib.hid hb
  clear hG hb
  go_enter Tryd.func50, Tryd.ntmps50
  go_wp2_with fail
  go_loop [3, 5, 8] (fun v3 _ k => ∃ (i : Nat) (s : Int), i ≤ n ∧ k = .int .i64 i ∧ v3 = .int .i64 s ∧ Hid (sumN (ix G) i = s)) (fun _ _ k => n - (intOf k).toNat)
  case atStart => exact ⟨0, 0, Nat.zero_le _, rfl, rfl, rfl⟩
  case round =>
    obtain ⟨i, s, hi, rfl, rfl, HS⟩ := hrel
    by_cases hlt : i < n
    · obtain ⟨b, o, rfl, r1⟩ := HG.out.2 i hlt
      have hr := HR.out i hi
      rw [HS.out] at hr
      have hx0 := HB.out i hlt
      obtain ⟨x, hx⟩ : ∃ x, ix G i = x := ⟨_, rfl⟩
      rw [hx] at r1 hx0
      have HS2 : Hid (sumN (ix G) (i + 1) = s + x) := by show _ = _; rw [sumN, HS.out, hx]
      have HW : Hid (IntKind.i64.wrap (s + x) = s + x) := i64_in _ (by omega)
      have hi2 : i + 1 ≤ n := hlt
      have h1 : -1000000000000000 ≤ s ∧ s ≤ 1000000000000000 := by omega
      clear hx hr
      go_wp2_with fail
      go_round
      case rel => exact ⟨i + 1, s + x, hi2, by go_num, rfl, HS2⟩
      case measure => simp [intOf]; omega
    · obtain rfl : i = n := by omega
      go_wp2_with fail
      go_ret
      exact ⟨by rw [HS.out]; rfl, rfl⟩
end Go.Proofs.YtgpmhaeiccljaaaDoor
