/- money.Share, plain: rounding half to even. -/
import Derived.Test.YtkdbenoleendcaaGreatDoorQHMB01

namespace Go.Proofs.YtkdbenoleendcaaGreatDoor

/-- A number is an amount. -/
def Amt (n : Int) : Prop := -1000000000 ≤ n ∧ n ≤ 1000000000

/-- x by d, rounded, a half to the even one. -/
def roundS (x d : Int) : Int := if d < 2 * (x % d) ∨ (2 * (x % d) = d ∧ (x / d) % 2 ≠ 0) then x / d + 1 else x / d

theorem div_mod {x d : Int} (hd : 0 < d) : x = x / d * d + x % d ∧ 0 ≤ x % d ∧ x % d < d := by
  have h1 := Int.mul_ediv_add_emod x d
  have h2 := Int.emod_nonneg x (show d ≠ 0 by omega)
  have h3 := Int.emod_lt_of_pos x hd
  rw [Int.mul_comm] at h1
  omega

theorem div_unique {x d q r : Int} (_hd : 0 < d) (h : x = q * d + r) (h0 : 0 ≤ r) (h1 : r < d) : x / d = q ∧ x % d = r := by
  have hx : x = r + q * d := by omega
  constructor
  · rw [hx, Int.add_mul_ediv_right _ _ (by omega), Int.ediv_eq_zero_of_lt h0 h1]; omega
  · rw [hx, Int.add_mul_emod_self_right]; exact Int.emod_eq_of_lt h0 h1

theorem round_near {x d : Int} (hd : 0 < d) : -d ≤ 2 * (roundS x d * d - x) ∧ 2 * (roundS x d * d - x) ≤ d ∧ ((2 * (roundS x d * d - x) = d ∨ 2 * (roundS x d * d - x) = -d) → roundS x d % 2 = 0) := by
  obtain ⟨h1, h2, h3⟩ := div_mod (x := x) hd
  unfold roundS
  generalize x / d = q at *
  generalize x % d = r at *
  split
  · rw [Int.add_mul]
    generalize q * d = p at *
    omega
  · generalize q * d = p at *
    omega

theorem round_neg {x d : Int} (hd : 0 < d) : roundS (-x) d = -roundS x d := by
  obtain ⟨h1, h2, h3⟩ := div_mod (x := x) hd
  have hn : (x % d = 0 ∧ (-x) / d = -(x / d) ∧ (-x) % d = 0) ∨ (x % d ≠ 0 ∧ (-x) / d = -(x / d) - 1 ∧ (-x) % d = d - x % d) := by
    by_cases h0 : x % d = 0
    · left
      have := div_unique (x := -x) (q := -(x / d)) (r := 0) hd (by rw [Int.neg_mul]; omega) (by omega) hd
      exact ⟨h0, this.1, this.2⟩
    · right
      have := div_unique (x := -x) (q := -(x / d) - 1) (r := d - x % d) hd (by rw [Int.sub_mul, Int.neg_mul]; omega) (by omega) (by omega)
      exact ⟨h0, this.1, this.2⟩
  unfold roundS
  generalize (-x) / d = q' at *
  generalize (-x) % d = r' at *
  generalize x / d = q at *
  generalize x % d = r at *
  clear h1
  split <;> split <;> omega

theorem round_mono {x y d : Int} (hd : 0 < d) (h : x ≤ y) : roundS x d ≤ roundS y d := by
  obtain ⟨h1, h2, h3⟩ := div_mod (x := x) hd
  obtain ⟨k1, k2, k3⟩ := div_mod (x := y) hd
  have hq : x / d ≤ y / d := Int.ediv_le_ediv hd h
  unfold roundS
  by_cases e : x / d = y / d
  · rw [e] at h1 ⊢
    generalize y / d = q at *
    generalize x % d = r at *
    generalize y % d = s at *
    generalize q * d = p at *
    split <;> split <;> omega
  · generalize x / d = q at *
    generalize y / d = q' at *
    generalize x % d = r at *
    generalize y % d = s at *
    clear h1 k1
    split <;> split <;> omega

theorem round_mul {n d : Int} (hd : 0 < d) : roundS (n * d) d = n := by
  have := div_unique (x := n * d) (q := n) (r := 0) hd (by omega) (by omega) hd
  unfold roundS
  rw [this.1, this.2, if_neg (by omega)]

theorem round_abs {x d : Int} (hd : 0 < d) : roundS x d = if x < 0 then -roundS (-x) d else roundS x d := by
  split
  · rw [round_neg hd]; omega
  · rfl

/-- Go's quotient and rest, as the floor and what is above it. -/
theorem go_div {x d : Int} (hd : 0 < d) : (x.tmod d < 0 ∧ x / d = x.tdiv d - 1 ∧ x % d = x.tmod d + d) ∨ (0 ≤ x.tmod d ∧ x / d = x.tdiv d ∧ x % d = x.tmod d) := by
  have h1 := Int.mul_tdiv_add_tmod x d
  have h2 : x.tmod d < d := Int.tmod_lt_of_pos x hd
  have h3 : -d < x.tmod d := Int.lt_tmod_of_pos x hd
  rw [Int.mul_comm] at h1
  by_cases h0 : x.tmod d < 0
  · left
    have := div_unique (x := x) (q := x.tdiv d - 1) (r := x.tmod d + d) hd (by rw [Int.sub_mul]; omega) (by omega) (by omega)
    exact ⟨h0, this.1, this.2⟩
  · right
    have := div_unique (x := x) (q := x.tdiv d) (r := x.tmod d) hd (by omega) (by omega) h2
    exact ⟨by omega, this.1, this.2⟩

theorem tmod_two (q : Int) : q.tmod 2 = 0 ↔ q % 2 = 0 := by
  have h3 : -2 < q.tmod 2 := Int.lt_tmod_of_pos q (by omega)
  rcases go_div (x := q) (d := 2) (by omega) with h | h <;> omega
end Go.Proofs.YtkdbenoleendcaaGreatDoor
