/- foyerref22.bound and Bound. -/
import Derived.Test.YtaomlhhlefpdeaaQFitBound16

namespace Go.Proofs.Ytaomlhhlefpdeaa
open Go.RowKit

theorem fillS_zero (G : List (Int × Int)) (p : Int → Bool) : ∀ (O : List Int), (∀ x ∈ O, 0 ≤ gs G x.toNat) → fillS G p 0 O = 0
  | [], _ => rfl
  | x :: O, h => by
    have h1 := fillS_zero G p O (fun y hy => h y (by simp [hy]))
    have h2 : min (gs G x.toNat) 0 = 0 := by have := h x (by simp); omega
    rw [fillS]
    split
    · exact h1
    · rw [h2]; simp [h1]

theorem fillS_all (G : List (Int × Int)) (p : Int → Bool) : ∀ (O : List Int) (n : Int), (∀ x ∈ O, p x = true) → fillS G p n O = 0
  | [], _, _ => rfl
  | x :: O, n, h => by rw [fillS, if_pos (h x (by simp))]; exact fillS_all G p O n (fun y hy => h y (by simp [hy]))

theorem fillS_skip (G : List (Int × Int)) (p : Int → Bool) : ∀ (A B : List Int) (n : Int), (∀ x ∈ A, p x = true) → fillS G p n (A ++ B) = fillS G p n B
  | [], _, _, _ => rfl
  | x :: A, B, n, h => by rw [List.cons_append, fillS, if_pos (h x (by simp))]; exact fillS_skip G p A B n (fun y hy => h y (by simp [hy]))

theorem fillS_congr (G : List (Int × Int)) (p q : Int → Bool) : ∀ (O : List Int) (n : Int), (∀ x ∈ O, p x = q x) → fillS G p n O = fillS G q n O
  | [], _, _ => rfl
  | x :: O, n, h => by
    have ih := fun n => fillS_congr G p q O n (fun y hy => h y (by simp [hy]))
    rw [fillS, fillS, h x (by simp), ih, ih]

theorem fillS_bounds (G : List (Int × Int)) (p : Int → Bool) : ∀ (O : List Int) (n : Int), 0 ≤ n → (∀ x ∈ O, 0 ≤ gs G x.toNat ∧ gs G x.toNat ≤ 12 ∧ 0 ≤ gv G x.toNat ∧ gv G x.toNat ≤ 1000000) → 0 ≤ fillS G p n O ∧ fillS G p n O ≤ 12000000 * O.length
  | [], _, _, _ => by simp [fillS]
  | x :: O, n, hn, h => by
    have hx := h x (by simp)
    have i1 := fillS_bounds G p O n hn (fun y hy => h y (by simp [hy]))
    have hk : 0 ≤ min (gs G x.toNat) n ∧ min (gs G x.toNat) n ≤ 12 := by omega
    have i2 := fillS_bounds G p O (n - min (gs G x.toNat) n) (by omega) (fun y hy => h y (by simp [hy]))
    have hkv : 0 ≤ min (gs G x.toNat) n * gv G x.toNat ∧ min (gs G x.toNat) n * gv G x.toNat ≤ 12000000 :=
      ⟨Int.mul_nonneg hk.1 hx.2.2.1, Int.le_trans (Int.mul_le_mul hk.2 hx.2.2.2 hx.2.2.1 (by omega)) (by omega)⟩
    rw [fillS, List.length_cons]
    split
    · omega
    · omega

/-- The groups whose places in a list are set. -/
def outOf (D : List Bool) (x : Int) : Bool := bx D x.toNat

theorem mem_ranked (G : List (Int × Int)) (x : Int) : x ∈ rankedL G ↔ 0 ≤ x ∧ x < G.length := by
  rw [(rankedL_ok G).1.mem_iff, mem_idx]

/-- One step of the bound: the first group that is left. -/
theorem fillS_best (G : List (Int × Int)) (D : List Bool) (n : Int) (b : Nat) (hl : D.length = G.length) (hb : b < G.length) (hd : bx D b = false) (hbest : ∀ j, j < G.length → bx D j = false → j ≠ b → byValue G b j) :
    fillS G (outOf D) n (rankedL G) = min (gs G b) n * gv G b + fillS G (outOf (D.set b true)) (n - min (gs G b) n) (rankedL G) := by
  have hm : (b : Int) ∈ rankedL G := (mem_ranked G b).2 (by omega)
  obtain ⟨A, B, hAB⟩ := List.append_of_mem hm
  have hs := (rankedL_ok G).2
  rw [hAB, List.pairwise_append, List.pairwise_cons] at hs
  have hr : ∀ x ∈ A ++ (b : Int) :: B, 0 ≤ x ∧ x < G.length := fun x hx => (mem_ranked G x).1 (by rw [hAB]; exact hx)
  have hirr : ¬ byValue G (b : Int) (b : Int) := by unfold byValue; omega
  have hA : ∀ x ∈ A, outOf D x = true := by
    intro x hx
    have h1 := hs.2.2 x hx b (by simp)
    have h2 := hr x (by simp [hx])
    obtain ⟨j, rfl⟩ : ∃ j : Nat, x = j := ⟨x.toNat, by omega⟩
    unfold outOf
    rw [Int.toNat_natCast]
    cases h3 : bx D j
    · exfalso
      have hne : j ≠ b := fun e => hirr (by rw [e] at h1; exact h1)
      exact hirr (byValue_trans G _ _ _ (hbest j (by omega) h3 hne) h1)
    · rfl
  have hA2 : ∀ x ∈ A, outOf (D.set b true) x = true := by
    intro x hx
    have h1 := hA x hx
    unfold outOf at *
    rw [bx_set _ _ _ _ (by omega)]
    split
    · rfl
    · exact h1
  have hB : ∀ x ∈ B, outOf D x = outOf (D.set b true) x := by
    intro x hx
    have h1 := hs.2.1.1 x hx
    have h2 := hr x (by simp [hx])
    unfold outOf
    rw [bx_set _ _ _ _ (by omega), if_neg]
    intro e
    obtain rfl : x = (b : Int) := by omega
    exact hirr h1
  have hob : outOf D b = false := by simp [outOf, hd]
  have hob2 : outOf (D.set b true) b = true := by simp [outOf, bx_set _ _ _ _ (show b < D.length by omega)]
  rw [hAB, fillS_skip G _ A _ _ hA, fillS_skip G _ A _ _ hA2, fillS, hob, fillS, hob2, if_neg (by simp), if_pos rfl, Int.toNat_natCast, fillS_congr G _ _ B _ hB]

/-- What the search for the best group that is left finds. -/
def BestOf (G : List (Int × Int)) (D : List Bool) (i : Nat) (best : Int) : Prop :=
  (best = -1 ∧ ∀ j, j < i → bx D j = true) ∨ ∃ b : Nat, b < i ∧ best = b ∧ bx D b = false ∧ ∀ j, j < i → bx D j = false → j ≠ b → byValue G b j

theorem BestOf.skip {G : List (Int × Int)} {D : List Bool} {i : Nat} {best : Int} (h : BestOf G D i best) (hd : bx D i = true) : BestOf G D (i + 1) best := by
  rcases h with ⟨rfl, h⟩ | ⟨b, hb, rfl, hd', h⟩
  · exact .inl ⟨rfl, fun j hj => by rcases Nat.lt_succ_iff_lt_or_eq.1 hj with hj | rfl; exact h j hj; exact hd⟩
  · refine .inr ⟨b, by omega, rfl, hd', fun j hj hj2 hne => ?_⟩
    rcases Nat.lt_succ_iff_lt_or_eq.1 hj with hj | rfl
    · exact h j hj hj2 hne
    · rw [hd] at hj2; simp at hj2

theorem BestOf.first {G : List (Int × Int)} {D : List Bool} {i : Nat} (h : BestOf G D i (-1)) (hd : bx D i = false) : BestOf G D (i + 1) i := by
  rcases h with ⟨_, h⟩ | ⟨b, hb, e, _⟩
  · refine .inr ⟨i, by omega, rfl, hd, fun j hj hj2 hne => ?_⟩
    have := h j (by omega)
    rw [this] at hj2; simp at hj2
  · omega

theorem BestOf.keep {G : List (Int × Int)} {D : List Bool} {i b : Nat} (h : BestOf G D i b) (hv : gv G i ≤ gv G b) (hb : b < i) : BestOf G D (i + 1) b := by
  rcases h with ⟨e, h⟩ | ⟨b', hb', e, hd', h⟩
  · omega
  · obtain rfl : b = b' := by omega
    refine .inr ⟨b, by omega, rfl, hd', fun j hj hj2 hne => ?_⟩
    rcases Nat.lt_succ_iff_lt_or_eq.1 hj with hj | rfl
    · exact h j hj hj2 hne
    · unfold byValue; simp; omega

theorem BestOf.next {G : List (Int × Int)} {D : List Bool} {i b : Nat} (h : BestOf G D i b) (hv : gv G b < gv G i) (hd : bx D i = false) : BestOf G D (i + 1) i := by
  rcases h with ⟨e, h⟩ | ⟨b', hb', e, hd', h⟩
  · omega
  · obtain rfl : b = b' := by omega
    refine .inr ⟨i, by omega, rfl, hd, fun j hj hj2 hne => ?_⟩
    have hj3 : j < i := by omega
    by_cases hjb : j = b
    · subst hjb; unfold byValue; simp; omega
    · have := h j hj3 hj2 hjb
      unfold byValue at *; simp at *; omega
end Go.Proofs.Ytaomlhhlefpdeaa
