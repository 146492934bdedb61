/- money.Split, plain: what the statements ask of the parts of any amount. -/
import Derived.Test.YtiapfpdkcdhhoaaDoorMU
namespace Go.Proofs.YtiapfpdkcdhhoaaDoor
open Go.RowKit Go.IntWalk

/-- What splitB says. -/
theorem split_nums {n : Int} {W : List Int} (h : splitB n W = true) (hl : W.length ≤ 100) : Amt n ∧ Nums (signS n * n) W := by
  unfold splitB at h
  have hsp : amtB n = true ∧ (W.all fun x => !badB x) = true ∧ allW W ≠ 0 := by simpa [and_assoc] using h
  have hin : ∀ i, i < W.length → 0 ≤ ix W i ∧ ix W i ≤ 1000000000 := fun i hi => (bad_iff _).1 (by have := (all_ix _ W).mp hsp.2.1 i hi; simpa using this)
  exact ⟨(amtB_iff n).mp hsp.1, nums_of hsp.1 hin hsp.2.2 hl⟩

theorem sign_cases (n : Int) : (n < 0 ∧ signS n = -1) ∨ (0 ≤ n ∧ signS n = 1) := by unfold signS; split <;> omega

theorem split_total {n : Int} {W : List Int} (h : Nums (signS n * n) W) : sumN (ix (splitS n W)) W.length = n := by
  rw [sumN_congr (ix (splitS n W)) (fun i => signS n * partS (signS n * n) W i) _ (fun i hi => splitS_at n W i hi), sumN_mul, parts_sum h.pos]
  rcases sign_cases n with ⟨h1, e⟩ | ⟨h1, e⟩ <;> rw [e] <;> omega

/-- What holds of one part. -/
structure PartFacts (n W1 l all : Int) : Prop where
  zero : W1 = 0 → l = 0
  pos : 0 ≤ n → 0 ≤ l
  neg : n ≤ 0 → l ≤ 0
  lo : -1000000001 ≤ l
  hi : l ≤ 1000000001
  near : l * all - n * W1 < all ∧ -all < l * all - n * W1

theorem split_part {n : Int} {W : List Int} (hn : Amt n) (h : Nums (signS n * n) W) (i : Nat) (hi : i < W.length) : PartFacts n (ix W i) (ix (splitS n W) i) (allW W) := by
  have hb := nums_part h i hi
  have hw := h.each i hi
  have hz := part_zero (N := signS n * n) h.pos i hi
  have hnear := part_near (N := signS n * n) h.pos i hi
  have hz0 : signS n * n = 0 → partS (signS n * n) W i = 0 := fun e => by
    have hle := part_le h.lo h.pos i hi (ix_le_all W (fun j hj => (h.each j hj).1) i hi) hw.1
    omega
  rw [splitS_at n W i hi]
  rcases sign_cases n with ⟨h1, e⟩ | ⟨h1, e⟩
  · rw [e] at hb hz hnear hz0 ⊢
    generalize partS (-1 * n) W i = P at *
    refine ⟨fun e => by have := hz e; omega, fun _ => by omega, fun _ => by omega, by omega, by omega, ?_⟩
    have e1 : -1 * P * allW W = -(P * allW W) := by rw [Int.mul_assoc]; omega
    have e2 : -1 * n * ix W i = -(n * ix W i) := by rw [Int.mul_assoc]; omega
    rw [e1]
    rw [e2] at hnear
    generalize P * allW W = a at *
    generalize n * ix W i = b at *
    omega
  · rw [e, Int.one_mul] at hb hz hnear hz0
    rw [e, Int.one_mul]
    rw [Int.one_mul]
    generalize partS n W i = P at *
    refine ⟨fun e => by have := hz e; omega, fun _ => by omega, fun h2 => by
      have := hz0 (by omega); omega, by omega, by omega, hnear⟩

/-- The split of the opposite amount. -/
theorem split_opp {n : Int} {W : List Int} (hn : 0 ≤ n) (i : Nat) (hi : i < W.length) : ix (splitS (-n) W) i = -ix (splitS n W) i := by
  rw [splitS_at _ _ _ hi, splitS_at _ _ _ hi]
  by_cases h0 : n = 0
  · subst h0
    have e : signS (-0) = 1 := rfl
    have e2 : signS 0 = 1 := rfl
    rw [e, e2]
    have hz : ∀ W : List Int, partS (1 * 0) W i = 0 := fun W => by
      unfold partS baseS
      have hx : extraS (1 * 0) W = 0 := by
        unfold extraS
        rw [sumN_congr (baseS (1 * 0) W) (fun _ => 0) _ (fun j _ => by unfold baseS; simp), sumN_const]; simp
      rw [hx, if_neg (by omega)]
      simp
    have e3 : (1 : Int) * -0 = 1 * 0 := by omega
    rw [e3, hz]; rfl
  · have e1 : signS n = 1 := sign_nonneg hn
    have e2 : signS (-n) = -1 := by unfold signS; rw [if_pos (by omega)]
    rw [e1, e2, show -1 * -n = n from by omega, show 1 * n = n from by omega]
    omega

theorem splitB_opp (n : Int) (W : List Int) : splitB (-n) W = splitB n W := by unfold splitB; rw [amt_neg]

set_option maxRecDepth 10000 in
theorem total_any (ra : Option Addr) (n c : Nat) (G : List Int) (w : World) (hn : n ≤ 1000000) (hG : Ints w ra n G) (hb : ∀ k, k < n → -2000000000 ≤ ix G k ∧ ix G k ≤ 2000000000) :
    Calls Tryd.prog 14 #[.slice ra n c] w fun e w' => e = .returned (.int .i64 (sumN (ix G) n)) ∧ w = w' := by
  have HG := Lib.hid hG
  have HB := Lib.hid hb
  clear hG hb
  go_enter Tryd.func14, Tryd.ntmps14
  go_wp2_with fail
  go_loop [3, 4] (fun v3 k => ∃ (i : Nat) (s : Int), i ≤ n ∧ k = .int .i64 i ∧ v3 = .int .i64 s ∧ -2000000000 * (i : Int) ≤ s ∧ s ≤ 2000000000 * (i : Int) ∧ Hid (sumN (ix G) i = s)) (fun _ k => n - (intOf k).toNat)
  case atStart => exact ⟨0, 0, Nat.zero_le _, rfl, rfl, by omega, by omega, rfl⟩
  case round =>
    obtain ⟨i, s, hi, rfl, rfl, hs1, hs2, HS⟩ := hrel
    by_cases hlt : i < n
    · obtain ⟨b, o, rfl, r1⟩ := HG.out.2 i hlt
      have hx0 := HB.out i hlt
      obtain ⟨x, hx⟩ : ∃ x, ix G i = x := ⟨_, rfl⟩
      rw [hx] at r1 hx0
      have HS2 : Hid (sumN (ix G) (i + 1) = s + x) := by show _ = _; rw [sumN, HS.out, hx]
      clear hx HS
      go_wp2_with fail
      go_round
      case rel => exact ⟨i + 1, s + x, by omega, by go_num, rfl, by omega, by omega, HS2⟩
      case measure => simp [intOf]; omega
    · obtain rfl : i = n := by omega
      go_wp2_with fail
      go_ret
      exact ⟨by rw [HS.out]; rfl, rfl⟩
end Go.Proofs.YtiapfpdkcdhhoaaDoor
