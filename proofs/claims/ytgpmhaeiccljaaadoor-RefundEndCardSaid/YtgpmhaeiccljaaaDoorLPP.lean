/- money.Split, plain: what holds of the parts of any amount; refund, plain: laws of the part and of what is left. -/
import Derived.Test.YtgpmhaeiccljaaaDoorMS
import Derived.Test.YtgpmhaeiccljaaaDoorMX
import Derived.Test.YtgpmhaeiccljaaaDoorR0
namespace Go.Proofs.YtgpmhaeiccljaaaDoor
open Go.RowKit Go.IntWalk

theorem amt_neg (z : Int) : amtB (-z) = amtB z := by
  rw [Bool.eq_iff_iff, amtB_iff, amtB_iff]
  unfold Amt
  omega

theorem all_ix (p : Int → Bool) (L : List Int) : L.all p = true ↔ ∀ i, i < L.length → p (ix L i) = true := by
  rw [List.all_eq_true]
  constructor
  · intro h i hi
    rw [ix_eq _ _ hi]
    exact h _ (List.getElem_mem hi)
  · intro h x hx
    obtain ⟨i, hi, rfl⟩ := List.getElem_of_mem hx
    have := h i hi
    rwa [ix_eq _ _ hi] at this

/-- What splitB says. -/
theorem split_nums {n : Int} {W : List Int} (h : splitB n W = true) (hl : W.length ≤ 100) : Amt n ∧ Nums (signS n * n) W := by
  unfold splitB at h
  have hsp : amtB n = true ∧ (W.all fun x => !badB x) = true ∧ allW W ≠ 0 := by simpa [and_assoc] using h
  have hin : ∀ i, i < W.length → 0 ≤ ix W i ∧ ix W i ≤ 1000000000 := fun i hi => (bad_iff _).1 (by have := (all_ix _ W).mp hsp.2.1 i hi; simpa using this)
  exact ⟨(amtB_iff n).mp hsp.1, nums_of hsp.1 hin hsp.2.2 hl⟩

theorem sign_cases (n : Int) : (n < 0 ∧ signS n = -1) ∨ (0 ≤ n ∧ signS n = 1) := by unfold signS; split <;> omega

theorem split_total {n : Int} {W : List Int} (h : Nums (signS n * n) W) : sumN (ix (splitS n W)) W.length = n := by
  rw [sumN_congr (ix (splitS n W)) (fun i => signS n * partS (signS n * n) W i) _ (fun i hi => splitS_at n W i hi), sumN_mul, parts_sum h.pos]
  rcases sign_cases n with ⟨h1, e⟩ | ⟨h1, e⟩ <;> rw [e] <;> omega

/-- What holds of one part. -/
structure PartFacts (n W1 l all : Int) : Prop where
  zero : W1 = 0 → l = 0
  pos : 0 ≤ n → 0 ≤ l
  neg : n ≤ 0 → l ≤ 0
  lo : -1000000001 ≤ l
  hi : l ≤ 1000000001
  near : l * all - n * W1 < all ∧ -all < l * all - n * W1

theorem split_part {n : Int} {W : List Int} (hn : Amt n) (h : Nums (signS n * n) W) (i : Nat) (hi : i < W.length) : PartFacts n (ix W i) (ix (splitS n W) i) (allW W) := by
  have hb := nums_part h i hi
  have hw := h.each i hi
  have hz := part_zero (N := signS n * n) h.pos i hi
  have hnear := part_near (N := signS n * n) h.pos i hi
  have hz0 : signS n * n = 0 → partS (signS n * n) W i = 0 := fun e => by
    have hle := part_le h.lo h.pos i hi (ix_le_all W (fun j hj => (h.each j hj).1) i hi) hw.1
    omega
  rw [splitS_at n W i hi]
  rcases sign_cases n with ⟨h1, e⟩ | ⟨h1, e⟩
  · rw [e] at hb hz hnear hz0 ⊢
    generalize partS (-1 * n) W i = P at *
    refine ⟨fun e => by have := hz e; omega, fun _ => by omega, fun _ => by omega, by omega, by omega, ?_⟩
    have e1 : -1 * P * allW W = -(P * allW W) := by rw [Int.mul_assoc]; omega
    have e2 : -1 * n * ix W i = -(n * ix W i) := by rw [Int.mul_assoc]; omega
    rw [e1]
    rw [e2] at hnear
    generalize P * allW W = a at *
    generalize n * ix W i = b at *
    omega
  · rw [e, Int.one_mul] at hb hz hnear hz0
    rw [e, Int.one_mul]
    rw [Int.one_mul]
    generalize partS n W i = P at *
    refine ⟨fun e => by have := hz e; omega, fun _ => by omega, fun h2 => by
      have := hz0 (by omega); omega, by omega, by omega, hnear⟩
end Go.Proofs.YtgpmhaeiccljaaaDoor
namespace Go.Proofs.YtgpmhaeiccljaaaDoor

theorem some_at (ns : List Name) (ps : List Int) : ns.length = ps.length → (somePos ns ps).length ≤ ns.length := fun _ => by
  have := (some_sub ns ps).length_le
  simpa using this

section
variable {l : List MeanT} {a : Int}

theorem part_splitB (h : Good l) (h0 : 0 ≤ a) (h1 : a ≤ totS l) (hne : l ≠ []) : splitB a (wts l) = true := by
  have hall : allW (wts l) = totS l := tot_all l
  have hpos : 0 < totS l := by
    have hl : 0 < l.length := List.length_pos_iff.mpr hne
    have := am_le_tot (fun j hj => by have := h.pos j hj; omega) 0 hl
    have := h.pos 0 hl
    omega
  have hb : ((wts l).all fun x => !badB x) = true := (all_ix _ _).mpr fun i hi => by
    rw [wts_len] at hi
    have := h.le i hi
    rw [wts_at l i hi, (bad_iff _).2 ⟨by omega, this.2⟩]
    rfl
  unfold splitB
  rw [(amtB_iff a).mpr (by unfold Amt; have := h.tot; omega), hb, hall]
  simp
  omega

/-- What one means gets. -/
structure PartOk (l : List MeanT) (a : Int) (i : Nat) (p : Int) : Prop where
  lo : 0 ≤ p
  hi : p ≤ am l i
  near : p * totS l - a * am l i < totS l ∧ -totS l < p * totS l - a * am l i

theorem part_ok (h : Good l) (h0 : 0 ≤ a) (h1 : a ≤ totS l) (hne : l ≠ []) (i : Nat) (hi : i < l.length) : PartOk l a i (ix (splitS a (wts l)) i) := by
  have hs := split_nums (part_splitB h h0 h1 hne) (by rw [wts_len]; exact h.len)
  have F := split_part hs.1 hs.2 i (by rw [wts_len]; exact hi)
  rw [wts_at l i hi, tot_all] at F
  have hw := h.le i hi
  refine ⟨F.pos h0, ?_, F.near⟩
  have hn := F.near.1
  generalize ix (splitS a (wts l)) i = p at *
  apply Classical.byContradiction
  intro hgt
  have h2 : (am l i + 1) * totS l ≤ p * totS l := Int.mul_le_mul_of_nonneg_right (by omega) (by omega)
  have h3 : a * am l i ≤ totS l * am l i := Int.mul_le_mul_of_nonneg_right h1 (by omega)
  rw [Int.add_mul, Int.one_mul, Int.mul_comm (am l i)] at h2
  omega

theorem names_len (l : List MeanT) (a : Int) : (l.map (·.1)).length = (splitS a (wts l)).length := by rw [List.length_map, splitS_length, wts_len]

theorem part_nn (h : Good l) (h0 : 0 ≤ a) (h1 : a ≤ totS l) (hne : l ≠ []) : ∀ p ∈ splitS a (wts l), 0 ≤ p := by
  intro p hp
  obtain ⟨i, hi, rfl⟩ := List.getElem_of_mem hp
  have hi' : i < l.length := by rwa [splitS_length, wts_len] at hi
  have := (part_ok h h0 h1 hne i hi').lo
  rwa [ix_eq _ _ hi] at this

theorem foldr_sum (L : List Int) : L.foldr (· + ·) 0 = sumN (ix L) L.length := by
  have key : ∀ n, n ≤ L.length → sumN (ix L) n = (L.take n).foldr (· + ·) 0 := by
    intro n
    induction n with
    | zero => intro _; rfl
    | succ n ih =>
      intro hn
      rw [sumN, ih (by omega), List.take_succ_eq_append_getElem (by omega), List.foldr_append, ix_eq _ _ (by omega)]
      have : ∀ (A : List Int) (z : Int), A.foldr (· + ·) z = A.foldr (· + ·) 0 + z := by
        intro A
        induction A with
        | nil => intro z; simp
        | cons x A ih => intro z; rw [List.foldr_cons, List.foldr_cons, ih z]; omega
      rw [List.foldr_cons, List.foldr_nil, this (L.take n) (L[n] + 0)]
      omega
  rw [key L.length (Nat.le_refl _), List.take_length]

theorem part_tot (h : Good l) (h0 : 0 ≤ a) (h1 : a ≤ totS l) (hne : l ≠ []) : totS (partList l a) = a := by
  have hs := split_nums (part_splitB h h0 h1 hne) (by rw [wts_len]; exact h.len)
  unfold partList
  rw [some_tot _ _ (names_len l a) (part_nn h h0 h1 hne), foldr_sum, splitS_length, split_total hs.2]

theorem part_of (h : Good l) (h0 : 0 ≤ a) (h1 : a ≤ totS l) (hne : l ≠ []) (i : Nat) (hi : i < l.length) : ofS (partList l a) (nm l i) = ix (splitS a (wts l)) i := by
  have hlen := names_len l a
  have h3 : i < (splitS a (wts l)).length := by rw [splitS_length, wts_len]; exact hi
  have := some_of (l.map (·.1)) (splitS a (wts l)) hlen h.diff.names (part_nn h h0 h1 hne) i (by simpa using hi) h3
  rw [List.getElem_map, ← nm_eq _ _ hi, ← ix_eq _ _ h3] at this
  exact this

theorem part_diff (h : Good l) : Diff (partList l a) := (some_sub _ _).nodup h.diff.names

theorem take_of (h : Good l) (t : List MeanT) (ht : ∀ i, i < l.length → 0 ≤ am l i - ofS t (nm l i)) (i : Nat) (hi : i < l.length) : ofS (takeS l t) (nm l i) = am l i - ofS t (nm l i) := by
  unfold takeS
  have h2 : i < (l.map fun m => m.2 - ofS t m.1).length := by simpa using hi
  have := some_of (l.map (·.1)) (l.map fun m => m.2 - ofS t m.1) (by simp) h.diff.names (fun p hp => by
    obtain ⟨j, hj, rfl⟩ := List.getElem_of_mem hp
    have hj' : j < l.length := by simpa using hj
    have := ht j hj'
    rw [nm_eq _ _ hj', am_eq _ _ hj'] at this
    simpa using this) i (by simpa using hi) h2
  rw [List.getElem_map, List.getElem_map, ← nm_eq _ _ hi, ← am_eq _ _ hi] at this
  exact this

theorem take_diff (h : Good l) (t : List MeanT) : Diff (takeS l t) := (some_sub _ _).nodup h.diff.names

theorem take_pos (l t : List MeanT) (i : Nat) (hi : i < (takeS l t).length) : 1 ≤ am (takeS l t) i := by
  rw [am_eq _ _ hi]
  exact some_pos _ _ _ (List.getElem_mem hi)

theorem take_len (l t : List MeanT) : (takeS l t).length ≤ l.length := by
  have := (some_sub (l.map (·.1)) (l.map fun m => m.2 - ofS t m.1)).length_le
  simpa [takeS] using this

theorem take_tot (t : List MeanT) (ht : ∀ i, i < l.length → 0 ≤ am l i - ofS t (nm l i)) : totS (takeS l t) = totS l - sumN (fun i => ofS t (nm l i)) l.length := by
  unfold takeS
  rw [some_tot _ _ (by simp) (fun p hp => by
    obtain ⟨j, hj, rfl⟩ := List.getElem_of_mem hp
    have hj' : j < l.length := by simpa using hj
    have := ht j hj'
    rw [nm_eq _ _ hj', am_eq _ _ hj'] at this
    simpa using this), foldr_sum, ← tot_all]
  unfold allW
  rw [List.length_map, wts_len]
  have e : sumN (ix (l.map fun m => m.2 - ofS t m.1)) l.length = sumN (fun i => ix (wts l) i + (-1) * ofS t (nm l i)) l.length := sumN_congr _ _ _ fun i hi => by
    rw [ix_eq _ _ (by simpa using hi), List.getElem_map, wts_at l i hi, nm_eq _ _ hi, am_eq _ _ hi]
    omega
  rw [e, sumN_add, sumN_mul]
  omega

theorem take_good (h : Good l) (t : List MeanT) (ht : ∀ i, i < l.length → 0 ≤ am l i - ofS t (nm l i)) (ht0 : ∀ i, i < l.length → 0 ≤ ofS t (nm l i)) : Good (takeS l t) := by
  refine ⟨take_diff h t, take_pos l t, ?_, Nat.le_trans (take_len l t) h.len⟩
  rw [take_tot t ht]
  have := sumN_le (fun _ => 0) (fun i => ofS t (nm l i)) l.length ht0
  rw [sumN_const] at this
  have := h.tot
  omega
end
end Go.Proofs.YtgpmhaeiccljaaaDoor
