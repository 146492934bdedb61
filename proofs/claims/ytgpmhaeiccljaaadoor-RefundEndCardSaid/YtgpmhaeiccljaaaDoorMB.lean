/- money.Split, plain: the parts by the largest rests, and what the statements say of them. -/
import Derived.Test.YtgpmhaeiccljaaaDoorMA
import Derived.Test.YtgpmhaeiccljaaaDoorRow
namespace Go.Proofs.YtgpmhaeiccljaaaDoor

/-! ### Sums over the first numbers -/
def sumN (f : Nat → Int) : Nat → Int
  | 0 => 0
  | n + 1 => sumN f n + f n

def sumL (f : Nat → Int) : List Nat → Int
  | [] => 0
  | x :: l => f x + sumL f l

theorem sumL_append (f : Nat → Int) (A B : List Nat) : sumL f (A ++ B) = sumL f A + sumL f B := by
  induction A with
  | nil => simp [sumL]
  | cons x A ih => rw [List.cons_append, sumL, sumL, ih]; omega

theorem sumL_range (f : Nat → Int) : ∀ n, sumL f (List.range n) = sumN f n := by
  intro n
  induction n with
  | zero => rfl
  | succ n ih => rw [List.range_succ, sumL_append, ih, sumN, sumL, sumL]; omega

theorem sumL_perm (f : Nat → Int) {A B : List Nat} (h : A.Perm B) : sumL f A = sumL f B := by
  induction h with
  | nil => rfl
  | cons x _ ih => rw [sumL, sumL, ih]
  | swap x y l => simp only [sumL]; omega
  | trans _ _ i j => rw [i, j]

theorem sumL_map (f : Nat → Int) (g : Nat → Nat) (A : List Nat) : sumL f (A.map g) = sumL (fun x => f (g x)) A := by
  induction A with
  | nil => rfl
  | cons x A ih => rw [List.map_cons, sumL, sumL, ih]

theorem sumN_congr (f g : Nat → Int) : ∀ n, (∀ k, k < n → f k = g k) → sumN f n = sumN g n := by
  intro n
  induction n with
  | zero => intro _; rfl
  | succ n ih => intro h; rw [sumN, sumN, ih (fun k hk => h k (by omega)), h n (by omega)]

theorem sumN_add (f g : Nat → Int) : ∀ n, sumN (fun k => f k + g k) n = sumN f n + sumN g n := by
  intro n
  induction n with
  | zero => rfl
  | succ n ih => rw [sumN, sumN, sumN, ih]; omega

theorem sumN_mul (c : Int) (f : Nat → Int) : ∀ n, sumN (fun k => c * f k) n = c * sumN f n := by
  intro n
  induction n with
  | zero => simp [sumN]
  | succ n ih => rw [sumN, sumN, ih, Int.mul_add]

theorem sumN_le (f g : Nat → Int) : ∀ n, (∀ k, k < n → f k ≤ g k) → sumN f n ≤ sumN g n := by
  intro n
  induction n with
  | zero => intro _; exact Int.le_refl _
  | succ n ih => intro h; rw [sumN, sumN]; have := ih (fun k hk => h k (by omega)); have := h n (by omega); omega

theorem sumN_const (c : Int) : ∀ n : Nat, sumN (fun _ => c) n = n * c := by
  intro n
  induction n with
  | zero => simp [sumN]
  | succ n ih => rw [sumN, ih, Int.natCast_add, Int.add_mul]; simp

theorem sumN_below (k : Int) : ∀ n : Nat, sumN (fun p => if (p : Int) < k then 1 else 0) n = min (max k 0) n := by
  intro n
  induction n with
  | zero => simp [sumN]; omega
  | succ n ih =>
    rw [sumN, ih]
    split <;> omega

/-- The weights, summed. -/
def allW (W : List Int) : Int := sumN (ix W) W.length

/-! ### The parts -/
def baseS (N : Int) (W : List Int) (i : Nat) : Int := N * ix W i / allW W
def restS (N : Int) (W : List Int) (i : Nat) : Int := N * ix W i % allW W

/-- j comes ahead of i: it has more left, or as much, and lies ahead. -/
def befS (N : Int) (W : List Int) (j i : Nat) : Bool := decide (restS N W i < restS N W j) || (decide (restS N W j = restS N W i) && decide (j < i))

theorem bef_iff (N : Int) (W : List Int) (j i : Nat) : befS N W j i = true ↔ restS N W i < restS N W j ∨ (restS N W j = restS N W i ∧ j < i) := by
  unfold befS; simp

/-- How many come ahead of i. -/
def rankS (N : Int) (W : List Int) (i : Nat) : Nat := (List.range W.length).countP fun j => befS N W j i

/-- What is left behind the bases. -/
def extraS (N : Int) (W : List Int) : Int := N - sumN (baseS N W) W.length

def partS (N : Int) (W : List Int) (i : Nat) : Int := baseS N W i + if (rankS N W i : Int) < extraS N W then 1 else 0

theorem rank_at {N : Int} {W : List Int} {l : List Nat} (hp : l.Perm (List.range W.length)) (hs : l.Pairwise (fun a b => befS N W a b = true)) (p : Nat) (h : p < l.length) : rankS N W l[p] = p := by
  have hc : rankS N W l[p] = l.countP fun j => befS N W j l[p] := by unfold rankS; exact (hp.countP_eq _).symm
  have hsplit : l = l.take p ++ l[p] :: l.drop (p + 1) := by rw [← List.drop_eq_getElem_cons h, List.take_append_drop]
  have hs' := hs
  rw [hsplit, List.pairwise_append, List.pairwise_cons] at hs'
  have irr : befS N W l[p] l[p] = false := by
    cases hb : befS N W l[p] l[p] with
    | false => rfl
    | true => have := (bef_iff ..).mp hb; omega
  have h1 : (l.take p).countP (fun j => befS N W j l[p]) = p := by
    have : (l.take p).countP (fun j => befS N W j l[p]) = (l.take p).length := List.countP_eq_length.mpr (fun a ha => hs'.2.2 a ha l[p] List.mem_cons_self)
    rw [this, List.length_take]; omega
  have h2 : (l.drop (p + 1)).countP (fun j => befS N W j l[p]) = 0 := List.countP_eq_zero.mpr (fun a ha hb => by
    have a1 := (bef_iff ..).mp (hs'.2.1.1 a ha)
    have a2 := (bef_iff ..).mp hb
    omega)
  rw [hc]
  have e : l.countP (fun j => befS N W j l[p]) = (l.take p ++ l[p] :: l.drop (p + 1)).countP (fun j => befS N W j l[p]) := by rw [← hsplit]
  rw [e, List.countP_append, List.countP_cons, h1, h2, irr]
  simp

theorem exists_order (N : Int) (W : List Int) : ∃ l : List Nat, l.Perm (List.range W.length) ∧ l.Pairwise (fun a b => befS N W a b = true) := by
  refine ⟨(List.range W.length).mergeSort (fun a b => befS N W a b || decide (a = b)), List.mergeSort_perm _ _, ?_⟩
  have h := List.pairwise_mergeSort (le := fun a b : Nat => befS N W a b || decide (a = b)) (fun a b c h1 h2 => by
    simp only [Bool.or_eq_true, decide_eq_true_eq, bef_iff] at *
    rcases h1 with h1 | rfl
    · rcases h2 with h2 | rfl
      · left; omega
      · left; exact h1
    · exact h2) (fun a b => by
    simp only [Bool.or_eq_true, decide_eq_true_eq, bef_iff]
    omega) (List.range W.length)
  have hn : ((List.range W.length).mergeSort (fun a b => befS N W a b || decide (a = b))).Nodup := (List.mergeSort_perm _ _).nodup_iff.mpr List.nodup_range
  refine (List.Pairwise.and h hn).imp ?_
  intro a b hab
  simp only [Bool.or_eq_true, decide_eq_true_eq] at hab
  rcases hab.1 with x | x
  · exact x
  · exact absurd x hab.2

theorem rank_sum (N : Int) (W : List Int) (k : Int) (h0 : 0 ≤ k) (hk : k ≤ W.length) : sumN (fun i => if (rankS N W i : Int) < k then 1 else 0) W.length = k := by
  obtain ⟨l, hp, hs⟩ := exists_order N W
  have hlen : l.length = W.length := by rw [hp.length_eq, List.length_range]
  have hm : l.map (rankS N W) = List.range W.length := by
    apply List.ext_getElem (by simp [hlen])
    intro p h1 h2
    rw [List.getElem_map, List.getElem_range]
    exact rank_at hp hs p (by simpa using h1)
  rw [← sumL_range, ← sumL_perm _ hp, ← sumL_map (fun p : Nat => if (p : Int) < k then 1 else 0) (rankS N W), hm, sumL_range, sumN_below]
  omega

section
variable {N : Int} {W : List Int} (hN : 0 ≤ N) (hall : 0 < allW W)
include hall

theorem base_rest (i : Nat) : N * ix W i = baseS N W i * allW W + restS N W i ∧ 0 ≤ restS N W i ∧ restS N W i < allW W := div_mod hall

theorem extra_rest : allW W * extraS N W = sumN (restS N W) W.length := by
  have h : sumN (fun i => N * ix W i) W.length = sumN (fun i => allW W * baseS N W i + restS N W i) W.length := sumN_congr _ _ _ (fun i _ => by have := (base_rest (N := N) hall i).1; rw [this, Int.mul_comm])
  rw [sumN_mul, sumN_add, sumN_mul] at h
  unfold extraS
  have e : sumN (ix W) W.length = allW W := rfl
  rw [e] at h
  rw [Int.mul_sub]
  have := Int.mul_comm N (allW W)
  omega

/-- Those with a rest. -/
def withRest (N : Int) (W : List Int) : Int := sumN (fun i => if 0 < restS N W i then 1 else 0) W.length

theorem extra_range : 0 ≤ extraS N W ∧ extraS N W ≤ withRest N W ∧ withRest N W ≤ W.length := by
  have h1 := extra_rest (N := N) hall
  have h0 : 0 ≤ sumN (restS N W) W.length := by
    have := sumN_le (fun _ => 0) (restS N W) W.length (fun i _ => (base_rest (N := N) hall i).2.1)
    rw [sumN_const] at this; omega
  have h2 : sumN (restS N W) W.length ≤ sumN (fun i => allW W * (if 0 < restS N W i then 1 else 0)) W.length := sumN_le _ _ _ (fun i _ => by
    have := base_rest (N := N) hall i
    split
    · omega
    · omega)
  rw [sumN_mul] at h2
  have h3 : withRest N W ≤ W.length := by
    unfold withRest
    have := sumN_le (fun i => if 0 < restS N W i then 1 else 0) (fun _ => 1) W.length (fun i _ => by split <;> omega)
    rw [sumN_const] at this; omega
  refine ⟨?_, ?_, h3⟩
  · apply Classical.byContradiction
    intro hneg
    have : allW W * extraS N W < 0 := Int.mul_neg_of_pos_of_neg hall (by omega)
    omega
  · unfold withRest
    apply Classical.byContradiction
    intro hgt
    have : allW W * sumN (fun i => if 0 < restS N W i then 1 else 0) W.length < allW W * extraS N W := Int.mul_lt_mul_of_pos_left (by omega) hall
    omega

/-- Who gets one more has a rest. -/
theorem more_rest (i : Nat) (_hi : i < W.length) (h : (rankS N W i : Int) < extraS N W) : 0 < restS N W i := by
  apply Classical.byContradiction
  intro h0
  have hz : restS N W i = 0 := by have := (base_rest (N := N) hall i).2.1; omega
  have hr := extra_range (N := N) hall
  have hle : withRest N W ≤ rankS N W i := by
    unfold withRest rankS
    have : ∀ n, sumN (fun j => if 0 < restS N W j then 1 else 0) n ≤ ((List.range n).countP fun j => befS N W j i : Nat) := by
      intro n
      induction n with
      | zero => simp [sumN]
      | succ n ih =>
        rw [sumN, List.range_succ, List.countP_append, List.countP_singleton]
        split
        · rename_i hp
          rw [if_pos ((bef_iff ..).mpr (Or.inl (by omega)))]
          omega
        · split <;> omega
    exact this W.length
  omega

theorem part_near (i : Nat) (hi : i < W.length) : partS N W i * allW W - N * ix W i < allW W ∧ -allW W < partS N W i * allW W - N * ix W i := by
  have h := base_rest (N := N) hall i
  unfold partS
  by_cases hr : (rankS N W i : Int) < extraS N W
  · have := more_rest hall i hi hr
    rw [if_pos hr, Int.add_mul]
    generalize baseS N W i * allW W = p at *
    omega
  · rw [if_neg hr, Int.add_zero]
    generalize baseS N W i * allW W = p at *
    omega

theorem part_zero (i : Nat) (hi : i < W.length) (h : ix W i = 0) : partS N W i = 0 := by
  have hb : baseS N W i = 0 := by unfold baseS; rw [h]; simp
  have hr : restS N W i = 0 := by unfold restS; rw [h]; simp
  unfold partS
  rw [hb, if_neg (fun hlt => by have := more_rest hall i hi hlt; omega)]
  rfl

theorem parts_sum : sumN (partS N W) W.length = N := by
  have h := extra_range (N := N) hall
  have e : sumN (partS N W) W.length = sumN (baseS N W) W.length + sumN (fun i => if (rankS N W i : Int) < extraS N W then 1 else 0) W.length := sumN_add _ _ _
  rw [e, rank_sum N W _ h.1 (by omega)]
  unfold extraS
  omega

include hN

theorem base_nonneg (i : Nat) (h : 0 ≤ ix W i) : 0 ≤ baseS N W i := Int.ediv_nonneg (Int.mul_nonneg hN h) (by omega)

theorem part_nonneg (i : Nat) (h : 0 ≤ ix W i) : 0 ≤ partS N W i := by
  have := base_nonneg (W := W) hN hall i h
  unfold partS
  split <;> omega

theorem part_le (i : Nat) (hi : i < W.length) (hw : ix W i ≤ allW W) (_h0 : 0 ≤ ix W i) : partS N W i ≤ N := by
  have h := (part_near (N := N) hall i hi).1
  have hle : N * ix W i ≤ N * allW W := Int.mul_le_mul_of_nonneg_left hw hN
  apply Classical.byContradiction
  intro hgt
  have : (N + 1) * allW W ≤ partS N W i * allW W := Int.mul_le_mul_of_nonneg_right (by omega) (by omega)
  rw [Int.add_mul] at this
  omega

/-- The greater weight does not get less. -/
theorem part_mono (i k : Nat) (h : ix W k ≤ ix W i) (hik : ix W k < ix W i ∨ i < k) : partS N W k ≤ partS N W i := by
  have a := base_rest (N := N) hall i
  have b := base_rest (N := N) hall k
  have hm : N * ix W k ≤ N * ix W i := Int.mul_le_mul_of_nonneg_left h hN
  have hb : baseS N W k ≤ baseS N W i := Int.ediv_le_ediv hall hm
  unfold partS
  by_cases e : baseS N W k = baseS N W i
  · have hr : restS N W k ≤ restS N W i := by rw [e] at b; generalize baseS N W i * allW W = p at *; omega
    have hrank : restS N W k < restS N W i ∨ (restS N W k = restS N W i ∧ i < k) ∨ N = 0 := by
      by_cases h1 : restS N W k < restS N W i
      · exact Or.inl h1
      · rcases hik with h2 | h2
        · right; right
          have hNN : N * ix W k = N * ix W i := by rw [e] at b; generalize baseS N W i * allW W = p at *; omega
          apply Classical.byContradiction
          intro hne
          have : N * ix W k < N * ix W i := Int.mul_lt_mul_of_pos_left h2 (by omega)
          omega
        · right; left; exact ⟨by omega, h2⟩
    rcases hrank with h1 | h1 | h1
    · have hc : rankS N W i ≤ rankS N W k := by
        unfold rankS
        refine List.countP_mono_left (fun j _ hj => ?_)
        rw [bef_iff] at hj ⊢
        omega
      split <;> split <;> omega
    · have hc : rankS N W i ≤ rankS N W k := by
        unfold rankS
        refine List.countP_mono_left (fun j _ hj => ?_)
        rw [bef_iff] at hj ⊢
        omega
      split <;> split <;> omega
    · have hx : extraS N W = 0 := by
        unfold extraS
        rw [sumN_congr (baseS N W) (fun _ => 0) _ (fun j _ => by unfold baseS; rw [h1]; simp), sumN_const, h1]
        simp
      rw [hx, if_neg (by omega), if_neg (by omega), e]
      exact Int.le_refl _
  · split <;> split <;> omega
end

/-- Weights multiplied by a number: the parts are the same. -/
theorem part_scale {N c : Int} {W V : List Int} (hc : 0 < c) (_hall : 0 < allW W) (hl : V.length = W.length) (hV : ∀ i, i < W.length → ix V i = c * ix W i) : ∀ i, i < W.length → partS N V i = partS N W i := by
  have ha : allW V = c * allW W := by
    unfold allW
    rw [hl, sumN_congr (ix V) (fun k => c * ix W k) _ hV, sumN_mul]
  have hb : ∀ i, i < W.length → baseS N V i = baseS N W i := fun i hi => by
    unfold baseS
    rw [hV i hi, ha, show N * (c * ix W i) = c * (N * ix W i) from by rw [← Int.mul_assoc, Int.mul_comm N c, Int.mul_assoc]]
    exact Int.mul_ediv_mul_of_pos _ _ hc
  have hr : ∀ i, i < W.length → restS N V i = c * restS N W i := fun i hi => by
    unfold restS
    rw [hV i hi, ha, show N * (c * ix W i) = c * (N * ix W i) from by rw [← Int.mul_assoc, Int.mul_comm N c, Int.mul_assoc]]
    exact Int.mul_emod_mul_of_pos _ _ hc
  have hx : extraS N V = extraS N W := by
    unfold extraS
    rw [hl, sumN_congr (baseS N V) (baseS N W) _ hb]
  intro i hi
  have hrk : rankS N V i = rankS N W i := by
    unfold rankS
    rw [hl]
    refine List.countP_congr (fun j hj => ?_)
    have hj' := List.mem_range.mp hj
    rw [bef_iff, bef_iff, hr i hi, hr j hj']
    have h1 : c * restS N W i < c * restS N W j ↔ restS N W i < restS N W j := ⟨fun h => by
      apply Classical.byContradiction
      intro hn
      have := Int.mul_le_mul_of_nonneg_left (show restS N W j ≤ restS N W i by omega) (show 0 ≤ c by omega)
      omega, fun h => Int.mul_lt_mul_of_pos_left h hc⟩
    have h2 : c * restS N W j = c * restS N W i ↔ restS N W j = restS N W i := ⟨fun h => Int.eq_of_mul_eq_mul_left (by omega) h, fun h => by rw [h]⟩
    rw [h1, h2]
  unfold partS
  rw [hb i hi, hrk, hx]

/-- The split of any amount. -/
def signS (n : Int) : Int := if n < 0 then -1 else 1
def splitS (n : Int) (W : List Int) : List Int := (List.range W.length).map fun i => signS n * partS (signS n * n) W i

theorem splitS_length (n : Int) (W : List Int) : (splitS n W).length = W.length := by simp [splitS]

theorem splitS_at (n : Int) (W : List Int) (i : Nat) (hi : i < W.length) : ix (splitS n W) i = signS n * partS (signS n * n) W i := by
  unfold ix splitS
  simp [List.getD, hi]
end Go.Proofs.YtgpmhaeiccljaaaDoor
