/- foyerref01, plain: the reference's split, text and parse answer as money's. -/
import Derived.Test.YtgpmhaeiccljaaaDoorMB
import Derived.Test.YtgpmhaeiccljaaaDoorMC
namespace Go.Proofs.YtgpmhaeiccljaaaDoor
open Go.Lib

theorem bef_irr (N : Int) (W : List Int) (i : Nat) : befS N W i i = false := by
  cases hb : befS N W i i with
  | false => rfl
  | true => have := (bef_iff ..).mp hb; omega

theorem rank_pos (N : Int) (W : List Int) : ∃ l : List Nat, l.Perm (List.range W.length) ∧ l.length = W.length ∧ (∀ p (h : p < l.length), rankS N W l[p] = p ∧ l[p] < W.length) ∧ l.Pairwise (fun a b => befS N W a b = true) := by
  obtain ⟨l, hp, hs⟩ := exists_order N W
  refine ⟨l, hp, by rw [hp.length_eq, List.length_range], fun p h => ⟨rank_at hp hs p h, ?_⟩, hs⟩
  exact List.mem_range.mp (hp.mem_iff.mp (List.getElem_mem h))

theorem rank_surj (N : Int) (W : List Int) (t : Nat) (ht : t < W.length) : ∃ i, i < W.length ∧ rankS N W i = t := by
  obtain ⟨l, _, hl, h, _⟩ := rank_pos N W
  exact ⟨l[t]'(by omega), (h t (by omega)).2, (h t (by omega)).1⟩

theorem rank_place (N : Int) (W : List Int) (i : Nat) (hi : i < W.length) : ∃ l : List Nat, l.length = W.length ∧ l.Pairwise (fun a b => befS N W a b = true) ∧ ∃ h : rankS N W i < l.length, l[rankS N W i] = i := by
  obtain ⟨l, hp, hl, h, hs⟩ := rank_pos N W
  have hm : i ∈ l := hp.mem_iff.mpr (List.mem_range.mpr hi)
  obtain ⟨p, hpl, rfl⟩ := List.getElem_of_mem hm
  have := (h p hpl).1
  refine ⟨l, hl, hs, by rw [this]; exact hpl, ?_⟩
  simp only [this]

theorem rank_lt (N : Int) (W : List Int) (i : Nat) (hi : i < W.length) : rankS N W i < W.length := by
  obtain ⟨l, hl, _, h, _⟩ := rank_place N W i hi
  omega

theorem rank_bef (N : Int) (W : List Int) (i j : Nat) (hi : i < W.length) (hj : j < W.length) (h : befS N W i j = true) : rankS N W i < rankS N W j := by
  obtain ⟨l, hp, hl, hr, hs⟩ := rank_pos N W
  have hm : i ∈ l := hp.mem_iff.mpr (List.mem_range.mpr hi)
  have hm2 : j ∈ l := hp.mem_iff.mpr (List.mem_range.mpr hj)
  obtain ⟨p, hpl, rfl⟩ := List.getElem_of_mem hm
  obtain ⟨q, hql, rfl⟩ := List.getElem_of_mem hm2
  rw [(hr p hpl).1, (hr q hql).1]
  apply Classical.byContradiction
  intro hn
  by_cases e : p = q
  · subst e; rw [bef_irr] at h; simp at h
  · have := List.pairwise_iff_getElem.mp hs q p hql hpl (by omega)
    have a := (bef_iff ..).mp this
    have b := (bef_iff ..).mp h
    omega

/-- The first of those that are left, by the rests, is the next one by rank. -/
theorem rank_next {N : Int} {W : List Int} {t b : Nat} (ht : t < W.length) (hb : b < W.length) (h0 : t ≤ rankS N W b) (h : ∀ j, j < W.length → t ≤ rankS N W j → j = b ∨ befS N W b j = true) : rankS N W b = t := by
  obtain ⟨j, hj, e⟩ := rank_surj N W t ht
  rcases h j hj (by omega) with rfl | h
  · exact e
  · have := rank_bef N W b j hb hj h
    omega

theorem rank_inj {N : Int} {W : List Int} {i j : Nat} (hi : i < W.length) (hj : j < W.length) (h : rankS N W i = rankS N W j) : i = j := by
  by_cases h1 : befS N W i j = true
  · have := rank_bef N W i j hi hj h1; omega
  · by_cases h2 : befS N W j i = true
    · have := rank_bef N W j i hj hi h2; omega
    · rw [bef_iff] at h1 h2; omega

theorem ix_le_all (W : List Int) (h : ∀ i, i < W.length → 0 ≤ ix W i) : ∀ i, i < W.length → ix W i ≤ allW W := by
  have : ∀ n, n ≤ W.length → 0 ≤ sumN (ix W) n ∧ ∀ i, i < n → ix W i ≤ sumN (ix W) n := by
    intro n
    induction n with
    | zero => intro _; exact ⟨by simp [sumN], fun i hi => absurd hi (by omega)⟩
    | succ n ih =>
      intro hn
      have a := ih (by omega)
      have b := h n (by omega)
      refine ⟨by rw [sumN]; omega, fun i hi => ?_⟩
      rw [sumN]
      by_cases e : i = n
      · subst e; omega
      · have := a.2 i (by omega); omega
  exact (this W.length (Nat.le_refl _)).2

theorem base_le {N : Int} {W : List Int} (hN : 0 ≤ N) (hall : 0 < allW W) (i : Nat) (h1 : ix W i ≤ allW W) : baseS N W i ≤ N := by
  unfold baseS
  have : N * ix W i ≤ N * allW W := Int.mul_le_mul_of_nonneg_left h1 hN
  have h2 : N * ix W i / allW W ≤ N * allW W / allW W := Int.ediv_le_ediv hall this
  rw [Int.mul_ediv_cancel _ (by omega)] at h2
  exact h2

theorem split_neg (n : Int) (W : List Int) (hn : n < 0) : splitS n W = (splitS (0 - n) W).map fun x => 0 - x := by
  unfold splitS signS
  rw [List.map_map]
  apply List.map_congr_left
  intro i _
  dsimp only [Function.comp]
  rw [if_pos hn, if_neg (by omega)]
  rw [show 1 * (0 - n) = -1 * n from by omega]
  omega

/-! ### Digits -/
/-- foyerref01's digits. -/
def refDigits : Nat → Nat → Int → List UInt8
  | 0, _, _ => []
  | f + 1, n, w => if n < 10 ∧ w ≤ 1 then [UInt8.ofNat (48 + n)] else refDigits f (n / 10) (w - 1) ++ [UInt8.ofNat (48 + n % 10)]

theorem refDigits_one : ∀ (f n : Nat) (w : Int), n < 10 ^ f → w ≤ 1 → 0 < f → refDigits f n w = decDigits n := by
  intro f
  induction f with
  | zero => intro n w _ _ h; omega
  | succ f ih =>
    intro n w hn hw _
    rw [refDigits, decDigits]
    by_cases h : n < 10
    · rw [if_pos ⟨h, hw⟩, dif_pos h]
    · rw [if_neg (fun a => h a.1), dif_neg h]
      rw [Nat.pow_succ] at hn
      have hf : 0 < f := by
        apply Nat.pos_of_ne_zero
        rintro rfl
        simp at hn
        omega
      rw [ih (n / 10) (w - 1) (by omega) (by omega) hf]

theorem refDigits_two (f r : Nat) (hf : 2 ≤ f) (hr : r < 100) : refDigits f r 2 = twoS r := by
  obtain ⟨g, rfl⟩ : ∃ g, f = g + 2 := ⟨f - 2, by omega⟩
  rw [refDigits, if_neg (by omega), refDigits, if_pos ⟨by omega, by omega⟩]
  rfl

/-- What foyerref01.Parse reckons. -/
def scanS : Int → List UInt8 → Int
  | n, [] => n
  | n, c :: l => scanS (if 48 ≤ c.toNat ∧ c.toNat ≤ 57 ∧ n ≤ 1000000000 then 10 * n + ((c.toNat : Int) - 48) else n) l

theorem scan_append : ∀ (A B : List UInt8) (n : Int), scanS n (A ++ B) = scanS (scanS n A) B := by
  intro A
  induction A with
  | nil => intro B n; rfl
  | cons c A ih => intro B n; rw [List.cons_append, scanS, scanS, ih]

theorem scan_digits : ∀ (l : List UInt8) (acc : Nat), (∀ b ∈ l, IsDig b) → valD acc l ≤ 1000000000 → scanS acc l = valD acc l := by
  intro l
  induction l with
  | nil => intro acc _ _; rfl
  | cons b l ih =>
    intro acc hd hv
    have hb := hd b (by simp)
    unfold IsDig at hb
    have e : valD acc (b :: l) = valD (acc * 10 + (b.toNat - 48)) l := rfl
    have hge := valD_ge l (acc * 10 + (b.toNat - 48))
    rw [e] at hv ⊢
    rw [scanS, if_pos ⟨hb.1, hb.2, by omega⟩]
    rw [show (10 * (acc : Int) + ((b.toNat : Int) - 48)) = ((acc * 10 + (b.toNat - 48) : Nat) : Int) from by omega]
    exact ih _ (fun x hx => hd x (by simp [hx])) hv

theorem scan_text {b : Int} (hb : Amt b) : scanS 0 (textS b) = (b.natAbs : Int) := by
  have hd := decDigits_spec (b.natAbs / 100)
  have h2 := two_spec (r := b.natAbs % 100) (by omega)
  unfold textS
  rw [if_pos hb]
  have hv : valD (b.natAbs / 100) (twoS (b.natAbs % 100)) = b.natAbs := by rw [h2.2]; omega
  have hB : b.natAbs ≤ 1000000000 := by unfold Amt at hb; omega
  have h0 : scanS 0 (if b < 0 then [45] else []) = 0 := by
    split
    · rw [scanS, scanS, if_neg (by have : (45 : UInt8).toNat = 45 := rfl; omega)]
    · rfl
  rw [scan_append, h0, scan_append]
  have h3 := scan_digits (decDigits (b.natAbs / 100)) 0 hd.1 (by rw [hd.2.1]; omega)
  rw [hd.2.1] at h3
  rw [show (0 : Int) = ((0 : Nat) : Int) from rfl, h3]
  rw [scanS, if_neg (by have : (46 : UInt8).toNat = 46 := rfl; omega)]
  have h4 := scan_digits (twoS (b.natAbs % 100)) (b.natAbs / 100) h2.1 (by rw [hv]; exact hB)
  rw [hv] at h4
  exact h4

/-- What foyerref01.Parse returns: a number and an error. -/
def refParse (t : List UInt8) : Int × Int :=
  if t = [] ∨ (textS (scanS 0 t) ≠ t ∧ textS (0 - scanS 0 t) ≠ t) then (0, 4) else if textS (scanS 0 t) = t then (scanS 0 t, 0) else (0 - scanS 0 t, 0)

theorem refParse_eq (t : List UInt8) : refParse t = match parseS t with | some v => (v, 0) | none => (0, 4) := by
  unfold refParse
  cases h : parseS t with
  | some b =>
    obtain ⟨h1, h2⟩ := (parse_iff t b).mp h
    have hs := scan_text h1
    rw [h2] at hs
    rw [hs]
    have hne : t ≠ [] := by rw [← h2]; exact text_some.mpr h1
    by_cases hb : 0 ≤ b
    · rw [show (b.natAbs : Int) = b from by omega, if_neg (by rintro (a | a); exact hne a; exact a.1 h2), if_pos h2]
    · have e : (b.natAbs : Int) = -b := by omega
      rw [e, show (0 : Int) - -b = b from by omega]
      have hn : textS (-b) ≠ t := by
        rw [← h2]
        intro hh
        have := (text_inj h1).mp hh.symm
        omega
      rw [if_neg (by rintro (a | a); exact hne a; exact a.2 h2), if_neg hn]
  | none =>
    dsimp only
    by_cases hne : t = []
    · rw [if_pos (Or.inl hne)]
    · have key : ∀ v, textS v ≠ t := by
        intro v hv
        have : Amt v := text_some.mp (by rw [hv]; exact hne)
        rw [(parse_iff t v).mpr ⟨this, hv⟩] at h
        simp at h
      rw [if_pos (Or.inr ⟨key _, key _⟩)]

/-- What foyerref01.Share returns. -/
def refShare (n num den : Int) : Int :=
  let x := n * num
  let y := if x < 0 then 0 - x else x
  let whole := if den < 2 * (y % den) ∨ (2 * (y % den) = den ∧ y / den % 2 = 1) then y / den + 1 else y / den
  whole

theorem refShare_eq (n num den : Int) (hd : 0 < den) : roundS (n * num) den = if n * num < 0 then 0 - refShare n num den else refShare n num den := by
  rw [round_abs hd]
  unfold refShare
  dsimp only
  split
  · rename_i h
    rw [show (0 : Int) - n * num = -(n * num) from by omega]
    unfold roundS
    have : ∀ z : Int, (z % 2 ≠ 0) = (z % 2 = 1) := by intro z; apply propext; omega
    simp only [this]
    omega
  · unfold roundS
    have : ∀ z : Int, (z % 2 ≠ 0) = (z % 2 = 1) := by intro z; apply propext; omega
    simp only [this]
end Go.Proofs.YtgpmhaeiccljaaaDoor
