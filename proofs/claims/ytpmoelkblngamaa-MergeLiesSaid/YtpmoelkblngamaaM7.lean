/- merge: elements that go to their places; equal neighbours once, step by step: plain. -/
import Derived.Test.YtpmoelkblngamaaM6
namespace Go.Proofs.Ytpmoelkblngamaa

section
variable {α : Type} (K : KeyOf α) [DecidableEq α]

/-- The place of a new element, looked for from the end. -/
theorem insK_at {out : List α} (h : Strict K out) {x : α} {p : Nat} (hp : p ≤ out.length) (h1 : ∀ j (hj : j < out.length), p ≤ j → KLt K x out[j]) (h2 : ∀ q, q + 1 = p → ∃ y, out[q]? = some y ∧ ¬ KLt K x y) :
    (∀ q, q + 1 = p → out[q]? = some x → insK K x out = out) ∧ ((∀ q, q + 1 = p → out[q]? ≠ some x) → insK K x out = out.take p ++ x :: out.drop p) := by
  constructor
  · intro q _ hx
    have hm : x ∈ out := List.mem_of_getElem? hx
    refine strict_ext K (insK_strict K x h) h fun a => ?_
    rw [insK_mem]
    exact ⟨fun e => e.elim (fun e => by rw [e]; exact hm) id, Or.inr⟩
  · intro hne
    have hlow : ∀ y ∈ out.take p, KLt K y x := by
      intro y hy
      obtain ⟨j, hj, rfl⟩ := List.getElem_of_mem hy
      rw [List.length_take] at hj
      rw [List.getElem_take]
      obtain ⟨z, hz, hnz⟩ := h2 (p - 1) (by omega)
      have hzx : z ≠ x := fun e => hne (p - 1) (by omega) (by rw [hz, e])
      have hzlt : KLt K z x := by
        rcases ktri K z x with h | h | h
        · exact h
        · exact absurd h hzx
        · exact absurd h hnz
      obtain ⟨hpl, rfl⟩ := List.getElem?_eq_some_iff.mp hz
      by_cases e : j = p - 1
      · subst e; exact hzlt
      · exact ktrans K (List.pairwise_iff_getElem.mp h j (p - 1) (by omega) hpl (by omega)) hzlt
    refine strict_ext K (insK_strict K x h) ?_ fun a => ?_
    · refine List.pairwise_append.mpr ⟨List.Pairwise.sublist (List.take_sublist _ _) h, List.pairwise_cons.mpr ⟨fun y hy => ?_, List.Pairwise.sublist (List.drop_sublist _ _) h⟩, fun a ha b hb => ?_⟩
      · obtain ⟨j, hj, rfl⟩ := List.getElem_of_mem hy
        rw [List.length_drop] at hj
        rw [List.getElem_drop]
        exact h1 _ (by omega) (by omega)
      · rcases List.mem_cons.mp hb with rfl | hb
        · exact hlow a ha
        · obtain ⟨j, hj, rfl⟩ := List.getElem_of_mem hb
          rw [List.length_drop] at hj
          rw [List.getElem_drop]
          exact ktrans K (hlow a ha) (h1 _ (by omega) (by omega))
    · have e : a ∈ out ↔ a ∈ out.take p ∨ a ∈ out.drop p := by rw [← List.mem_append, List.take_append_drop]
      rw [insK_mem, List.mem_append, List.mem_cons, e]
      constructor
      · rintro (h | h | h)
        · exact Or.inr (Or.inl h)
        · exact Or.inl h
        · exact Or.inr (Or.inr h)
      · rintro (h | h | h)
        · exact Or.inr (Or.inl h)
        · exact Or.inl h
        · exact Or.inr (Or.inr h)

theorem setK_snoc (l : List α) (x : α) : setK K (l ++ [x]) = insK K x (setK K l) := by
  unfold setK
  rw [List.foldl_append]
  rfl

theorem compS_snoc (l : List α) (a : α) : compS (l ++ [a]) = if l.getLast? = some a then compS l else compS l ++ [a] := by
  induction l with
  | nil => rfl
  | cons b l ih =>
    cases l with
    | nil =>
      show compS [b, a] = _
      rw [compS_two]
      by_cases e : b = a
      · rw [if_pos e, if_pos (by simp [e]), e]
      · rw [if_neg e, if_neg (by simp [e])]
        rfl
    | cons c l =>
      have e : b :: c :: l ++ [a] = b :: c :: (l ++ [a]) := rfl
      rw [e, compS_two, compS_two, show c :: (l ++ [a]) = c :: l ++ [a] from rfl, ih, List.getLast?_cons_cons]
      by_cases h1 : b = c
      · rw [if_pos h1, if_pos h1]
      · rw [if_neg h1, if_neg h1]
        by_cases h2 : (c :: l).getLast? = some a
        · rw [if_pos h2, if_pos h2]
        · rw [if_neg h2, if_neg h2]
          rfl

theorem compS_len (l : List α) : (compS l).length ≤ l.length := by
  induction l using snoc_ind with
  | h0 => exact Nat.le_refl _
  | h1 l x ih =>
    rw [compS_snoc]
    split
    · rw [List.length_append]; omega
    · rw [List.length_append, List.length_append]; omega

/-- Behind one more element. -/
theorem comp_take {l : List α} {i : Nat} (h : i + 1 < l.length) : compS (l.take (i + 2)) = if l[i] = l[i + 1] then compS (l.take (i + 1)) else compS (l.take (i + 1)) ++ [l[i + 1]] := by
  rw [List.take_succ_eq_append_getElem h, compS_snoc]
  have e : (l.take (i + 1)).getLast? = some l[i] := by
    rw [List.take_succ_eq_append_getElem (by omega), List.getLast?_append]
    rfl
  rw [e]
  by_cases hh : l[i] = l[i + 1]
  · rw [if_pos hh, if_pos (by rw [hh])]
  · rw [if_neg hh, if_neg (fun e => hh (Option.some.inj e))]

/-- As long as no neighbours are equal, all stay. -/
theorem comp_all {l : List α} {i : Nat} (h : ∀ j (hj : j + 1 < l.length), j + 1 < i → l[j] ≠ l[j + 1]) : compS (l.take i) = l.take i := by
  induction i with
  | zero => rfl
  | succ i ih =>
    have ih := ih fun j hj hji => h j hj (by omega)
    cases i with
    | zero => cases l <;> rfl
    | succ i =>
      by_cases hl : i + 1 < l.length
      · rw [comp_take hl, if_neg (h i hl (by omega)), ih, ← List.take_succ_eq_append_getElem hl]
      · rw [List.take_of_length_le (by omega)] at ih ⊢
        exact ih
end
end Go.Proofs.Ytpmoelkblngamaa
