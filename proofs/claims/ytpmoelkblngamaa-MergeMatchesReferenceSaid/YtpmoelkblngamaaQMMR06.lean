/- merge: revoked titles; what is inside behind one more scan: plain; merge: elements that go to their places; equal neighbours once, step by step: plain. -/
import Derived.Test.YtpmoelkblngamaaQMMR05

namespace Go.Proofs.Ytpmoelkblngamaa

/-- A scan that is admitted too late. -/
def lateB (gone : List GoneT) (st : Int) (s : Scn) : Bool := decide (s.kind = 1) && decide (1 ≤ sinceS gone s.serial) && decide (sinceS gone s.serial ≤ 1000000000) && decide (sinceS gone s.serial + st < s.time)

theorem late_iff {gone : List GoneT} {st : Int} {s : Scn} : lateB gone st s = true ↔ s.kind = 1 ∧ 1 ≤ sinceS gone s.serial ∧ sinceS gone s.serial ≤ 1000000000 ∧ sinceS gone s.serial + st < s.time := by
  unfold lateB
  simp only [Bool.and_eq_true, decide_eq_true_eq]
  exact ⟨fun ⟨⟨⟨a, b⟩, c⟩, d⟩ => ⟨a, b, c, d⟩, fun ⟨a, b, c, d⟩ => ⟨⟨⟨a, b⟩, c⟩, d⟩⟩

theorem gate_kind {l : List Scn} {b : Blm} (h : GateBl l b) : b.kind = 2 ∨ b.kind = 3 := by
  rcases h with ⟨_, _, _, _, _, rfl⟩ | ⟨_, _, _, _, _, _, _, rfl⟩ | ⟨_, _, _, _, _, _, _, _, rfl⟩
  · exact Or.inl rfl
  · exact Or.inr rfl
  · exact Or.inr rfl

/-- The blames for late admissions. -/
theorem stale_bl {gone : List GoneT} {st : Int} {Y : List Scn} {b : Blm} : (IsBl gone st Y b ∧ b.kind = 4) ↔ ∃ s ∈ Y, lateB gone st s = true ∧ b = staleB s (sinceS gone s.serial) := by
  constructor
  · rintro ⟨⟨g, hb⟩ | ⟨k, hb⟩, h4⟩
    · have := gate_kind hb; omega
    · rcases hb with ⟨s, hs, h1, h2, h3, h5, rfl⟩ | ⟨_, _, _, _, _, _, _, _, rfl⟩ | ⟨_, _, _, _, _, _, _, _, _, rfl⟩
      · exact ⟨s, (way_mem.mp hs).1, late_iff.mpr ⟨h1, h2, h3, h5⟩, rfl⟩
      · exact absurd h4 (by show ¬ (1 : Int) = 4; omega)
      · exact absurd h4 (by show ¬ (2 : Int) = 4; omega)
  · rintro ⟨s, hs, hl, rfl⟩
    obtain ⟨h1, h2, h3, h5⟩ := late_iff.mp hl
    exact ⟨Or.inr ⟨s.serial, Or.inl ⟨s, way_mem.mpr ⟨hs, way_kind (Or.inl h1), rfl⟩, h1, h2, h3, h5, rfl⟩⟩, rfl⟩

/-- There are not more such blames than such admissions. -/
theorem stale_count {gone : List GoneT} {st : Int} {l : List Scn} {B : List Blm} (hB : IsSet KB B (IsBl gone st (setK KS l))) : (B.filter fun b => decide (b.kind = 4)).length ≤ (l.filter (lateB gone st)).length := by
  have hnd : (B.filter fun b => decide (b.kind = 4)).Nodup := List.Pairwise.sublist List.filter_sublist (strict_nodup KB hB.1)
  have hsub : ∀ b ∈ B.filter (fun b => decide (b.kind = 4)), b ∈ (l.filter (lateB gone st)).map fun s => staleB s (sinceS gone s.serial) := by
    intro b hb
    obtain ⟨hb, h4⟩ := List.mem_filter.mp hb
    obtain ⟨s, hs, hl, rfl⟩ := stale_bl.mp ⟨(hB.2 b).mp hb, by simpa using h4⟩
    rw [setK_mem] at hs
    exact List.mem_map.mpr ⟨s, List.mem_filter.mpr ⟨hs, hl⟩, rfl⟩
  have := List.Nodup.length_le_of_subset hnd hsub
  rwa [List.length_map] at this

/-- A scan behind all others. -/
theorem set_behind {l : List Scn} {x : Scn} (h : ∀ s ∈ l, KLt KS s x) : setK KS (l ++ [x]) = setK KS l ++ [x] := by
  refine (setK_eq KS (List.pairwise_append.mpr ⟨setK_strict KS l, List.pairwise_singleton _ _, fun a ha b hb => ?_⟩) fun a => ?_).symm
  · rw [List.mem_singleton.mp hb]
    exact h a ((setK_mem KS l a).mp ha)
  · rw [List.mem_append, List.mem_append, setK_mem]

theorem in_other {Y : List Scn} {x : Scn} {k : Int} (h : k ≠ x.serial) : IsIn (Y ++ [x]) k ↔ IsIn Y k := by
  unfold IsIn
  rw [way_snoc, if_neg (fun e => h e.2.symm), List.append_nil]

theorem in_in {Y : List Scn} {x : Scn} (h : x.kind = 1) : IsIn (Y ++ [x]) x.serial := by
  refine ⟨x, ?_, h⟩
  rw [way_snoc, if_pos ⟨way_kind (Or.inl h), rfl⟩, List.getLast?_append]
  rfl

theorem in_out {Y : List Scn} {x : Scn} (h : x.kind = 2) : ¬ IsIn (Y ++ [x]) x.serial := by
  rintro ⟨s, e, hs⟩
  rw [way_snoc, if_pos ⟨way_kind (Or.inr h), rfl⟩, List.getLast?_append] at e
  have e : some x = some s := e
  rw [← Option.some.inj e] at hs
  omega

theorem in_same {Y : List Scn} {x : Scn} (h1 : x.kind ≠ 1) (h2 : x.kind ≠ 2) (k : Int) : IsIn (Y ++ [x]) k ↔ IsIn Y k := by
  unfold IsIn
  have hw : wayB x = false := by unfold wayB; simp [h1, h2]
  rw [way_snoc, if_neg (fun e => by rw [hw] at e; exact absurd e.1 (by simp)), List.append_nil]

/-- What Blames and Inside say is that of the scans' set. -/
theorem bl_of_set {gone : List GoneT} {st : Int} {l m : List Scn} (h : ∀ a, a ∈ l ↔ a ∈ m) (b : Blm) : IsBl gone st (setK KS l) b ↔ IsBl gone st (setK KS m) b := by rw [setK_congr KS h]
theorem in_of_set {l m : List Scn} (h : ∀ a, a ∈ l ↔ a ∈ m) (k : Int) : IsIn (setK KS l) k ↔ IsIn (setK KS m) k := by rw [setK_congr KS h]
theorem set_again (l : List Scn) : setK KS (setK KS l) = setK KS l := setK_self (setK_strict KS l)
end Go.Proofs.Ytpmoelkblngamaa

namespace Go.Proofs.Ytpmoelkblngamaa

section
variable {α : Type} (K : KeyOf α) [DecidableEq α]

/-- The place of a new element, looked for from the end. -/
theorem insK_at {out : List α} (h : Strict K out) {x : α} {p : Nat} (hp : p ≤ out.length) (h1 : ∀ j (hj : j < out.length), p ≤ j → KLt K x out[j]) (h2 : ∀ q, q + 1 = p → ∃ y, out[q]? = some y ∧ ¬ KLt K x y) :
    (∀ q, q + 1 = p → out[q]? = some x → insK K x out = out) ∧ ((∀ q, q + 1 = p → out[q]? ≠ some x) → insK K x out = out.take p ++ x :: out.drop p) := by
  constructor
  · intro q _ hx
    have hm : x ∈ out := List.mem_of_getElem? hx
    refine strict_ext K (insK_strict K x h) h fun a => ?_
    rw [insK_mem]
    exact ⟨fun e => e.elim (fun e => by rw [e]; exact hm) id, Or.inr⟩
  · intro hne
    have hlow : ∀ y ∈ out.take p, KLt K y x := by
      intro y hy
      obtain ⟨j, hj, rfl⟩ := List.getElem_of_mem hy
      rw [List.length_take] at hj
      rw [List.getElem_take]
      obtain ⟨z, hz, hnz⟩ := h2 (p - 1) (by omega)
      have hzx : z ≠ x := fun e => hne (p - 1) (by omega) (by rw [hz, e])
      have hzlt : KLt K z x := by
        rcases ktri K z x with h | h | h
        · exact h
        · exact absurd h hzx
        · exact absurd h hnz
      obtain ⟨hpl, rfl⟩ := List.getElem?_eq_some_iff.mp hz
      by_cases e : j = p - 1
      · subst e; exact hzlt
      · exact ktrans K (List.pairwise_iff_getElem.mp h j (p - 1) (by omega) hpl (by omega)) hzlt
    refine strict_ext K (insK_strict K x h) ?_ fun a => ?_
    · refine List.pairwise_append.mpr ⟨List.Pairwise.sublist (List.take_sublist _ _) h, List.pairwise_cons.mpr ⟨fun y hy => ?_, List.Pairwise.sublist (List.drop_sublist _ _) h⟩, fun a ha b hb => ?_⟩
      · obtain ⟨j, hj, rfl⟩ := List.getElem_of_mem hy
        rw [List.length_drop] at hj
        rw [List.getElem_drop]
        exact h1 _ (by omega) (by omega)
      · rcases List.mem_cons.mp hb with rfl | hb
        · exact hlow a ha
        · obtain ⟨j, hj, rfl⟩ := List.getElem_of_mem hb
          rw [List.length_drop] at hj
          rw [List.getElem_drop]
          exact ktrans K (hlow a ha) (h1 _ (by omega) (by omega))
    · have e : a ∈ out ↔ a ∈ out.take p ∨ a ∈ out.drop p := by rw [← List.mem_append, List.take_append_drop]
      rw [insK_mem, List.mem_append, List.mem_cons, e]
      constructor
      · rintro (h | h | h)
        · exact Or.inr (Or.inl h)
        · exact Or.inl h
        · exact Or.inr (Or.inr h)
      · rintro (h | h | h)
        · exact Or.inr (Or.inl h)
        · exact Or.inl h
        · exact Or.inr (Or.inr h)

theorem setK_snoc (l : List α) (x : α) : setK K (l ++ [x]) = insK K x (setK K l) := by
  unfold setK
  rw [List.foldl_append]
  rfl

theorem compS_snoc (l : List α) (a : α) : compS (l ++ [a]) = if l.getLast? = some a then compS l else compS l ++ [a] := by
  induction l with
  | nil => rfl
  | cons b l ih =>
    cases l with
    | nil =>
      show compS [b, a] = _
      rw [compS_two]
      by_cases e : b = a
      · rw [if_pos e, if_pos (by simp [e]), e]
      · rw [if_neg e, if_neg (by simp [e])]
        rfl
    | cons c l =>
      have e : b :: c :: l ++ [a] = b :: c :: (l ++ [a]) := rfl
      rw [e, compS_two, compS_two, show c :: (l ++ [a]) = c :: l ++ [a] from rfl, ih, List.getLast?_cons_cons]
      by_cases h1 : b = c
      · rw [if_pos h1, if_pos h1]
      · rw [if_neg h1, if_neg h1]
        by_cases h2 : (c :: l).getLast? = some a
        · rw [if_pos h2, if_pos h2]
        · rw [if_neg h2, if_neg h2]
          rfl

theorem compS_len (l : List α) : (compS l).length ≤ l.length := by
  induction l using snoc_ind with
  | h0 => exact Nat.le_refl _
  | h1 l x ih =>
    rw [compS_snoc]
    split
    · rw [List.length_append]; omega
    · rw [List.length_append, List.length_append]; omega

/-- Behind one more element. -/
theorem comp_take {l : List α} {i : Nat} (h : i + 1 < l.length) : compS (l.take (i + 2)) = if l[i] = l[i + 1] then compS (l.take (i + 1)) else compS (l.take (i + 1)) ++ [l[i + 1]] := by
  rw [List.take_succ_eq_append_getElem h, compS_snoc]
  have e : (l.take (i + 1)).getLast? = some l[i] := by
    rw [List.take_succ_eq_append_getElem (by omega), List.getLast?_append]
    rfl
  rw [e]
  by_cases hh : l[i] = l[i + 1]
  · rw [if_pos hh, if_pos (by rw [hh])]
  · rw [if_neg hh, if_neg (fun e => hh (Option.some.inj e))]

/-- As long as no neighbours are equal, all stay. -/
theorem comp_all {l : List α} {i : Nat} (h : ∀ j (hj : j + 1 < l.length), j + 1 < i → l[j] ≠ l[j + 1]) : compS (l.take i) = l.take i := by
  induction i with
  | zero => rfl
  | succ i ih =>
    have ih := ih fun j hj hji => h j hj (by omega)
    cases i with
    | zero => cases l <;> rfl
    | succ i =>
      by_cases hl : i + 1 < l.length
      · rw [comp_take hl, if_neg (h i hl (by omega)), ih, ← List.take_succ_eq_append_getElem hl]
      · rw [List.take_of_length_le (by omega)] at ih ⊢
        exact ih
end
end Go.Proofs.Ytpmoelkblngamaa
