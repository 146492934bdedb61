/- refund, plain: the places of a part; the whole sum, nothing. -/
import Derived.Test.YtgpmhaeiccljaaaDoorRK0
namespace Go.Proofs.YtgpmhaeiccljaaaDoor

theorem some_append : ∀ (A : List Name) (C : List Int) (B : List Name) (D : List Int), A.length = C.length → somePos (A ++ B) (C ++ D) = somePos A C ++ somePos B D
  | [], [], B, D, _ => rfl
  | [], _ :: _, _, _, h => by simp at h
  | _ :: _, [], _, _, h => by simp at h
  | n :: A, p :: C, B, D, h => by
    have ih := some_append A C B D (by simpa using h)
    rw [List.cons_append, List.cons_append, somePos, somePos, ih]
    split
    · rw [List.cons_append]
    · rfl

/-- The part, cut at i. -/
theorem out_cut {l : List MeanT} {ps : List Int} {i : Nat} (h : i < l.length) (hp : ps.length = l.length) :
    outS l ps l.length = outS l ps i ++ ((if 0 < ix ps i then [(nm l i, ix ps i)] else []) ++ somePos ((l.map (·.1)).drop (i + 1)) (ps.drop (i + 1))) := by
  rw [← List.append_assoc, ← out_next h hp, out_all hp]
  unfold outS
  rw [← some_append _ _ _ _ (by simp; omega), List.take_append_drop, List.take_append_drop]

theorem drop_names {l : List MeanT} {ps : List Int} {i : Nat} {m : MeanT} (h : m ∈ somePos ((l.map (·.1)).drop (i + 1)) (ps.drop (i + 1))) : ∃ j, i < j ∧ j < l.length ∧ m.1 = nm l j := by
  obtain ⟨q, h1, h2, e, _⟩ := some_mem _ _ m h
  rw [List.length_drop, List.length_map] at h1
  refine ⟨i + 1 + q, by omega, by omega, ?_⟩
  rw [e, nm_eq _ _ (by omega)]
  simp

/-- Where the i-th part is more than nothing, it is the next of the list. -/
theorem out_yes {l : List MeanT} {ps : List Int} {i : Nat} (h : i < l.length) (hp : ps.length = l.length) (h0 : 0 < ix ps i) :
    (outS l ps i).length < (outS l ps l.length).length ∧ nm (outS l ps l.length) (outS l ps i).length = nm l i ∧ am (outS l ps l.length) (outS l ps i).length = ix ps i := by
  have hc := out_cut h hp
  rw [if_pos h0] at hc
  have hl : (outS l ps i).length < (outS l ps l.length).length := by rw [hc]; simp
  have hg : (outS l ps l.length)[(outS l ps i).length]? = some (nm l i, ix ps i) := by rw [hc, List.getElem?_append_right (Nat.le_refl _), Nat.sub_self]; rfl
  have hg2 : (outS l ps l.length)[(outS l ps i).length] = (nm l i, ix ps i) := by
    rw [List.getElem?_eq_getElem hl] at hg
    exact Option.some.inj hg
  exact ⟨hl, by rw [nm_eq _ _ hl, hg2], by rw [am_eq _ _ hl, hg2]⟩

/-- Where it is nothing, the next of the list has another name. -/
theorem out_no {l : List MeanT} {ps : List Int} {i : Nat} (hd : Diff l) (h : i < l.length) (hp : ps.length = l.length) (h0 : ¬ 0 < ix ps i) (hl : (outS l ps i).length < (outS l ps l.length).length) :
    nm (outS l ps l.length) (outS l ps i).length ≠ nm l i := by
  have hc := out_cut h hp
  rw [if_neg h0, List.nil_append] at hc
  intro e
  have hg : (outS l ps l.length)[(outS l ps i).length] ∈ somePos ((l.map (·.1)).drop (i + 1)) (ps.drop (i + 1)) := by
    apply List.mem_of_getElem? (i := 0)
    rw [← List.getElem?_eq_getElem hl]
    conv => rhs; rw [hc]
    rw [List.getElem?_append_right (Nat.le_refl _), Nat.sub_self]
  obtain ⟨j, h1, h2, h3⟩ := drop_names hg
  rw [nm_eq _ _ hl, h3] at e
  have := diff_inj hd h2 h e
  omega

theorem rspl_cases (l : List MeanT) (a : Int) : rsplS l a = ([], 1) ∨ rsplS l a = ([], 19) ∨ (RightP l ∧ 0 ≤ a ∧ a ≤ totS l ∧ l ≠ [] ∧ rsplS l a = (partList l a, 0)) := by
  cases hr : rightB l
  · left; unfold rsplS; rw [hr]; rfl
  · have hR := right_iff.mp hr
    have e : rsplS l a = mpartS l a := by unfold rsplS; rw [hr]; rfl
    by_cases h0 : a < 0
    · left; rw [e, part_neg h0]
    · by_cases h1 : totS l < a
      · right; left; rw [e, part_big (by omega) h1]
      · right; right
        have hne : l ≠ [] := by intro e; have := hR.len1; rw [e] at this; simp at this
        exact ⟨hR, by omega, by omega, hne, by rw [e]; unfold mpartS; rw [if_neg (by omega), if_neg (by omega), if_neg hne]⟩

theorem rspl_ok {l : List MeanT} {a : Int} (hR : RightP l) (h0 : 0 ≤ a) (h1 : a ≤ totS l) : rsplS l a = (partList l a, 0) := by
  have hne : l ≠ [] := by intro e; have := hR.len1; rw [e] at this; simp at this
  unfold rsplS
  rw [right_true hR, if_pos rfl]
  unfold mpartS
  rw [if_neg (by omega), if_neg (by omega), if_neg hne]

theorem some_all : ∀ (l : List MeanT), (∀ m ∈ l, 0 < m.2) → somePos (l.map (·.1)) (wts l) = l
  | [], _ => rfl
  | m :: l, h => by
    have ih := some_all l (fun x hx => h x (by simp [hx]))
    have hm := h m (by simp)
    unfold wts at ih ⊢
    rw [List.map_cons, List.map_cons, somePos, if_pos hm, ih]

theorem some_none : ∀ (ns : List Name) (ps : List Int), (∀ p ∈ ps, ¬ 0 < p) → somePos ns ps = []
  | [], ps, _ => by cases ps <;> rfl
  | _ :: _, [], _ => rfl
  | n :: ns, p :: ps, h => by rw [somePos, if_neg (h p (by simp)), some_none ns ps (fun q hq => h q (by simp [hq]))]

/-- The whole sum has all of them. -/
theorem part_whole {l : List MeanT} (h : Good l) (hne : l ≠ []) : partList l (totS l) = l := by
  have hs := h.sum
  have e : splitS (totS l) (wts l) = wts l := by
    refine list_ext_ix (by rw [splitS_length]) fun i hi => ?_
    rw [splitS_length, wts_len] at hi
    have hn := (part_ok h hs.1 (Int.le_refl _) hne i hi).near
    rw [wts_at l i hi]
    generalize ix (splitS (totS l) (wts l)) i = p at *
    generalize am l i = v at *
    generalize totS l = T at *
    have h3 : p * T - T * v = (p - v) * T := by rw [Int.sub_mul, Int.mul_comm v]
    rw [h3] at hn
    have hT : 0 < T := by omega
    rcases Int.lt_trichotomy p v with hlt | he | hgt
    · have : (p - v) * T ≤ (-1) * T := Int.mul_le_mul_of_nonneg_right (by omega) (by omega)
      omega
    · exact he
    · have : 1 * T ≤ (p - v) * T := Int.mul_le_mul_of_nonneg_right (by omega) (by omega)
      omega
  unfold partList
  rw [e, some_all l (fun m hm => by
    obtain ⟨i, hi, rfl⟩ := List.getElem_of_mem hm
    have := h.pos i hi
    rw [am_eq _ _ hi] at this
    omega)]

/-- Nothing has none. -/
theorem part_nothing {l : List MeanT} (h : Good l) (hne : l ≠ []) : partList l 0 = [] := by
  unfold partList
  refine some_none _ _ fun p hp => ?_
  obtain ⟨i, hi, rfl⟩ := List.getElem_of_mem hp
  have hi' : i < l.length := by rwa [splitS_length, wts_len] at hi
  have hn := (part_ok h (Int.le_refl _) h.sum.1 hne i hi').near
  rw [ix_eq _ _ hi, Int.zero_mul, Int.sub_zero] at hn
  intro hp0
  have : 1 * totS l ≤ (splitS 0 (wts l))[i] * totS l := Int.mul_le_mul_of_nonneg_right (by omega) h.sum.1
  omega
end Go.Proofs.YtgpmhaeiccljaaaDoor
