/- merge: what the way of a title adds to the blames, step by step: plain. -/
import Derived.Test.YtpmoelkblngamaaG0
namespace Go.Proofs.Ytpmoelkblngamaa

def scAt (l : List Scn) (j : Nat) : Scn := l.getD j default

theorem scAt_get {l : List Scn} {j : Nat} (h : j < l.length) : scAt l j = l[j] := by
  unfold scAt
  rw [List.getD_eq_getElem?_getD, List.getElem?_eq_getElem h]
  rfl

/-- What a scan and the one ahead of it are blamed for. -/
def pairB (s t : Scn) : List Blm := if t.kind = 1 then (if t.gate = s.gate then (if t.number = s.number then [] else [fork2B s t]) else [copyB s t]) else []

def wayStep (gone : List GoneT) (st : Int) (l : List Scn) (j : Nat) : List Blm :=
  if (scAt l j).kind = 1 then (if lateB gone st (scAt l j) then [staleB (scAt l j) (sinceS gone (scAt l j).serial)] else []) ++ (if j = 0 then [] else pairB (scAt l j) (scAt l (j - 1))) else []

def wayF (gone : List GoneT) (st : Int) (l : List Scn) (i : Nat) : List Blm := (List.range i).flatMap (wayStep gone st l)

theorem way_next (gone : List GoneT) (st : Int) (l : List Scn) (i : Nat) : wayF gone st l (i + 1) = wayF gone st l i ++ wayStep gone st l i := by
  unfold wayF
  rw [List.range_succ, List.flatMap_append, List.flatMap_singleton]

theorem pair_mem {s t : Scn} {b : Blm} : b ∈ pairB s t ↔ t.kind = 1 ∧ ((t.gate ≠ s.gate ∧ b = copyB s t) ∨ (t.gate = s.gate ∧ t.number ≠ s.number ∧ b = fork2B s t)) := by
  unfold pairB
  by_cases h1 : t.kind = 1
  · rw [if_pos h1]
    by_cases h2 : t.gate = s.gate
    · rw [if_pos h2]
      by_cases h3 : t.number = s.number
      · rw [if_pos h3]; simp [h2, h3]
      · rw [if_neg h3]; simp [h1, h2, h3]
    · rw [if_neg h2]; simp [h1, h2]
  · rw [if_neg h1]; simp [h1]

theorem step_mem {gone : List GoneT} {st : Int} {l : List Scn} {j : Nat} {b : Blm} : b ∈ wayStep gone st l j ↔ (scAt l j).kind = 1 ∧ ((lateB gone st (scAt l j) = true ∧ b = staleB (scAt l j) (sinceS gone (scAt l j).serial)) ∨ (j ≠ 0 ∧ b ∈ pairB (scAt l j) (scAt l (j - 1)))) := by
  unfold wayStep
  by_cases h1 : (scAt l j).kind = 1
  · rw [if_pos h1, List.mem_append]
    refine Iff.trans (or_congr ?_ ?_) (Iff.symm (and_iff_right h1))
    · by_cases h2 : lateB gone st (scAt l j) = true
      · rw [if_pos h2]; simp [h2]
      · rw [if_neg h2]; simp [h2]
    · by_cases h2 : j = 0
      · rw [if_pos h2]; simp [h2]
      · rw [if_neg h2]; simp [h2]
  · rw [if_neg h1]; simp [h1]

theorem wayF_mem {gone : List GoneT} {st : Int} {l : List Scn} (b : Blm) : b ∈ wayF gone st l l.length ↔ WayBl gone st l b := by
  have hsplit : ∀ j (h : j + 1 < l.length), l = l.take j ++ l[j] :: l[j + 1] :: l.drop (j + 2) := fun j h => by
    rw [← List.drop_eq_getElem_cons h, ← List.drop_eq_getElem_cons (by omega), List.take_append_drop]
  unfold wayF WayBl
  rw [List.mem_flatMap]
  constructor
  · rintro ⟨j, hj, hb⟩
    rw [List.mem_range] at hj
    obtain ⟨h1, hb⟩ := step_mem.mp hb
    rw [scAt_get hj] at h1 hb
    rcases hb with ⟨hl, rfl⟩ | ⟨h0, hb⟩
    · obtain ⟨_, a, b, c⟩ := late_iff.mp hl
      exact Or.inl ⟨l[j], List.getElem_mem hj, h1, a, b, c, rfl⟩
    · obtain ⟨i, rfl⟩ : ∃ i, j = i + 1 := ⟨j - 1, by omega⟩
      rw [show i + 1 - 1 = i from rfl, scAt_get (show i < l.length by omega)] at hb
      obtain ⟨hk, hb⟩ := pair_mem.mp hb
      rcases hb with ⟨a, rfl⟩ | ⟨a, c, rfl⟩
      · exact Or.inr (Or.inl ⟨_, _, _, _, hsplit i hj, h1, hk, a, rfl⟩)
      · exact Or.inr (Or.inr ⟨_, _, _, _, hsplit i hj, h1, hk, a, c, rfl⟩)
  · have hpair : ∀ pre t s post, l = pre ++ t :: s :: post → s.kind = 1 → b ∈ pairB s t → ∃ a, a ∈ List.range l.length ∧ b ∈ wayStep gone st l a := by
      intro pre t s post e hs hb
      have hl : l.length = pre.length + (post.length + 1 + 1) := by rw [e]; simp
      have e1 : scAt l (pre.length + 1) = s := by rw [scAt_get (by omega)]; simp [e]
      have e2 : scAt l pre.length = t := by rw [scAt_get (by omega)]; simp [e]
      refine ⟨pre.length + 1, List.mem_range.mpr (by omega), step_mem.mpr ⟨by rw [e1]; exact hs, Or.inr ⟨by omega, ?_⟩⟩⟩
      rw [e1, show pre.length + 1 - 1 = pre.length from rfl, e2]
      exact hb
    rintro (⟨s, hs, h1, h2, h3, h4, rfl⟩ | ⟨pre, t, s, post, e, hs, ht, hg, rfl⟩ | ⟨pre, t, s, post, e, hs, ht, hg, hn, rfl⟩)
    · obtain ⟨j, hj, rfl⟩ := List.getElem_of_mem hs
      refine ⟨j, List.mem_range.mpr hj, step_mem.mpr ?_⟩
      rw [scAt_get hj]
      exact ⟨h1, Or.inl ⟨late_iff.mpr ⟨h1, h2, h3, h4⟩, rfl⟩⟩
    · exact hpair pre t s post e hs (pair_mem.mpr ⟨ht, Or.inl ⟨hg, rfl⟩⟩)
    · exact hpair pre t s post e hs (pair_mem.mpr ⟨ht, Or.inr ⟨hg, hn, rfl⟩⟩)
end Go.Proofs.Ytpmoelkblngamaa
