/- merge: revoked titles; what is inside behind one more scan: plain. -/
import Derived.Test.YtpmoelkblngamaaM5
namespace Go.Proofs.Ytpmoelkblngamaa

/-- A scan that is admitted too late. -/
def lateB (gone : List GoneT) (st : Int) (s : Scn) : Bool := decide (s.kind = 1) && decide (1 ≤ sinceS gone s.serial) && decide (sinceS gone s.serial ≤ 1000000000) && decide (sinceS gone s.serial + st < s.time)

theorem late_iff {gone : List GoneT} {st : Int} {s : Scn} : lateB gone st s = true ↔ s.kind = 1 ∧ 1 ≤ sinceS gone s.serial ∧ sinceS gone s.serial ≤ 1000000000 ∧ sinceS gone s.serial + st < s.time := by
  unfold lateB
  simp only [Bool.and_eq_true, decide_eq_true_eq]
  exact ⟨fun ⟨⟨⟨a, b⟩, c⟩, d⟩ => ⟨a, b, c, d⟩, fun ⟨a, b, c, d⟩ => ⟨⟨⟨a, b⟩, c⟩, d⟩⟩

theorem gate_kind {l : List Scn} {b : Blm} (h : GateBl l b) : b.kind = 2 ∨ b.kind = 3 := by
  rcases h with ⟨_, _, _, _, _, rfl⟩ | ⟨_, _, _, _, _, _, _, rfl⟩ | ⟨_, _, _, _, _, _, _, _, rfl⟩
  · exact Or.inl rfl
  · exact Or.inr rfl
  · exact Or.inr rfl

/-- The blames for late admissions. -/
theorem stale_bl {gone : List GoneT} {st : Int} {Y : List Scn} {b : Blm} : (IsBl gone st Y b ∧ b.kind = 4) ↔ ∃ s ∈ Y, lateB gone st s = true ∧ b = staleB s (sinceS gone s.serial) := by
  constructor
  · rintro ⟨⟨g, hb⟩ | ⟨k, hb⟩, h4⟩
    · have := gate_kind hb; omega
    · rcases hb with ⟨s, hs, h1, h2, h3, h5, rfl⟩ | ⟨_, _, _, _, _, _, _, _, rfl⟩ | ⟨_, _, _, _, _, _, _, _, _, rfl⟩
      · exact ⟨s, (way_mem.mp hs).1, late_iff.mpr ⟨h1, h2, h3, h5⟩, rfl⟩
      · exact absurd h4 (by show ¬ (1 : Int) = 4; omega)
      · exact absurd h4 (by show ¬ (2 : Int) = 4; omega)
  · rintro ⟨s, hs, hl, rfl⟩
    obtain ⟨h1, h2, h3, h5⟩ := late_iff.mp hl
    exact ⟨Or.inr ⟨s.serial, Or.inl ⟨s, way_mem.mpr ⟨hs, way_kind (Or.inl h1), rfl⟩, h1, h2, h3, h5, rfl⟩⟩, rfl⟩

/-- There are not more such blames than such admissions. -/
theorem stale_count {gone : List GoneT} {st : Int} {l : List Scn} {B : List Blm} (hB : IsSet KB B (IsBl gone st (setK KS l))) : (B.filter fun b => decide (b.kind = 4)).length ≤ (l.filter (lateB gone st)).length := by
  have hnd : (B.filter fun b => decide (b.kind = 4)).Nodup := List.Pairwise.sublist List.filter_sublist (strict_nodup KB hB.1)
  have hsub : ∀ b ∈ B.filter (fun b => decide (b.kind = 4)), b ∈ (l.filter (lateB gone st)).map fun s => staleB s (sinceS gone s.serial) := by
    intro b hb
    obtain ⟨hb, h4⟩ := List.mem_filter.mp hb
    obtain ⟨s, hs, hl, rfl⟩ := stale_bl.mp ⟨(hB.2 b).mp hb, by simpa using h4⟩
    rw [setK_mem] at hs
    exact List.mem_map.mpr ⟨s, List.mem_filter.mpr ⟨hs, hl⟩, rfl⟩
  have := List.Nodup.length_le_of_subset hnd hsub
  rwa [List.length_map] at this

/-- A scan behind all others. -/
theorem set_behind {l : List Scn} {x : Scn} (h : ∀ s ∈ l, KLt KS s x) : setK KS (l ++ [x]) = setK KS l ++ [x] := by
  refine (setK_eq KS (List.pairwise_append.mpr ⟨setK_strict KS l, List.pairwise_singleton _ _, fun a ha b hb => ?_⟩) fun a => ?_).symm
  · rw [List.mem_singleton.mp hb]
    exact h a ((setK_mem KS l a).mp ha)
  · rw [List.mem_append, List.mem_append, setK_mem]

theorem in_other {Y : List Scn} {x : Scn} {k : Int} (h : k ≠ x.serial) : IsIn (Y ++ [x]) k ↔ IsIn Y k := by
  unfold IsIn
  rw [way_snoc, if_neg (fun e => h e.2.symm), List.append_nil]

theorem in_in {Y : List Scn} {x : Scn} (h : x.kind = 1) : IsIn (Y ++ [x]) x.serial := by
  refine ⟨x, ?_, h⟩
  rw [way_snoc, if_pos ⟨way_kind (Or.inl h), rfl⟩, List.getLast?_append]
  rfl

theorem in_out {Y : List Scn} {x : Scn} (h : x.kind = 2) : ¬ IsIn (Y ++ [x]) x.serial := by
  rintro ⟨s, e, hs⟩
  rw [way_snoc, if_pos ⟨way_kind (Or.inr h), rfl⟩, List.getLast?_append] at e
  have e : some x = some s := e
  rw [← Option.some.inj e] at hs
  omega

theorem in_same {Y : List Scn} {x : Scn} (h1 : x.kind ≠ 1) (h2 : x.kind ≠ 2) (k : Int) : IsIn (Y ++ [x]) k ↔ IsIn Y k := by
  unfold IsIn
  have hw : wayB x = false := by unfold wayB; simp [h1, h2]
  rw [way_snoc, if_neg (fun e => by rw [hw] at e; exact absurd e.1 (by simp)), List.append_nil]

/-- What Blames and Inside say is that of the scans' set. -/
theorem bl_of_set {gone : List GoneT} {st : Int} {l m : List Scn} (h : ∀ a, a ∈ l ↔ a ∈ m) (b : Blm) : IsBl gone st (setK KS l) b ↔ IsBl gone st (setK KS m) b := by rw [setK_congr KS h]
theorem in_of_set {l m : List Scn} (h : ∀ a, a ∈ l ↔ a ∈ m) (k : Int) : IsIn (setK KS l) k ↔ IsIn (setK KS m) k := by rw [setK_congr KS h]
theorem set_again (l : List Scn) : setK KS (setK KS l) = setK KS l := setK_self (setK_strict KS l)
end Go.Proofs.Ytpmoelkblngamaa
