/- merge: foyerref38.Blames: what it adds, by places: plain. -/
import Derived.Test.YtpmoelkblngamaaQMMR10
import Derived.Test.YtpmoelkblngamaaQMMR36
import Derived.Test.YtpmoelkblngamaaQMMR40

namespace Go.Proofs.Ytpmoelkblngamaa

theorem insK_len {α : Type} [DecidableEq α] {K : KeyOf α} {l : List α} (h : Strict K l) (x : α) : (insK K x l).length ≤ l.length + 1 := by
  have := List.Nodup.length_le_of_subset (strict_nodup K (insK_strict K x h)) (l₂ := x :: l) fun a ha => by
    rcases (insK_mem K x l a).mp ha with e | e
    · rw [e]; exact List.mem_cons_self ..
    · exact List.mem_cons_of_mem _ e
  simpa using this

theorem hit_iff {g nu : Int} {s : Scn} : hitB g nu s = true ↔ s.gate = g ∧ s.number = nu := by
  unfold hitB
  rw [Bool.and_eq_true, decide_eq_true_eq, decide_eq_true_eq]

theorem find_neg {X : List Scn} {g nu : Int} : findS X g nu < 0 ↔ seenB (gateL X g) nu = false := by
  rw [seen_not]
  unfold findS
  cases h : X.findIdx? (hitB g nu) with
  | none =>
    rw [List.findIdx?_eq_none_iff] at h
    refine ⟨fun _ t ht e => ?_, fun _ => by show (-1 : Int) < 0; decide⟩
    have hg := gate_mem.mp ht
    have := h t hg.1
    rw [hit_iff.mpr ⟨hg.2, e⟩] at this
    cases this
  | some m =>
    rw [List.findIdx?_eq_some_iff_getElem] at h
    obtain ⟨hm, h1, _⟩ := h
    refine ⟨fun hh => absurd hh (by show ¬ (m : Int) < 0; omega), fun hh => ?_⟩
    have hk := hit_iff.mp h1
    exact absurd hk.2 (hh X[m] (gate_mem.mpr ⟨List.getElem_mem hm, hk.1⟩))

/-- The found place. -/
theorem find_some {X : List Scn} {g nu : Int} (h : ∃ s ∈ X, s.gate = g ∧ s.number = nu) : ∃ (m : Nat) (hm : m < X.length), findS X g nu = m ∧ X[m].gate = g ∧ X[m].number = nu ∧ seenB (gateL (X.take m) g) nu = false := by
  obtain ⟨s, hs, h1, h2⟩ := h
  unfold findS
  cases hf : X.findIdx? (hitB g nu) with
  | none =>
    rw [List.findIdx?_eq_none_iff] at hf
    have := hf s hs
    rw [hit_iff.mpr ⟨h1, h2⟩] at this
    cases this
  | some m =>
    rw [List.findIdx?_eq_some_iff_getElem] at hf
    obtain ⟨hm, h3, h4⟩ := hf
    have hk := hit_iff.mp h3
    refine ⟨m, hm, rfl, hk.1, hk.2, ?_⟩
    rw [seen_not]
    intro t ht e
    have hg := gate_mem.mp ht
    obtain ⟨j, hj, rfl⟩ := List.getElem_of_mem hg.1
    rw [List.length_take] at hj
    have hjm : j < m := by omega
    have := h4 j hjm
    rw [List.getElem_take] at e hg
    exact this (hit_iff.mpr ⟨hg.2, e⟩)

theorem findS_seen {X : List Scn} {i : Nat} (hi : i < X.length) : findS X X[i].gate X[i].number < i ↔ seenB (gateL (X.take i) X[i].gate) X[i].number = true := by
  obtain ⟨m, hm, e, hg, hn, hno⟩ := find_some (X := X) ⟨X[i], List.getElem_mem hi, rfl, rfl⟩
  rw [e]
  constructor
  · intro h
    have h : m < i := by omega
    rw [seen_iff]
    refine ⟨X[m], gate_mem.mpr ⟨?_, hg⟩, hn⟩
    exact List.mem_iff_getElem.mpr ⟨m, by rw [List.length_take]; omega, by rw [List.getElem_take]⟩
  · intro h
    rw [seen_iff] at h
    obtain ⟨t, ht, hn2⟩ := h
    have hg2 := gate_mem.mp ht
    obtain ⟨j, hj, rfl⟩ := List.getElem_of_mem hg2.1
    rw [List.length_take] at hj
    rw [List.getElem_take] at hn2 hg2
    have hjm : m ≤ j := by
      by_cases h : m ≤ j
      · exact h
      · rw [seen_not] at hno
        exact absurd hn2 (hno X[j] (gate_mem.mpr ⟨List.mem_iff_getElem.mpr ⟨j, by rw [List.length_take]; omega, by rw [List.getElem_take]⟩, hg2.2⟩))
    omega
theorem find_self {X : List Scn} {i : Nat} (hi : i < X.length) : findS X X[i].gate X[i].number = i ↔ seenB (gateL (X.take i) X[i].gate) X[i].number = false := by
  obtain ⟨m, hm, e, hg, hn, hno⟩ := find_some (X := X) ⟨X[i], List.getElem_mem hi, rfl, rfl⟩
  constructor
  · intro h
    have : ¬ findS X X[i].gate X[i].number < i := by omega
    rw [findS_seen hi] at this
    simpa using this
  · intro h
    have h1 : ¬ findS X X[i].gate X[i].number < i := by rw [findS_seen hi, h]; simp
    have h2 : m ≤ i := by
      by_cases hh : m ≤ i
      · exact hh
      · rw [seen_not] at hno
        exact absurd rfl (hno X[i] (gate_mem.mpr ⟨List.mem_iff_getElem.mpr ⟨i, by rw [List.length_take]; omega, by rw [List.getElem_take]⟩, rfl⟩))
    omega

/-- Below a scan at its gate. -/
def BelowS (x s : Scn) : Prop := s.gate = x.gate ∧ s.number < x.number

/-- What the search for the next lesser number has found so far. -/
def IsLess (X : List Scn) (x : Scn) (k : Nat) (e : Int) : Prop :=
  (e = -1 ∧ ∀ j (hj : j < X.length), j < k → ¬ BelowS x X[j]) ∨ ∃ (m : Nat) (hm : m < X.length), e = m ∧ BelowS x X[m] ∧ seenB (gateL (X.take m) x.gate) X[m].number = false ∧ ∀ j (hj : j < X.length), j < k → BelowS x X[j] → X[j].number ≤ X[m].number

theorem less_start (X : List Scn) (x : Scn) : IsLess X x 0 (-1) := Or.inl ⟨rfl, fun j hj h => by omega⟩
theorem less_skip {X : List Scn} {x : Scn} {k : Nat} {e : Int} (hk : k < X.length) (h : IsLess X x k e) (hn : ¬ BelowS x X[k] ∨ ∃ (m : Nat) (hm : m < X.length), e = m ∧ X[k].number ≤ X[m].number) : IsLess X x (k + 1) e := by
  rcases h with ⟨rfl, h⟩ | ⟨m, hm, rfl, hb, hs, h⟩
  · refine Or.inl ⟨rfl, fun j hj hjk => ?_⟩
    by_cases e : j = k
    · subst e
      rcases hn with hn | ⟨m, _, e, _⟩
      · exact hn
      · omega
    · exact h j hj (by omega)
  · refine Or.inr ⟨m, hm, rfl, hb, hs, fun j hj hjk hbj => ?_⟩
    by_cases e : j = k
    · subst e
      rcases hn with hn | ⟨m', hm', e, hle⟩
      · exact absurd hbj hn
      · have : m = m' := by omega
        subst this
        exact hle
    · exact h j hj (by omega) hbj
theorem less_take {X : List Scn} {x : Scn} {k : Nat} {e : Int} (hk : k < X.length) (h : IsLess X x k e) (hb : BelowS x X[k]) (hg : e = -1 ∨ ∃ (m : Nat) (hm : m < X.length), e = m ∧ X[m].number < X[k].number) : IsLess X x (k + 1) (findS X x.gate X[k].number) := by
  obtain ⟨m, hm, e2, hgm, hnm, hno⟩ := find_some (X := X) (g := x.gate) (nu := X[k].number) ⟨X[k], List.getElem_mem hk, hb.1, rfl⟩
  rw [e2]
  refine Or.inr ⟨m, hm, rfl, ⟨hgm, by rw [hnm]; exact hb.2⟩, by rw [hnm]; exact hno, fun j hj hjk hbj => ?_⟩
  rw [hnm]
  by_cases e3 : j = k
  · subst e3; exact Int.le_refl _
  · rcases h with ⟨_, h⟩ | ⟨m', hm', e4, _, _, h⟩
    · exact absurd hbj (h j hj (by omega))
    · have h1 := h j hj (by omega) hbj
      rcases hg with hg | ⟨m2, hm2, e5, hlt⟩
      · omega
      · have : m' = m2 := by omega
        subst this
        omega

/-- The fork's part, the order's part of what a scan is blamed for. -/
def P1 (X : List Scn) (i : Nat) (b : Blm) : Prop := ∃ h : i < X.length, (seenB (gateL (X.take i) X[i].gate) X[i].number = true ∧ b = forkB X[i]) ∨ (seenB (gateL (X.take i) X[i].gate) X[i].number = false ∧ ∃ t, t ∈ firstL (gateL X X[i].gate) ∧ t.number < X[i].number ∧ (∀ u ∈ X, u.gate = X[i].gate → u.number < X[i].number → u.number ≤ t.number) ∧ X[i].time < t.time ∧ b = orderB X[i] t)
def P2 (X : List Scn) (i : Nat) (b : Blm) : Prop := ∃ h : i < X.length, X[i].kind = 1 ∧ ∃ t, (wayL (X.take i) X[i].serial).getLast? = some t ∧ b ∈ pairB X[i] t
def P3 (gone : List GoneT) (st : Int) (X : List Scn) (i : Nat) (b : Blm) : Prop := ∃ h : i < X.length, lateB gone st X[i] = true ∧ b = staleB X[i] (sinceS gone X[i].serial)
def P4 (X : List Scn) (i : Nat) (b : Blm) : Prop := ∃ h : i < X.length, RefGap X (X.take i) X[i] b
def PA1 (gone : List GoneT) (st : Int) (X : List Scn) (i : Nat) (b : Blm) : Prop := P1 X i b ∨ P2 X i b ∨ P3 gone st X i b

theorem refBl_places {gone : List GoneT} {st : Int} {X : List Scn} {b : Blm} : IsBl gone st X b ↔ (∃ i, i < X.length ∧ PA1 gone st X i b) ∨ ∃ i, i < X.length ∧ P4 X i b := by
  rw [refBl_iff]
  constructor
  · rintro ⟨pre, s, post, rfl, h⟩
    have hi : pre.length < (pre ++ s :: post).length := by rw [List.length_append, List.length_cons]; omega
    have e1 : (pre ++ s :: post)[pre.length] = s := by simp
    have e2 : (pre ++ s :: post).take pre.length = pre := by simp
    rcases h with (h | h | h | ⟨h1, h2⟩) | h
    · exact Or.inl ⟨_, hi, Or.inl ⟨hi, by rw [e1, e2]; exact Or.inl h⟩⟩
    · exact Or.inl ⟨_, hi, Or.inl ⟨hi, by rw [e1, e2]; exact Or.inr h⟩⟩
    · exact Or.inl ⟨_, hi, Or.inr (Or.inr ⟨hi, by rw [e1]; exact h⟩)⟩
    · exact Or.inl ⟨_, hi, Or.inr (Or.inl ⟨hi, by rw [e1, e2]; exact ⟨h1, h2⟩⟩)⟩
    · exact Or.inr ⟨_, hi, hi, by rw [e1, e2]; exact h⟩
  · have hsp : ∀ i (hi : i < X.length), X = X.take i ++ X[i] :: X.drop (i + 1) := fun i hi => by rw [← List.drop_eq_getElem_cons hi, List.take_append_drop]
    rintro (⟨i, hi, ⟨_, h | h⟩ | ⟨_, h⟩ | ⟨_, h⟩⟩ | ⟨i, hi, _, h⟩)
    · exact ⟨_, _, _, hsp i hi, Or.inl (Or.inl h)⟩
    · exact ⟨_, _, _, hsp i hi, Or.inl (Or.inr (Or.inl h))⟩
    · exact ⟨_, _, _, hsp i hi, Or.inl (Or.inr (Or.inr (Or.inr h)))⟩
    · exact ⟨_, _, _, hsp i hi, Or.inl (Or.inr (Or.inr (Or.inl h)))⟩
    · exact ⟨_, _, _, hsp i hi, Or.inr h⟩

/-- The order's part, from the search. -/
theorem p1_fork {X : List Scn} {i : Nat} (hi : i < X.length) (h : findS X X[i].gate X[i].number < i) (b : Blm) : P1 X i b ↔ b = forkB X[i] := by
  have hs := (findS_seen hi).mp h
  constructor
  · rintro ⟨_, h | h⟩
    · exact h.2
    · rw [hs] at h; cases h.1
  · exact fun e => ⟨hi, Or.inl ⟨hs, e⟩⟩
theorem p1_less {X : List Scn} {i : Nat} {e : Int} (hi : i < X.length) (h : ¬ findS X X[i].gate X[i].number < i) (hl : IsLess X X[i] X.length e) (b : Blm) :
    P1 X i b ↔ ∃ (m : Nat) (hm : m < X.length), e = m ∧ X[i].time < X[m].time ∧ b = orderB X[i] X[m] := by
  have hs : seenB (gateL (X.take i) X[i].gate) X[i].number = false := by
    rw [findS_seen hi] at h
    simpa using h
  constructor
  · rintro ⟨_, h1 | ⟨_, t, ht, hlt, hmax, htm, rfl⟩⟩
    · rw [hs] at h1; cases h1.1
    · have htg := gate_mem.mp (first_mem _ t ht)
      obtain ⟨j, hj, rfl⟩ := List.getElem_of_mem htg.1
      rcases hl with ⟨_, h2⟩ | ⟨m, hm, rfl, hb, hno, h2⟩
      · exact absurd ⟨htg.2, hlt⟩ (h2 j hj hj)
      · have hn1 := h2 j hj hj ⟨htg.2, hlt⟩
        have hn2 := hmax X[m] (List.getElem_mem hm) hb.1 hb.2
        have hmf : X[m] ∈ firstL (gateL X X[i].gate) := first_gate.mpr ⟨X.take m, X.drop (m + 1), by rw [← List.drop_eq_getElem_cons hm, List.take_append_drop], hb.1, hno⟩
        have heq : X[j] = X[m] := by
          have hnd := first_nodup (gateL X X[i].gate)
          have hp := List.pairwise_map.mp hnd
          rcases pw_cases hp ht hmf with e | e | e
          · exact e
          · exact absurd (by omega) e
          · exact absurd (by omega) e
        exact ⟨m, hm, rfl, by rw [← heq]; exact htm, by rw [heq]⟩
  · rintro ⟨m, hm, rfl, htm, rfl⟩
    rcases hl with ⟨e, _⟩ | ⟨m', hm', e, hb, hno, h2⟩
    · omega
    · have : m = m' := by omega
      subst this
      refine ⟨hi, Or.inr ⟨hs, X[m], first_gate.mpr ⟨X.take m, X.drop (m + 1), by rw [← List.drop_eq_getElem_cons hm, List.take_append_drop], hb.1, hno⟩, hb.2, fun u hu hg hn => ?_, htm, rfl⟩⟩
      obtain ⟨j, hj, rfl⟩ := List.getElem_of_mem hu
      exact h2 j hj hj ⟨hg, hn⟩

theorem early_last {X : List Scn} {i : Nat} {e : Int} (hi : i < X.length) (h : IsEarly X i X[i].serial e) : (e = -1 ∧ (wayL (X.take i) X[i].serial).getLast? = none) ∨ ∃ (m : Nat) (hm : m < X.length), e = m ∧ (wayL (X.take i) X[i].serial).getLast? = some X[m] := by
  rcases h with ⟨rfl, h⟩ | ⟨m, hm, rfl, hmi, hon, h⟩
  · refine Or.inl ⟨rfl, ?_⟩
    have : wayL (X.take i) X[i].serial = [] := by
      unfold wayL
      rw [List.filter_eq_nil_iff]
      intro s hs
      obtain ⟨j, hj, rfl⟩ := List.getElem_of_mem hs
      rw [List.length_take] at hj
      have := h j (by omega) (by omega)
      rw [List.getElem_take]
      unfold onB at this
      rw [Bool.and_comm, this]
      simp
    rw [this]
    rfl
  · refine Or.inr ⟨m, hm, rfl, ?_⟩
    have hsp : X.take i = X.take m ++ X[m] :: (X.take i).drop (m + 1) := by
      have h1 : m < (X.take i).length := by rw [List.length_take]; omega
      have h2 := List.drop_eq_getElem_cons h1
      rw [List.getElem_take] at h2
      have h3 : (X.take i).take m = X.take m := by rw [List.take_take]; congr 1; omega
      calc X.take i = (X.take i).take m ++ (X.take i).drop m := (List.take_append_drop ..).symm
        _ = _ := by rw [h3, h2]
    rw [hsp, way_app, way_cons]
    unfold onB at hon
    rw [Bool.and_eq_true, decide_eq_true_eq] at hon
    rw [if_pos ⟨hon.2, hon.1⟩]
    have hr : wayL ((X.take i).drop (m + 1)) X[i].serial = [] := by
      unfold wayL
      rw [List.filter_eq_nil_iff]
      intro s hs
      obtain ⟨j, hj, rfl⟩ := List.getElem_of_mem hs
      rw [List.length_drop, List.length_take] at hj
      rw [List.getElem_drop, List.getElem_take]
      have := h (m + 1 + j) (by omega) (by omega) (by omega)
      unfold onB at this
      rw [Bool.and_comm, this]
      simp
    rw [hr, List.getLast?_append]
    rfl
theorem p2_none {X : List Scn} {i : Nat} (hi : i < X.length) (h : (wayL (X.take i) X[i].serial).getLast? = none) (b : Blm) : ¬ P2 X i b := by
  rintro ⟨_, _, t, ht, _⟩
  rw [h] at ht
  cases ht
theorem p2_some {X : List Scn} {i m : Nat} (hi : i < X.length) (hm : m < X.length) (hk : X[i].kind = 1) (h : (wayL (X.take i) X[i].serial).getLast? = some X[m]) (b : Blm) : P2 X i b ↔ b ∈ pairB X[i] X[m] := by
  constructor
  · rintro ⟨_, _, t, ht, hb⟩
    rw [h] at ht
    cases ht
    exact hb
  · exact fun hb => ⟨hi, hk, X[m], h, hb⟩
theorem p2_kind {X : List Scn} {i : Nat} (hi : i < X.length) (hk : X[i].kind ≠ 1) (b : Blm) : ¬ P2 X i b := fun ⟨_, h, _⟩ => hk h
theorem p3_kind {gone : List GoneT} {st : Int} {X : List Scn} {i : Nat} (hi : i < X.length) (hk : X[i].kind ≠ 1) (b : Blm) : ¬ P3 gone st X i b := fun ⟨_, h, _⟩ => hk (late_iff.mp h).1
theorem late_since {gone : List GoneT} {st : Int} {s : Scn} (hk : s.kind = 1) : lateB gone st s = (decide (0 < sinceG gone s.serial) && decide (sinceG gone s.serial + st < s.time)) := by
  unfold lateB sinceG
  by_cases h : 1 ≤ sinceS gone s.serial ∧ sinceS gone s.serial ≤ 1000000000
  · rw [if_pos h]
    have h0 : 0 < sinceS gone s.serial := by omega
    simp [hk, h.1, h.2, h0]
  · rw [if_neg h]
    have : ¬ (1 ≤ sinceS gone s.serial) ∨ ¬ (sinceS gone s.serial ≤ 1000000000) := by omega
    rcases this with h | h <;> simp [h]
theorem p3_iff {gone : List GoneT} {st : Int} {X : List Scn} {i : Nat} (hi : i < X.length) (b : Blm) : P3 gone st X i b ↔ lateB gone st X[i] = true ∧ b = staleB X[i] (sinceS gone X[i].serial) := ⟨fun ⟨_, h⟩ => h, fun h => ⟨hi, h⟩⟩
theorem p4_iff {X : List Scn} {i : Nat} (hi : i < X.length) (b : Blm) : P4 X i b ↔ RefGap X (X.take i) X[i] b := ⟨fun ⟨_, h⟩ => h, fun h => ⟨hi, h⟩⟩
end Go.Proofs.Ytpmoelkblngamaa
