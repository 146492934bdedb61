/- merge: what the way of a title adds to the blames, step by step: plain; merge: what Merge, Blames, Inside return: plain; the laws' examples. -/
import Derived.Test.YtpmoelkblngamaaQMMR08

namespace Go.Proofs.Ytpmoelkblngamaa

def scAt (l : List Scn) (j : Nat) : Scn := l.getD j default

theorem scAt_get {l : List Scn} {j : Nat} (h : j < l.length) : scAt l j = l[j] := by
  unfold scAt
  rw [List.getD_eq_getElem?_getD, List.getElem?_eq_getElem h]
  rfl

/-- What a scan and the one ahead of it are blamed for. -/
def pairB (s t : Scn) : List Blm := if t.kind = 1 then (if t.gate = s.gate then (if t.number = s.number then [] else [fork2B s t]) else [copyB s t]) else []

def wayStep (gone : List GoneT) (st : Int) (l : List Scn) (j : Nat) : List Blm :=
  if (scAt l j).kind = 1 then (if lateB gone st (scAt l j) then [staleB (scAt l j) (sinceS gone (scAt l j).serial)] else []) ++ (if j = 0 then [] else pairB (scAt l j) (scAt l (j - 1))) else []

def wayF (gone : List GoneT) (st : Int) (l : List Scn) (i : Nat) : List Blm := (List.range i).flatMap (wayStep gone st l)

theorem way_next (gone : List GoneT) (st : Int) (l : List Scn) (i : Nat) : wayF gone st l (i + 1) = wayF gone st l i ++ wayStep gone st l i := by
  unfold wayF
  rw [List.range_succ, List.flatMap_append, List.flatMap_singleton]

theorem pair_mem {s t : Scn} {b : Blm} : b ∈ pairB s t ↔ t.kind = 1 ∧ ((t.gate ≠ s.gate ∧ b = copyB s t) ∨ (t.gate = s.gate ∧ t.number ≠ s.number ∧ b = fork2B s t)) := by
  unfold pairB
  by_cases h1 : t.kind = 1
  · rw [if_pos h1]
    by_cases h2 : t.gate = s.gate
    · rw [if_pos h2]
      by_cases h3 : t.number = s.number
      · rw [if_pos h3]; simp [h2, h3]
      · rw [if_neg h3]; simp [h1, h2, h3]
    · rw [if_neg h2]; simp [h1, h2]
  · rw [if_neg h1]; simp [h1]

theorem step_mem {gone : List GoneT} {st : Int} {l : List Scn} {j : Nat} {b : Blm} : b ∈ wayStep gone st l j ↔ (scAt l j).kind = 1 ∧ ((lateB gone st (scAt l j) = true ∧ b = staleB (scAt l j) (sinceS gone (scAt l j).serial)) ∨ (j ≠ 0 ∧ b ∈ pairB (scAt l j) (scAt l (j - 1)))) := by
  unfold wayStep
  by_cases h1 : (scAt l j).kind = 1
  · rw [if_pos h1, List.mem_append]
    refine Iff.trans (or_congr ?_ ?_) (Iff.symm (and_iff_right h1))
    · by_cases h2 : lateB gone st (scAt l j) = true
      · rw [if_pos h2]; simp [h2]
      · rw [if_neg h2]; simp [h2]
    · by_cases h2 : j = 0
      · rw [if_pos h2]; simp [h2]
      · rw [if_neg h2]; simp [h2]
  · rw [if_neg h1]; simp [h1]

theorem wayF_mem {gone : List GoneT} {st : Int} {l : List Scn} (b : Blm) : b ∈ wayF gone st l l.length ↔ WayBl gone st l b := by
  have hsplit : ∀ j (h : j + 1 < l.length), l = l.take j ++ l[j] :: l[j + 1] :: l.drop (j + 2) := fun j h => by
    rw [← List.drop_eq_getElem_cons h, ← List.drop_eq_getElem_cons (by omega), List.take_append_drop]
  unfold wayF WayBl
  rw [List.mem_flatMap]
  constructor
  · rintro ⟨j, hj, hb⟩
    rw [List.mem_range] at hj
    obtain ⟨h1, hb⟩ := step_mem.mp hb
    rw [scAt_get hj] at h1 hb
    rcases hb with ⟨hl, rfl⟩ | ⟨h0, hb⟩
    · obtain ⟨_, a, b, c⟩ := late_iff.mp hl
      exact Or.inl ⟨l[j], List.getElem_mem hj, h1, a, b, c, rfl⟩
    · obtain ⟨i, rfl⟩ : ∃ i, j = i + 1 := ⟨j - 1, by omega⟩
      rw [show i + 1 - 1 = i from rfl, scAt_get (show i < l.length by omega)] at hb
      obtain ⟨hk, hb⟩ := pair_mem.mp hb
      rcases hb with ⟨a, rfl⟩ | ⟨a, c, rfl⟩
      · exact Or.inr (Or.inl ⟨_, _, _, _, hsplit i hj, h1, hk, a, rfl⟩)
      · exact Or.inr (Or.inr ⟨_, _, _, _, hsplit i hj, h1, hk, a, c, rfl⟩)
  · have hpair : ∀ pre t s post, l = pre ++ t :: s :: post → s.kind = 1 → b ∈ pairB s t → ∃ a, a ∈ List.range l.length ∧ b ∈ wayStep gone st l a := by
      intro pre t s post e hs hb
      have hl : l.length = pre.length + (post.length + 1 + 1) := by rw [e]; simp
      have e1 : scAt l (pre.length + 1) = s := by rw [scAt_get (by omega)]; simp [e]
      have e2 : scAt l pre.length = t := by rw [scAt_get (by omega)]; simp [e]
      refine ⟨pre.length + 1, List.mem_range.mpr (by omega), step_mem.mpr ⟨by rw [e1]; exact hs, Or.inr ⟨by omega, ?_⟩⟩⟩
      rw [e1, show pre.length + 1 - 1 = pre.length from rfl, e2]
      exact hb
    rintro (⟨s, hs, h1, h2, h3, h4, rfl⟩ | ⟨pre, t, s, post, e, hs, ht, hg, rfl⟩ | ⟨pre, t, s, post, e, hs, ht, hg, hn, rfl⟩)
    · obtain ⟨j, hj, rfl⟩ := List.getElem_of_mem hs
      refine ⟨j, List.mem_range.mpr hj, step_mem.mpr ?_⟩
      rw [scAt_get hj]
      exact ⟨h1, Or.inl ⟨late_iff.mpr ⟨h1, h2, h3, h4⟩, rfl⟩⟩
    · exact hpair pre t s post e hs (pair_mem.mpr ⟨ht, Or.inl ⟨hg, rfl⟩⟩)
    · exact hpair pre t s post e hs (pair_mem.mpr ⟨ht, Or.inr ⟨hg, hn, rfl⟩⟩)
end Go.Proofs.Ytpmoelkblngamaa

namespace Go.Proofs.Ytpmoelkblngamaa

theorem gateBl_nil (b : Blm) : ¬ GateBl [] b := by
  rintro (⟨p, s, q, e, _⟩ | ⟨s, t, hs, _⟩ | ⟨u, n, hu, _⟩)
  · simp at e
  · cases hs
  · cases hu
theorem wayBl_nil {gone : List GoneT} {st : Int} (b : Blm) : ¬ WayBl gone st [] b := by
  rintro (⟨s, hs, _⟩ | ⟨p, t, s, q, e, _⟩ | ⟨p, t, s, q, e, _⟩)
  · cases hs
  · simp at e
  · simp at e

theorem strict_ints {l : List Int} (h : Strict KI l) : l.Pairwise (· < ·) := h.imp fun {a b} h => by
  have h : [a] < [b] := h
  rw [List.cons_lt_cons_iff] at h
  rcases h with h | h
  · exact h
  · exact absurd h.2 (List.not_lt_nil _)
theorem ints_strict {l : List Int} (h : l.Pairwise (· < ·)) : Strict KI l := h.imp fun h => List.Lex.rel h

/-- The numbers of scans, in order, each once. -/
def numsS (l : List Scn) : List Int := setK KI ((firstL l).map (·.number))

def gateS (x : List Scn) (g : Int) : List Blm := gateF (gateL x g) g (numsS (gateL x g))
def wayS (gone : List GoneT) (st : Int) (x : List Scn) (k : Int) : List Blm := wayF gone st (wayL x k) (wayL x k).length

theorem gateS_mem {x : List Scn} {g : Int} (h : gateL x g ≠ []) (b : Blm) : b ∈ gateS x g ↔ GateBl (gateL x g) b :=
  gateF_mem h (fun _ hs => (gate_mem.mp hs).2) (strict_ints (setK_strict KI _)) (fun n => setK_mem KI _ n) b

def blL (gone : List GoneT) (st : Int) (x : List Scn) : List Blm := (x.flatMap fun s => gateS x s.gate) ++ x.flatMap fun s => wayS gone st x s.serial

theorem blL_mem {gone : List GoneT} {st : Int} {x : List Scn} (b : Blm) : b ∈ blL gone st x ↔ IsBl gone st x b := by
  unfold blL IsBl
  rw [List.mem_append, List.mem_flatMap, List.mem_flatMap]
  refine or_congr ⟨?_, ?_⟩ ⟨?_, ?_⟩
  · rintro ⟨s, hs, hb⟩
    have hs' : s ∈ gateL x s.gate := gate_mem.mpr ⟨hs, rfl⟩
    exact ⟨s.gate, (gateS_mem (fun e => by rw [e] at hs'; cases hs') b).mp hb⟩
  · rintro ⟨g, hb⟩
    have hne : gateL x g ≠ [] := fun e => by rw [e] at hb; exact gateBl_nil b hb
    obtain ⟨s, hs⟩ := List.exists_mem_of_ne_nil _ hne
    obtain ⟨h1, rfl⟩ := gate_mem.mp hs
    exact ⟨s, h1, (gateS_mem hne b).mpr hb⟩
  · rintro ⟨s, _, hb⟩
    exact ⟨s.serial, (wayF_mem b).mp hb⟩
  · rintro ⟨k, hb⟩
    have hne : wayL x k ≠ [] := fun e => by rw [e] at hb; exact wayBl_nil b hb
    obtain ⟨s, hs⟩ := List.exists_mem_of_ne_nil _ hne
    obtain ⟨h1, _, rfl⟩ := way_mem.mp hs
    exact ⟨s, h1, (wayF_mem b).mpr hb⟩

/-- What Merge returns. -/
def mergeS (l : List Scn) : List Scn := setK KS l
/-- What Blames returns. -/
def blamesS (gone : List GoneT) (stale : Int) (l : List Scn) : List Blm := setK KB (blL gone (staleN stale) (mergeS l))

theorem blames_is (gone : List GoneT) (stale : Int) (l : List Scn) : IsSet KB (blamesS gone stale l) (IsBl gone (staleN stale) (mergeS l)) := (setK_is KB _).congr KB fun b => blL_mem b
theorem blames_mem {gone : List GoneT} {stale : Int} {l : List Scn} {b : Blm} : b ∈ blamesS gone stale l ↔ IsBl gone (staleN stale) (mergeS l) b := (blames_is gone stale l).2 b

def inL (x : List Scn) : List Int := x.flatMap fun s => match (wayL x s.serial).getLast? with
  | some t => if t.kind = 1 then [s.serial] else []
  | none => []

theorem inL_mem {x : List Scn} (k : Int) : k ∈ inL x ↔ IsIn x k := by
  unfold inL IsIn
  rw [List.mem_flatMap]
  constructor
  · rintro ⟨s, _, hk⟩
    cases hl : (wayL x s.serial).getLast? with
    | none => rw [hl] at hk; cases hk
    | some t =>
      rw [hl] at hk
      dsimp only at hk
      by_cases h1 : t.kind = 1
      · rw [if_pos h1] at hk
        have hk := List.mem_singleton.mp hk
        subst hk
        exact ⟨t, hl, h1⟩
      · rw [if_neg h1] at hk; cases hk
  · rintro ⟨t, hl, h1⟩
    have ht := way_mem.mp (List.mem_of_getLast? hl)
    refine ⟨t, ht.1, ?_⟩
    rw [ht.2.2, hl]
    dsimp only
    rw [if_pos h1]
    exact List.mem_singleton.mpr rfl

/-- What Inside returns. -/
def insideS (l : List Scn) : List Int := setK KI (inL (mergeS l))
theorem inside_is (l : List Scn) : IsSet KI (insideS l) (IsIn (mergeS l)) := (setK_is KI _).congr KI fun k => inL_mem k
theorem inside_mem {l : List Scn} {k : Int} : k ∈ insideS l ↔ IsIn (mergeS l) k := (inside_is l).2 k

theorem blames_eq {gone : List GoneT} {stale : Int} {l : List Scn} {B : List Blm} (h : IsSet KB B (IsBl gone (staleN stale) (mergeS l))) : B = blamesS gone stale l := h.unique KB (blames_is gone stale l)
theorem inside_eq {l : List Scn} {B : List Int} (h : IsSet KI B (IsIn (mergeS l))) : B = insideS l := h.unique KI (inside_is l)
theorem blames_congr {gone : List GoneT} {stale : Int} {l m : List Scn} (h : ∀ a, a ∈ l ↔ a ∈ m) : blamesS gone stale l = blamesS gone stale m := by unfold blamesS mergeS; rw [setK_congr KS h]
theorem inside_congr {l m : List Scn} (h : ∀ a, a ∈ l ↔ a ∈ m) : insideS l = insideS m := by unfold insideS mergeS; rw [setK_congr KS h]

/-! ### The laws' examples -/
def sc (g n t s k : Int) : Scn := ⟨g, n, t, s, k, []⟩
def one0 : Scn := sc 1 1 10 7 1
def one1 : Scn := sc 1 2 20 7 2
def two0 : Scn := sc 2 1 15 7 1

theorem ex_all : mergeS [two0, one0, one1, two0] = [one0, two0, one1] := by decide +kernel
theorem ex_a : blamesS [] 0 [one0, two0, one1] = [⟨1, 7, 2, 1, 1, 1⟩] := by decide +kernel
theorem ex_b : blamesS [(7, 3)] 5 [one0, two0, one1] = [⟨1, 7, 2, 1, 1, 1⟩, ⟨4, 7, 1, 1, -1, 3⟩, ⟨4, 7, 2, 1, -1, 3⟩] := by decide +kernel
theorem ex_c : blamesS [] 0 [two0, one1] = [⟨3, 0, 1, 1, -1, 2⟩] := by decide +kernel
theorem ex_in : insideS [one0, two0, one1] = [] := by decide +kernel
theorem ex_in2 : insideS [one0, two0] = [7] := by decide +kernel
end Go.Proofs.Ytpmoelkblngamaa
