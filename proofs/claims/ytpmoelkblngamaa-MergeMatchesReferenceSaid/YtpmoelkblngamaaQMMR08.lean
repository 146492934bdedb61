/- merge: what gate adds to the blames, step by step: plain. -/
import Derived.Test.YtpmoelkblngamaaQMMR07

namespace Go.Proofs.Ytpmoelkblngamaa

/-! ### Forks -/
def forkF (l : List Scn) : List Blm := (l.foldl (fun (a : List Scn × List Blm) s => if seenB a.1 s.number then (a.1, a.2 ++ [forkB s]) else (a.1 ++ [s], a.2)) ([], [])).2

theorem fork_fst (l : List Scn) : (l.foldl (fun (a : List Scn × List Blm) s => if seenB a.1 s.number then (a.1, a.2 ++ [forkB s]) else (a.1 ++ [s], a.2)) ([], [])).1 = firstL l := by
  induction l using snoc_ind with
  | h0 => rfl
  | h1 l x ih =>
    rw [List.foldl_append, first_snoc, ← ih]
    show (if _ then _ else _ : List Scn × List Blm).1 = _
    split <;> rfl

theorem fork_snoc (l : List Scn) (s : Scn) : forkF (l ++ [s]) = if seenB (firstL l) s.number then forkF l ++ [forkB s] else forkF l := by
  unfold forkF
  rw [List.foldl_append, ← fork_fst l]
  show (if _ then _ else _ : List Scn × List Blm).2 = _
  split <;> rfl

theorem fork_mem (l : List Scn) (b : Blm) : b ∈ forkF l ↔ ∃ pre s post, l = pre ++ s :: post ∧ seenB pre s.number = true ∧ b = forkB s := by
  induction l using snoc_ind with
  | h0 => exact Iff.intro (fun h => by cases h) (fun h => by obtain ⟨p, s, q, e, _⟩ := h; simp at e)
  | h1 l x ih =>
    rw [fork_snoc, first_seen]
    have hr : (∃ pre s post, l ++ [x] = pre ++ s :: post ∧ seenB pre s.number = true ∧ b = forkB s) ↔ (∃ pre s post, l = pre ++ s :: post ∧ seenB pre s.number = true ∧ b = forkB s) ∨ (seenB l x.number = true ∧ b = forkB x) := by
      constructor
      · rintro ⟨pre, s, post, e, h1, h2⟩
        rcases List.eq_nil_or_concat post with rfl | ⟨m, y, rfl⟩
        · obtain ⟨e1, e2⟩ := List.append_inj' e rfl
          cases e2
          exact Or.inr ⟨by rw [e1]; exact h1, h2⟩
        · rw [List.concat_eq_append] at e
          have e' : l ++ [x] = (pre ++ s :: m) ++ [y] := by rw [e]; simp
          obtain ⟨e1, _⟩ := List.append_inj' e' rfl
          exact Or.inl ⟨pre, s, m, e1, h1, h2⟩
      · rintro (⟨pre, s, post, e, h1, h2⟩ | ⟨h1, h2⟩)
        · exact ⟨pre, s, post ++ [x], by rw [e]; simp, h1, h2⟩
        · exact ⟨l, x, [], rfl, h1, h2⟩
    rw [hr, ← ih]
    cases hs : seenB l x.number
    · simp
    · simp

/-! ### Orders -/
def numOf (F : List Scn) (n : Int) : Scn := (F.find? fun s => decide (s.number = n)).getD default

theorem numOf_is {F : List Scn} (hF : (F.map (·.number)).Nodup) {s : Scn} (hs : s ∈ F) : numOf F s.number = s := by
  unfold numOf
  induction F with
  | nil => cases hs
  | cons a F ih =>
    rw [List.map_cons, List.nodup_cons] at hF
    rw [List.find?_cons]
    rcases List.mem_cons.mp hs with e | hs
    · rw [e]; simp
    · have hne : ¬ a.number = s.number := fun e => hF.1 (by rw [e]; exact List.mem_map_of_mem hs)
      simp only [hne, decide_false]
      exact ih hF.2 hs

/-- What the pairs of neighbours are blamed for. -/
def orderF (F : List Scn) (S : List Int) (i : Nat) : List Blm := ((List.range' 1 (i - 1)).filter fun j => decide ((numOf F (S.getD j 0)).time < (numOf F (S.getD (j - 1) 0)).time)).map fun j => orderB (numOf F (S.getD j 0)) (numOf F (S.getD (j - 1) 0))

theorem order_next (F : List Scn) (S : List Int) (i : Nat) (h : 1 ≤ i) : orderF F S (i + 1) = if (numOf F (S.getD i 0)).time < (numOf F (S.getD (i - 1) 0)).time then orderF F S i ++ [orderB (numOf F (S.getD i 0)) (numOf F (S.getD (i - 1) 0))] else orderF F S i := by
  unfold orderF
  rw [show i + 1 - 1 = (i - 1) + 1 from by omega, List.range'_1_concat, List.filter_append, List.map_append, show 1 + (i - 1) = i from by omega]
  by_cases hh : (numOf F (S.getD i 0)).time < (numOf F (S.getD (i - 1) 0)).time
  · rw [if_pos hh, List.filter_cons, if_pos (by simpa using hh)]; rfl
  · rw [if_neg hh, List.filter_cons, if_neg (by simpa using hh)]; simp

theorem order_mem {F : List Scn} {S : List Int} (hF : (F.map (·.number)).Nodup) (hS : S.Pairwise (· < ·)) (hm : ∀ n, n ∈ S ↔ n ∈ F.map (·.number)) (b : Blm) :
    b ∈ orderF F S S.length ↔ ∃ s t, s ∈ F ∧ t ∈ F ∧ t.number < s.number ∧ (∀ u ∈ F, ¬ (t.number < u.number ∧ u.number < s.number)) ∧ s.time < t.time ∧ b = orderB s t := by
  have hat : ∀ j (hj : j < S.length), ∃ s ∈ F, s.number = S[j] ∧ numOf F (S.getD j 0) = s := by
    intro j hj
    obtain ⟨s, hs, e⟩ := List.mem_map.mp ((hm _).mp (List.getElem_mem hj))
    refine ⟨s, hs, e, ?_⟩
    rw [List.getD_eq_getElem?_getD, List.getElem?_eq_getElem hj, Option.getD_some, ← e]
    exact numOf_is hF hs
  have hlt : ∀ i j (hi : i < S.length) (hj : j < S.length), i < j → S[i] < S[j] := fun i j hi hj h => List.pairwise_iff_getElem.mp hS i j hi hj h
  unfold orderF
  rw [List.mem_map]
  constructor
  · rintro ⟨j, hj, rfl⟩
    obtain ⟨hj, ht⟩ := List.mem_filter.mp hj
    rw [List.mem_range'_1] at hj
    obtain ⟨s, hs, es, e1⟩ := hat j (by omega)
    obtain ⟨t, htF, et, e2⟩ := hat (j - 1) (by omega)
    rw [e1, e2] at ht ⊢
    refine ⟨s, t, hs, htF, by rw [es, et]; exact hlt _ _ _ _ (by omega), fun u hu hb => ?_, by simpa using ht, rfl⟩
    obtain ⟨k, hk, ek⟩ := List.getElem_of_mem ((hm _).mpr (List.mem_map_of_mem hu))
    rw [es, et, ← ek] at hb
    have h1 : j - 1 < k := by
      rcases Nat.lt_or_ge (j - 1) k with h | h
      · exact h
      · rcases Nat.lt_or_ge k (j - 1) with h2 | h2
        · have := hlt k (j - 1) hk (by omega) h2; omega
        · have e : k = j - 1 := by omega
          subst e; omega
    have h2 : k < j := by
      rcases Nat.lt_or_ge k j with h | h
      · exact h
      · rcases Nat.lt_or_ge j k with h2 | h2
        · have := hlt j k (by omega) hk h2; omega
        · have e : k = j := by omega
          subst e; omega
    omega
  · rintro ⟨s, t, hs, ht, hn, hb, htm, rfl⟩
    obtain ⟨i, hi, ei⟩ := List.getElem_of_mem ((hm _).mpr (List.mem_map_of_mem hs))
    obtain ⟨j, hj, ej⟩ := List.getElem_of_mem ((hm _).mpr (List.mem_map_of_mem ht))
    have hji : j < i := by
      rcases Nat.lt_or_ge j i with h | h
      · exact h
      · rcases Nat.lt_or_ge i j with h2 | h2
        · have := hlt i j hi hj h2; omega
        · have e : j = i := by omega
          subst e; omega
    have hnx : j + 1 = i := by
      rcases Nat.lt_or_ge (j + 1) i with h | h
      · exfalso
        obtain ⟨u, hu, eu, _⟩ := hat (j + 1) (by omega)
        have h1 := hlt j (j + 1) hj (by omega) (by omega)
        have h2 := hlt (j + 1) i (by omega) hi h
        exact hb u hu (by rw [eu, ← ej, ← ei]; exact ⟨h1, h2⟩)
      · omega
    have e1 : numOf F (S.getD i 0) = s := by
      rw [List.getD_eq_getElem?_getD, List.getElem?_eq_getElem hi, Option.getD_some, ei]
      exact numOf_is hF hs
    have e2 : numOf F (S.getD (i - 1) 0) = t := by
      rw [show i - 1 = j from by omega, List.getD_eq_getElem?_getD, List.getElem?_eq_getElem hj, Option.getD_some, ej]
      exact numOf_is hF ht
    refine ⟨i, List.mem_filter.mpr ⟨by rw [List.mem_range'_1]; omega, ?_⟩, by rw [e1, e2]⟩
    rw [e1, e2]
    simpa using htm

/-! ### Gaps -/
def gapF (l : List Scn) (g most : Int) (n : Nat) : List Blm := ((List.range' 1 (n - 1)).filter fun j : Nat => !seenB l (j : Int)).map fun j : Nat => gapB g (j : Int) most

theorem gap_next (l : List Scn) (g most : Int) (n : Nat) (h : 1 ≤ n) : gapF l g most (n + 1) = if seenB l n then gapF l g most n else gapF l g most n ++ [gapB g n most] := by
  unfold gapF
  rw [show n + 1 - 1 = (n - 1) + 1 from by omega, List.range'_1_concat, List.filter_append, List.map_append, show 1 + (n - 1) = n from by omega]
  cases hh : seenB l n
  · simp [hh]
  · simp [hh]

theorem gap_mem {l : List Scn} {g most : Int} (b : Blm) : b ∈ gapF l g most most.toNat ↔ ∃ n, 1 ≤ n ∧ n < most ∧ seenB l n = false ∧ b = gapB g n most := by
  unfold gapF
  rw [List.mem_map]
  constructor
  · rintro ⟨j, hj, rfl⟩
    obtain ⟨hj, hs⟩ := List.mem_filter.mp hj
    rw [List.mem_range'_1] at hj
    exact ⟨j, by omega, by omega, by simpa using hs, rfl⟩
  · rintro ⟨n, h1, h2, h3, rfl⟩
    obtain ⟨m, rfl⟩ : ∃ m : Nat, n = m := ⟨n.toNat, by omega⟩
    exact ⟨m, List.mem_filter.mpr ⟨by rw [List.mem_range'_1]; omega, by simp [h3]⟩, rfl⟩

/-- All that gate adds: at the scans l of the gate g, their numbers S in order. -/
def gateF (l : List Scn) (g : Int) (S : List Int) : List Blm :=
  forkF l ++ (orderF (firstL l) S S.length ++ if 4000 < S.getD (S.length - 1) 0 then [] else gapF l g (S.getD (S.length - 1) 0) (S.getD (S.length - 1) 0).toNat)

theorem gateF_mem {l : List Scn} {g : Int} {S : List Int} (hl : l ≠ []) (hg : ∀ s ∈ l, s.gate = g) (hS : S.Pairwise (· < ·)) (hm : ∀ n, n ∈ S ↔ n ∈ (firstL l).map (·.number)) (b : Blm) : b ∈ gateF l g S ↔ GateBl l b := by
  have hnum : ∀ n, n ∈ S ↔ ∃ u ∈ l, u.number = n := by
    intro n
    rw [hm, List.mem_map]
    constructor
    · rintro ⟨s, hs, e⟩
      exact ⟨s, first_mem l s hs, e⟩
    · rintro ⟨u, hu, e⟩
      have : seenB (firstL l) n = true := by rw [first_seen]; exact seen_iff.mpr ⟨u, hu, e⟩
      obtain ⟨t, ht, e⟩ := seen_iff.mp this
      exact ⟨t, ht, e⟩
  have hne : S ≠ [] := by
    intro e
    cases l with
    | nil => exact hl rfl
    | cons a l =>
      have := (hnum a.number).mpr ⟨a, List.mem_cons_self .., rfl⟩
      rw [e] at this
      cases this
  have hlen : 0 < S.length := List.length_pos_iff.mpr hne
  obtain ⟨m, hmm⟩ : ∃ m, S.getD (S.length - 1) 0 = m := ⟨_, rfl⟩
  have hmS : S[S.length - 1]'(by omega) = m := by rw [← hmm, List.getD_eq_getElem?_getD, List.getElem?_eq_getElem (by omega), Option.getD_some]
  have hmem : m ∈ S := by rw [← hmS]; exact List.getElem_mem _
  have hmax : ∀ n ∈ S, n ≤ m := by
    intro n hn
    obtain ⟨i, hi, e⟩ := List.getElem_of_mem hn
    rw [← e, ← hmS]
    by_cases h : i = S.length - 1
    · subst h; exact Int.le_refl _
    · exact Int.le_of_lt (List.pairwise_iff_getElem.mp hS i (S.length - 1) hi (by omega) (by omega))
  have hfirst : (∀ s t : Scn, (∀ u ∈ firstL l, ¬ (t.number < u.number ∧ u.number < s.number)) ↔ (∀ u ∈ l, ¬ (t.number < u.number ∧ u.number < s.number))) := by
    intro s t
    constructor
    · intro h u hu hb
      obtain ⟨v, hv, e⟩ := List.mem_map.mp ((hm _).mp ((hnum u.number).mpr ⟨u, hu, rfl⟩))
      exact h v hv (by rw [e]; exact hb)
    · intro h u hu
      exact h u (first_mem l u hu)
  unfold gateF GateBl
  rw [List.mem_append, List.mem_append, fork_mem, order_mem (first_nodup l) hS hm, hmm]
  refine or_congr Iff.rfl (or_congr ?_ ?_)
  · constructor
    · rintro ⟨s, t, a, c, d, e, f⟩
      exact ⟨s, t, a, c, d, (hfirst s t).mp e, f⟩
    · rintro ⟨s, t, a, c, d, e, f⟩
      exact ⟨s, t, a, c, d, (hfirst s t).mpr e, f⟩
  · obtain ⟨u0, hu0, hu0n⟩ := (hnum m).mp hmem
    constructor
    · intro hb
      split at hb
      · cases hb
      · obtain ⟨n, h1, h2, h3, rfl⟩ := (gap_mem b).mp hb
        exact ⟨u0, n, hu0, fun v hv => by rw [hu0n]; exact hmax _ ((hnum _).mpr ⟨v, hv, rfl⟩), by omega, h1, by omega, h3, by rw [hu0n, hg u0 hu0]⟩
    · rintro ⟨u, n, hu, hmx, h4, h1, h2, h3, rfl⟩
      have hum : u.number = m := by
        have a1 := hmax _ ((hnum _).mpr ⟨u, hu, rfl⟩)
        have a2 := hmx u0 hu0
        omega
      rw [if_neg (by omega)]
      exact (gap_mem _).mpr ⟨n, h1, by omega, h3, by rw [hum, hg u hu]⟩
end Go.Proofs.Ytpmoelkblngamaa
