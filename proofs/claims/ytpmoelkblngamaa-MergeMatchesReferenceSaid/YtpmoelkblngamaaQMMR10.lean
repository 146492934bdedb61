/- merge: what is blamed, by the scans' places: plain (the reference's way); Strings as lists of bytes. -/
import Derived.Test.YtpmoelkblngamaaQMMR00
import Derived.Test.YtpmoelkblngamaaQMMR09

namespace Go.Proofs.Ytpmoelkblngamaa

theorem snoc_split {α : Type} {l pre post : List α} {x s : α} (h : l ++ [x] = pre ++ s :: post) : (post = [] ∧ l = pre ∧ x = s) ∨ ∃ m, post = m ++ [x] ∧ l = pre ++ s :: m := by
  rcases List.eq_nil_or_concat post with rfl | ⟨m, y, rfl⟩
  · obtain ⟨e1, e2⟩ := List.append_inj' h rfl
    cases e2
    exact Or.inl ⟨rfl, e1, rfl⟩
  · rw [List.concat_eq_append] at h ⊢
    have e' : l ++ [x] = (pre ++ s :: m) ++ [y] := by rw [h]; simp
    obtain ⟨e1, e2⟩ := List.append_inj' e' rfl
    cases e2
    exact Or.inr ⟨m, rfl, e1⟩

theorem first_gate {x : List Scn} {g : Int} {s : Scn} : s ∈ firstL (gateL x g) ↔ ∃ pre post, x = pre ++ s :: post ∧ s.gate = g ∧ seenB (gateL pre g) s.number = false := by
  induction x using snoc_ind with
  | h0 => exact Iff.intro (fun h => by cases h) (fun h => by obtain ⟨p, q, e, _⟩ := h; simp at e)
  | h1 x a ih =>
    have hr : (∃ pre post, x ++ [a] = pre ++ s :: post ∧ s.gate = g ∧ seenB (gateL pre g) s.number = false) ↔ (∃ pre post, x = pre ++ s :: post ∧ s.gate = g ∧ seenB (gateL pre g) s.number = false) ∨ (a = s ∧ s.gate = g ∧ seenB (gateL x g) s.number = false) := by
      constructor
      · rintro ⟨pre, post, e, h1, h2⟩
        rcases snoc_split e with ⟨_, rfl, rfl⟩ | ⟨m, _, e2⟩
        · exact Or.inr ⟨rfl, h1, h2⟩
        · exact Or.inl ⟨pre, m, e2, h1, h2⟩
      · rintro (⟨pre, post, rfl, h1, h2⟩ | ⟨rfl, h1, h2⟩)
        · exact ⟨pre, post ++ [a], by simp, h1, h2⟩
        · exact ⟨x, [], rfl, h1, h2⟩
    rw [hr, ← ih, gate_snoc]
    by_cases hg : a.gate = g
    · rw [if_pos hg, first_snoc, first_seen]
      cases hs : seenB (gateL x g) a.number
      · rw [if_neg (by simp), List.mem_append, List.mem_singleton]
        refine or_congr Iff.rfl ⟨fun e => ?_, fun e => e.1.symm⟩
        subst e; exact ⟨rfl, hg, hs⟩
      · rw [if_pos rfl]
        refine ⟨Or.inl, ?_⟩
        rintro (h | ⟨rfl, _, h⟩)
        · exact h
        · rw [hs] at h; cases h
    · rw [if_neg hg, List.append_nil]
      refine ⟨Or.inl, ?_⟩
      rintro (h | ⟨rfl, h, _⟩)
      · exact h
      · exact absurd h hg

theorem fork_gate {x : List Scn} {g : Int} {b : Blm} : (∃ pre s post, gateL x g = pre ++ s :: post ∧ seenB pre s.number = true ∧ b = forkB s) ↔ ∃ pre s post, x = pre ++ s :: post ∧ s.gate = g ∧ seenB (gateL pre g) s.number = true ∧ b = forkB s := by
  rw [← fork_mem]
  induction x using snoc_ind with
  | h0 => exact Iff.intro (fun h => by cases h) (fun h => by obtain ⟨p, s, q, e, _⟩ := h; simp at e)
  | h1 x a ih =>
    have hr : (∃ pre s post, x ++ [a] = pre ++ s :: post ∧ s.gate = g ∧ seenB (gateL pre g) s.number = true ∧ b = forkB s) ↔ (∃ pre s post, x = pre ++ s :: post ∧ s.gate = g ∧ seenB (gateL pre g) s.number = true ∧ b = forkB s) ∨ (a.gate = g ∧ seenB (gateL x g) a.number = true ∧ b = forkB a) := by
      constructor
      · rintro ⟨pre, s, post, e, h1, h2⟩
        rcases snoc_split e with ⟨_, rfl, rfl⟩ | ⟨m, _, e2⟩
        · exact Or.inr ⟨h1, h2⟩
        · exact Or.inl ⟨pre, s, m, e2, h1, h2⟩
      · rintro (⟨pre, s, post, rfl, h1, h2⟩ | ⟨h1, h2⟩)
        · exact ⟨pre, s, post ++ [a], by simp, h1, h2⟩
        · exact ⟨x, a, [], rfl, h1, h2⟩
    rw [hr, ← ih, gate_snoc]
    by_cases hg : a.gate = g
    · rw [if_pos hg, fork_snoc, first_seen]
      cases hs : seenB (gateL x g) a.number
      · simp
      · simp [hg]
    · rw [if_neg hg, List.append_nil]
      simp [hg]

theorem pair_way {x : List Scn} {k : Int} {s t : Scn} : (∃ pre post, wayL x k = pre ++ t :: s :: post) ↔ ∃ pre post, x = pre ++ s :: post ∧ wayB s = true ∧ s.serial = k ∧ (wayL pre k).getLast? = some t := by
  induction x using snoc_ind with
  | h0 => exact Iff.intro (fun h => by obtain ⟨p, q, e⟩ := h; simp [wayL] at e) (fun h => by obtain ⟨p, q, e, _⟩ := h; simp at e)
  | h1 x a ih =>
    have hr : (∃ pre post, x ++ [a] = pre ++ s :: post ∧ wayB s = true ∧ s.serial = k ∧ (wayL pre k).getLast? = some t) ↔ (∃ pre post, x = pre ++ s :: post ∧ wayB s = true ∧ s.serial = k ∧ (wayL pre k).getLast? = some t) ∨ (a = s ∧ wayB a = true ∧ a.serial = k ∧ (wayL x k).getLast? = some t) := by
      constructor
      · rintro ⟨pre, post, e, h1, h2⟩
        rcases snoc_split e with ⟨_, rfl, rfl⟩ | ⟨m, _, e2⟩
        · exact Or.inr ⟨rfl, h1, h2⟩
        · exact Or.inl ⟨pre, m, e2, h1, h2⟩
      · rintro (⟨pre, post, rfl, h1, h2⟩ | ⟨rfl, h1, h2⟩)
        · exact ⟨pre, post ++ [a], by simp, h1, h2⟩
        · exact ⟨x, [], rfl, h1, h2⟩
    rw [hr, ← ih, way_snoc]
    by_cases hw : wayB a = true ∧ a.serial = k
    · rw [if_pos hw]
      constructor
      · rintro ⟨pre, post, e⟩
        have e' : wayL x k ++ [a] = (pre ++ [t]) ++ s :: post := by rw [e]; simp
        rcases snoc_split e' with ⟨_, e2, e3⟩ | ⟨m, _, e2⟩
        · exact Or.inr ⟨e3, hw.1, hw.2, by rw [e2]; simp⟩
        · exact Or.inl ⟨pre, m, by rw [e2]; simp⟩
      · rintro (⟨pre, post, e⟩ | ⟨rfl, _, _, h⟩)
        · exact ⟨pre, post ++ [a], by rw [e]; simp⟩
        · obtain ⟨ys, e⟩ := List.getLast?_eq_some_iff.mp h
          exact ⟨ys, [], by rw [e]; simp⟩
    · rw [if_neg hw, List.append_nil]
      refine ⟨Or.inl, ?_⟩
      rintro (h | ⟨_, h1, h2, _⟩)
      · exact h
      · exact absurd ⟨h1, h2⟩ hw

/-- What the reference blames a scan for: pre lies ahead of it. -/
def RefBl (gone : List GoneT) (st : Int) (x pre : List Scn) (s : Scn) (b : Blm) : Prop :=
  (seenB (gateL pre s.gate) s.number = true ∧ b = forkB s) ∨
  (seenB (gateL pre s.gate) s.number = false ∧ ∃ t, t ∈ firstL (gateL x s.gate) ∧ t.number < s.number ∧ (∀ u ∈ x, u.gate = s.gate → u.number < s.number → u.number ≤ t.number) ∧ s.time < t.time ∧ b = orderB s t) ∨
  (lateB gone st s = true ∧ b = staleB s (sinceS gone s.serial)) ∨
  (s.kind = 1 ∧ ∃ t, (wayL pre s.serial).getLast? = some t ∧ b ∈ pairB s t)

/-- What the reference finds missing below a scan: the first with the greatest number of its gate. -/
def RefGap (x pre : List Scn) (s : Scn) (b : Blm) : Prop :=
  seenB (gateL pre s.gate) s.number = false ∧ (∀ u ∈ x, u.gate = s.gate → u.number ≤ s.number) ∧ s.number ≤ 4000 ∧ ∃ n, 1 ≤ n ∧ n < s.number ∧ seenB (gateL x s.gate) n = false ∧ b = gapB s.gate n s.number

theorem refBl_iff {gone : List GoneT} {st : Int} {x : List Scn} {b : Blm} : IsBl gone st x b ↔ ∃ pre s post, x = pre ++ s :: post ∧ (RefBl gone st x pre s b ∨ RefGap x pre s b) := by
  constructor
  · rintro (⟨g, hb | ⟨s, t, hs, ht, hlt, hno, htm, rfl⟩ | ⟨u, n, hu, hm, h4, h1, h2, h3, rfl⟩⟩ | ⟨k, ⟨s, hs, h1, h2, h3, h4, rfl⟩ | ⟨pre, t, s, post, e, hs, ht, hg, rfl⟩ | ⟨pre, t, s, post, e, hs, ht, hg, hn, rfl⟩⟩)
    · obtain ⟨pre, s, post, e, rfl, h1, h2⟩ := fork_gate.mp hb
      exact ⟨pre, s, post, e, Or.inl (Or.inl ⟨h1, h2⟩)⟩
    · obtain ⟨pre, post, e, rfl, h1⟩ := first_gate.mp hs
      refine ⟨pre, s, post, e, Or.inl (Or.inr (Or.inl ⟨h1, t, ht, hlt, fun u hu hg hn => ?_, htm, rfl⟩))⟩
      rcases Int.lt_or_le t.number u.number with h | h
      · exact absurd ⟨h, hn⟩ (hno u (gate_mem.mpr ⟨hu, hg⟩))
      · exact h
    · have : seenB (firstL (gateL x g)) u.number = true := by rw [first_seen]; exact seen_iff.mpr ⟨u, hu, rfl⟩
      obtain ⟨s, hs, e⟩ := seen_iff.mp this
      obtain ⟨pre, post, e2, rfl, h5⟩ := first_gate.mp hs
      have hug := (gate_mem.mp hu).2
      exact ⟨pre, s, post, e2, Or.inr ⟨h5, fun v hv hg => by rw [e]; exact hm v (gate_mem.mpr ⟨hv, hg⟩), by omega, n, h1, by omega, h3, by rw [e, hug]⟩⟩
    · obtain ⟨hx, hw, rfl⟩ := way_mem.mp hs
      obtain ⟨pre, post, e⟩ := List.append_of_mem hx
      exact ⟨pre, s, post, e, Or.inl (Or.inr (Or.inr (Or.inl ⟨late_iff.mpr ⟨h1, h2, h3, h4⟩, rfl⟩)))⟩
    · obtain ⟨p, q, e2, hw, rfl, hl⟩ := pair_way.mp ⟨pre, post, e⟩
      exact ⟨p, s, q, e2, Or.inl (Or.inr (Or.inr (Or.inr ⟨hs, t, hl, pair_mem.mpr ⟨ht, Or.inl ⟨hg, rfl⟩⟩⟩)))⟩
    · obtain ⟨p, q, e2, hw, rfl, hl⟩ := pair_way.mp ⟨pre, post, e⟩
      exact ⟨p, s, q, e2, Or.inl (Or.inr (Or.inr (Or.inr ⟨hs, t, hl, pair_mem.mpr ⟨ht, Or.inr ⟨hg, hn, rfl⟩⟩⟩)))⟩
  · rintro ⟨pre, s, post, e, (⟨h1, rfl⟩ | ⟨h1, t, ht, hlt, hno, htm, rfl⟩ | ⟨hl, rfl⟩ | ⟨hs, t, hl, hb⟩) | ⟨h1, hm, h4, n, h2, h3, h5, rfl⟩⟩
    · exact Or.inl ⟨s.gate, Or.inl (fork_gate.mpr ⟨pre, s, post, e, rfl, h1, rfl⟩)⟩
    · refine Or.inl ⟨s.gate, Or.inr (Or.inl ⟨s, t, first_gate.mpr ⟨pre, post, e, rfl, h1⟩, ht, hlt, fun u hu hb => ?_, htm, rfl⟩)⟩
      have hu := gate_mem.mp hu
      have := hno u hu.1 hu.2 hb.2
      omega
    · obtain ⟨a, b, c, d⟩ := late_iff.mp hl
      exact Or.inr ⟨s.serial, Or.inl ⟨s, way_mem.mpr ⟨by rw [e]; simp, way_kind (Or.inl a), rfl⟩, a, b, c, d, rfl⟩⟩
    · obtain ⟨p, q, e2⟩ := pair_way.mpr ⟨pre, post, e, way_kind (Or.inl hs), rfl, hl⟩
      obtain ⟨ht, ⟨hg, rfl⟩ | ⟨hg, hn, rfl⟩⟩ := pair_mem.mp hb
      · exact Or.inr ⟨s.serial, Or.inr (Or.inl ⟨p, t, s, q, e2, hs, ht, hg, rfl⟩)⟩
      · exact Or.inr ⟨s.serial, Or.inr (Or.inr ⟨p, t, s, q, e2, hs, ht, hg, hn, rfl⟩)⟩
    · exact Or.inl ⟨s.gate, Or.inr (Or.inr ⟨s, n, gate_mem.mpr ⟨by rw [e]; simp, rfl⟩, fun v hv => hm v (gate_mem.mp hv).1 (gate_mem.mp hv).2, h4, h2, h3, h5, rfl⟩)⟩

/-- Inside, the reference's way: an admission behind which its title is not seen. -/
theorem refIn_iff {x : List Scn} {k : Int} : IsIn x k ↔ ∃ pre s post, x = pre ++ s :: post ∧ s.kind = 1 ∧ s.serial = k ∧ wayL post k = [] := by
  constructor
  · rintro ⟨s, hl, hs⟩
    obtain ⟨ys, e⟩ := List.getLast?_eq_some_iff.mp hl
    unfold wayL at e
    obtain ⟨l1, l2, rfl, h1, h2⟩ := List.filter_eq_append_iff.mp e
    obtain ⟨m1, m2, rfl, h3, h4, h5⟩ := List.filter_eq_cons_iff.mp h2
    have hk := way_mem.mp (List.mem_of_getLast? hl)
    exact ⟨l1 ++ m1, s, m2, by simp, hs, hk.2.2, h5⟩
  · rintro ⟨pre, s, post, rfl, hs, rfl, h⟩
    refine ⟨s, ?_, hs⟩
    rw [way_app, way_cons, if_pos ⟨way_kind (Or.inl hs), rfl⟩, h]
    simp
end Go.Proofs.Ytpmoelkblngamaa

namespace Go.Proofs.Ytpmoelkblngamaa
open Go.RowKit

def bs (l : List UInt8) : ByteArray := ⟨l.toArray⟩

theorem bs_size (l : List UInt8) : (bs l).size = l.length := by show l.toArray.size = _; simp

theorem bs_inj {x y : List UInt8} : bs x = bs y ↔ x = y := by
  constructor
  · intro h
    have h2 : (bs x).data.toList = (bs y).data.toList := by rw [h]
    simpa [bs] using h2
  · intro h; rw [h]

theorem bs_list (x : List UInt8) : (bs x).data.toList = x := by show x.toArray.toList = x; simp

theorem bs_toList (x : List UInt8) : (bs x).toList = x := by rw [ByteArray.toList_eq]; exact bs_list x

theorem bs_beq (x y : List UInt8) : ((bs x).toList == (bs y).toList) = decide (x = y) := by
  rw [bs_toList, bs_toList]
  by_cases h : x = y
  · subst h; simp
  · simp [h]

theorem bs_of (s : ByteArray) : s = bs s.data.toList := by unfold bs; simp
end Go.Proofs.Ytpmoelkblngamaa
