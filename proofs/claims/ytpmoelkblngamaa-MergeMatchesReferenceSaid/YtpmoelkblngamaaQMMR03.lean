/- merge: the logs of honest gates: no blames; who is inside. -/
import Derived.Test.YtpmoelkblngamaaQMMR02

namespace Go.Proofs.Ytpmoelkblngamaa

theorem klt_time {a b : Scn} (h : a.time < b.time) : KLt KS a b := List.Lex.rel h

theorem pw_cases {α : Type} {R : α → α → Prop} {l : List α} (h : l.Pairwise R) {s t : α} (hs : s ∈ l) (ht : t ∈ l) : s = t ∨ R s t ∨ R t s := by
  induction l with
  | nil => cases hs
  | cons x l ih =>
    have h' := List.pairwise_cons.mp h
    rcases List.mem_cons.mp hs with e | hs
    · rcases List.mem_cons.mp ht with e2 | ht
      · exact Or.inl (e.trans e2.symm)
      · exact Or.inr (Or.inl (by rw [e]; exact h'.1 t ht))
    · rcases List.mem_cons.mp ht with e2 | ht
      · exact Or.inr (Or.inr (by rw [e2]; exact h'.1 s hs))
      · exact ih h'.2 hs ht

theorem gate_mem {x : List Scn} {g : Int} {s : Scn} : s ∈ gateL x g ↔ s ∈ x ∧ s.gate = g := by
  unfold gateL
  rw [List.mem_filter]
  simp
theorem way_mem {x : List Scn} {k : Int} {s : Scn} : s ∈ wayL x k ↔ s ∈ x ∧ wayB s = true ∧ s.serial = k := by
  unfold wayL
  rw [List.mem_filter, Bool.and_eq_true, decide_eq_true_eq]
theorem way_kind {s : Scn} (h : s.kind = 1 ∨ s.kind = 2) : wayB s = true := by
  unfold wayB
  rcases h with h | h <;> simp [h]

section
variable {h : Hon} (hi : HonInv h)
include hi

theorem hon_strict : Strict KS h.out := hi.times.imp klt_time

theorem hon_gate (g : Int) : ∃ m : Nat, (gateL h.out g).map (·.number) = (List.range' 1 m).map Int.ofNat := by
  by_cases hg : 0 ≤ g
  · obtain ⟨n, rfl⟩ : ∃ n : Nat, g = n := ⟨g.toNat, by omega⟩
    exact ⟨_, hi.nums n⟩
  · refine ⟨0, ?_⟩
    have : gateL h.out g = [] := List.eq_nil_iff_forall_not_mem.mpr fun s hs => by
      have := gate_mem.mp hs
      have := hi.gates s this.1
      omega
    rw [this]
    rfl

theorem hon_gate_pw (g : Int) : (gateL h.out g).Pairwise fun a b => a.number < b.number ∧ a.time < b.time := by
  obtain ⟨m, hm⟩ := hon_gate hi g
  have h1 : (gateL h.out g).Pairwise fun a b => a.number < b.number := by
    have : ((List.range' 1 m).map Int.ofNat).Pairwise (· < ·) := by
      rw [List.pairwise_map]
      exact (List.pairwise_lt_range' (s := 1) (n := m)).imp fun h => by simpa using h
    rw [← hm, List.pairwise_map] at this
    exact this
  have h2 : (gateL h.out g).Pairwise fun a b => a.time < b.time := hi.times.sublist List.filter_sublist
  exact h1.and h2

theorem hon_gate_nodup (g : Int) : ((gateL h.out g).map (·.number)).Nodup := by
  rw [List.nodup_iff_pairwise_ne, List.pairwise_map]
  exact (hon_gate_pw hi g).imp fun h => by omega

theorem hon_gate_bl (g : Int) (b : Blm) : ¬ GateBl (gateL h.out g) b := by
  have hpw := hon_gate_pw hi g
  have hnd := hon_gate_nodup hi g
  obtain ⟨m, hm⟩ := hon_gate hi g
  generalize gateL h.out g = l at *
  rintro (⟨pre, s, post, rfl, hs, _⟩ | ⟨s, t, hs, ht, hlt, _, hti, _⟩ | ⟨u, n, hu, _, _, h1, h2, h3, _⟩)
  · obtain ⟨t, ht, e⟩ := seen_iff.mp hs
    rw [List.map_append, List.nodup_append] at hnd
    exact hnd.2.2 _ (List.mem_map_of_mem ht) s.number (by simp) e
  · rcases pw_cases hpw (first_mem l s hs) (first_mem l t ht) with e | e | e
    · subst e; omega
    · omega
    · omega
  · have hun : u.number ∈ (List.range' 1 m).map Int.ofNat := by rw [← hm]; exact List.mem_map_of_mem hu
    obtain ⟨q, hq, e⟩ := List.mem_map.mp hun
    rw [List.mem_range'_1] at hq
    have e : (q : Int) = u.number := e
    have hn : n ∈ l.map (·.number) := by
      rw [hm]
      exact List.mem_map.mpr ⟨n.toNat, by rw [List.mem_range'_1]; omega, by show ((n.toNat : Nat) : Int) = n; omega⟩
    obtain ⟨t, ht, e2⟩ := List.mem_map.mp hn
    exact seen_not.mp h3 t ht e2

theorem hon_way (k : Int) : (wayL h.out k).map (·.kind) = altK (wayL h.out k).length := by
  by_cases hk : 0 ≤ k
  · obtain ⟨n, rfl⟩ : ∃ n : Nat, k = n := ⟨k.toNat, by omega⟩
    exact (hi.alt n).1
  · have : wayL h.out k = [] := List.eq_nil_iff_forall_not_mem.mpr fun s hs => by
      have := way_mem.mp hs
      have := hi.sers s this.1
      omega
    rw [this]
    rfl

end

theorem alt_get {n i : Nat} (h : i < n) : (altK n)[i]? = some (if i % 2 = 0 then 1 else 2) := by
  unfold altK
  rw [List.getElem?_map, List.getElem?_range h]
  rfl

/-- On an alternating way no admission follows an admission. -/
theorem alt_next {l pre post : List Scn} {t s : Scn} (h : l.map (·.kind) = altK l.length) (e : l = pre ++ t :: s :: post) : ¬ (s.kind = 1 ∧ t.kind = 1) := by
  rintro ⟨hs, ht⟩
  have hl : l.length = pre.length + 1 + 1 + post.length := by rw [e]; simp; omega
  have h1 : (l.map (·.kind))[pre.length]? = some t.kind := by rw [e]; simp
  have h2 : (l.map (·.kind))[pre.length + 1]? = some s.kind := by rw [e]; simp
  rw [h, alt_get (by omega)] at h1 h2
  simp only [Option.some.injEq] at h1 h2
  rw [ht] at h1
  rw [hs] at h2
  by_cases hm : pre.length % 2 = 0
  · rw [if_neg (by omega)] at h2; omega
  · rw [if_neg hm] at h1; omega

theorem since_nil (k : Int) : sinceS [] k = 0 := rfl

theorem hon_way_bl {h : Hon} (hi : HonInv h) (st k : Int) (b : Blm) : ¬ WayBl [] st (wayL h.out k) b := by
  have ha := hon_way hi k
  rintro (⟨s, hs, _, h1, _⟩ | ⟨pre, t, s, post, e, hs, ht, _⟩ | ⟨pre, t, s, post, e, hs, ht, _⟩)
  · rw [since_nil] at h1; omega
  · exact alt_next ha e ⟨hs, ht⟩
  · exact alt_next ha e ⟨hs, ht⟩

/-- Honest gates are not blamed. -/
theorem hon_bl {h : Hon} (hi : HonInv h) (st : Int) (b : Blm) : ¬ IsBl [] st h.out b := by
  rintro (⟨g, hb⟩ | ⟨k, hb⟩)
  · exact hon_gate_bl hi g b hb
  · exact hon_way_bl hi st k b hb

theorem setK_self {l : List Scn} (h : Strict KS l) : setK KS l = l := (setK_eq KS h fun _ => Iff.rfl).symm

theorem alt_last {l : List Scn} (h : l.map (·.kind) = altK l.length) : (∃ s, l.getLast? = some s ∧ s.kind = 1) ↔ l.length % 2 = 1 := by
  rw [List.getLast?_eq_getElem?]
  rcases Nat.eq_zero_or_pos l.length with h0 | h0
  · rw [List.length_eq_zero_iff.mp h0]
    simp
  · have h1 : l.length - 1 < l.length := by omega
    have h2 : (l.map (·.kind))[l.length - 1]? = some (l[l.length - 1]).kind := by rw [List.getElem?_map, List.getElem?_eq_getElem h1]; rfl
    rw [h, alt_get h1, Option.some.injEq] at h2
    rw [List.getElem?_eq_getElem h1]
    constructor
    · rintro ⟨s, e, hs⟩
      have e := Option.some.inj e
      rw [e, hs] at h2
      by_cases hm : (l.length - 1) % 2 = 0
      · omega
      · rw [if_neg hm] at h2; omega
    · intro hm
      rw [if_pos (by omega)] at h2
      exact ⟨_, rfl, h2.symm⟩

/-- Inside: those who passed an odd number of times. -/
theorem hon_in {h : Hon} (hi : HonInv h) (k : Int) : IsIn h.out k ↔ (wayL h.out k).length % 2 = 1 := alt_last (hon_way hi k)

/-- How often a title was shown. -/
def cntS (l : List StepT) (k : Nat) : Nat := (l.filter fun s => decide (s.2.1 = k)).length

theorem hon_len (l : List StepT) (k : Nat) : (wayL (honS l).out k).length = cntS l k := by
  induction l using snoc_ind with
  | h0 => rfl
  | h1 l x ih =>
    have e : honS (l ++ [x]) = honStep (honS l) x := by unfold honS; rw [List.foldl_append]; rfl
    rw [e]
    show (wayL ((honS l).out ++ [_]) k).length = _
    rw [way_snoc, List.length_append, ih]
    unfold cntS
    rw [List.filter_append, List.length_append]
    refine congrArg _ ?_
    have hw : wayB ⟨((1 + x.1 % 4 : Nat) : Int), (((honS l).num (1 + x.1 % 4) + 1 : Nat) : Int), (honS l).now + (1 + (x.2.2 : Int)), (x.2.1 : Int), if (honS l).ins x.2.1 then 2 else 1, []⟩ = true := by
      refine way_kind ?_
      dsimp only
      cases (honS l).ins x.2.1 <;> simp
    by_cases hx : x.2.1 = k
    · rw [if_pos ⟨hw, by dsimp only; omega⟩]
      simp [hx]
    · rw [if_neg (fun h => hx (by have := h.2; dsimp only at this; omega))]
      simp [hx]
end Go.Proofs.Ytpmoelkblngamaa
