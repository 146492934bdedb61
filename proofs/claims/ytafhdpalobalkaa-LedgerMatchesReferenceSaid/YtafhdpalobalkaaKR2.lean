/- What an argument's reading gives: accounts. -/
import Derived.Test.YtafhdpalobalkaaKR
import Derived.Test.YtafhdpalobalkaaLF4
namespace Go.Proofs.Ytafhdpalobalkaa
open Go.ChangeShapes Go.WideShapes Go.ChangeAt Go.RowKit Go.Deep Go.Joins Go.IntWalk

section
variable {H : Type} {enc : TypeId × Value → H} {w : World} {base : Nat} {held : Bool}

set_option maxRecDepth 100000 in
theorem accounts_read {fuel : Nat} {v : Value} {x : DataW H × List MemPlace} (h : DataW.trod enc Try.prog w base (fun _ => true) held fuel 23 [v] = some x) :
    ∃ (ra : Option Addr) (n c : Nat) (l : List AccT), v = .slice ra n c ∧ n ≤ 9223372036854775807 ∧ Recs AccE w ra n l ∧ ∀ a ∈ l, WfA a := by
  rcases open_slice_pairs Try.underlying23 Try.underlying39 (by kernel_rfl) rfl rfl (by kernel_rfl) (by kernel_rfl) h with ⟨hcs, _⟩ | ⟨a, len, cap, m, fu, V0, V1, D0, D1, P0, P1, hcs, _, hl, hm, hmm, _, hx⟩
  · simp at hcs
    subst hcs
    exact ⟨none, 0, 0, [], rfl, by omega, Recs.none _, fun i hi => by simp at hi⟩
  · simp at hcs
    subst hcs
    simp only [if_true] at hmm
    subst hmm
    obtain ⟨b, o, s⟩ := a
    unfold maxLen at hm
    obtain ⟨F, hF⟩ := choose_lt (α := AccT) (p := fun i p => V0 i = .int .i64 p.1 ∧ V1 i = .string (bs p.2) ∧ WfA p) (n := len) (fun i hi => by
      obtain ⟨_, _, h0, h1⟩ := hx i (by omega)
      obtain ⟨k, e0, _, hk⟩ := DataW.trod_int Try.underlying3 h0
      obtain ⟨t, e1, _, ht⟩ := DataW.trod_string Try.underlying9 h1
      simp only [List.cons.injEq, and_true] at e0 e1
      exact ⟨(k, t.data.toList), e0, by rw [← bs_of]; exact e1, hk, by simpa using ht⟩)
    have hlen : ((List.range len).map F).length = len := by simp
    have hget : ∀ i (hi : i < len), ((List.range len).map F)[i]'(by rw [hlen]; exact hi) = F i := fun i hi => by simp
    refine ⟨some ⟨b, o, s⟩, len, m, (List.range len).map F, rfl, by omega, ⟨hlen, fun i hi => ?_⟩, fun x hx => ?_⟩
    · have hs : s = none := whole_of (by simpa using (hx 0 (by omega)).1)
      subst hs
      refine ⟨b, o, rfl, fun j hj => ?_⟩
      obtain ⟨g0, g1, _⟩ := hx i (by omega)
      obtain ⟨e0, e1, _⟩ := hF i hi
      rw [add_whole] at g0 g1
      rw [rc_eq _ _ (by rw [hlen]; exact hi), hget i hi]
      match j, hj with
      | 0, _ => exact g0.trans (by rw [e0]; rfl)
      | 1, _ => exact g1.trans (by rw [e1]; rfl)
    · obtain ⟨i, hi, rfl⟩ := List.mem_map.mp hx
      exact (hF i (List.mem_range.mp hi)).2.2

theorem accounts_arg {r : Reach} {b0 : Nat} {v : Value} {d : DataW H} {p : List MemPlace} (hv : Value.okWide Try.prog w r b0 23 v)
    (h : DataW.Trod enc Try.prog w base (fun _ => true) held 23 v d p) :
    ∃ (ra : Option Addr) (n c : Nat) (l : List AccT), v = .slice ra n c ∧ n ≤ 9223372036854775807 ∧ Recs AccE w ra n l ∧ ∀ a ∈ l, WfA a := by
  obtain ⟨a, len, cap, rfl⟩ := okWide_slice Try.underlying23 hv
  obtain ⟨m, hm⟩ := h
  exact accounts_read hm
end
end Go.Proofs.Ytafhdpalobalkaa
