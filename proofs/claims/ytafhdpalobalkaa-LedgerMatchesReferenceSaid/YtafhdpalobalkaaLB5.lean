/- ledger: what a range over a map of balances collects: plain. -/
import Derived.Test.YtafhdpalobalkaaLB4
namespace Go.Proofs.Ytafhdpalobalkaa
open Go.RowKit Go.IntWalk Go.Maps Go.ChangeMaps

/-- What has been collected, 'left' being what is to come. -/
structure Part (D : DataW Unit) (f : AccT → Int) (left : Lit → Bool) (L : List PostT) : Prop where
  mem : ∀ x ∈ L, WfA x.1 ∧ f x.1 = x.2 ∧ x.2 ≠ 0 ∧ left (keyL x.1) = false
  all : ∀ a, WfA a → Maps.has D (keyL a) = true → left (keyL a) = false → f a ≠ 0 → (a, f a) ∈ L
  nodup : L.Pairwise (fun x y => x.1 ≠ y.1)

theorem Part.start (D : DataW Unit) (f : AccT → Int) : Part D f (Maps.has D) [] :=
  ⟨fun x hx => by simp at hx, fun a _ h1 h2 => by rw [h1] at h2; simp at h2, List.Pairwise.nil⟩

theorem Part.skip {D : DataW Unit} {f : AccT → Int} {left : Lit → Bool} {L : List PostT} (h : Part D f left L) {a : AccT} (ha : WfA a) (h0 : f a = 0) : Part D f (fun z => left z && !z.sameKey (keyL a)) L := by
  refine ⟨fun x hx => ?_, fun b hb h1 h2 h3 => ?_, h.nodup⟩
  · obtain ⟨m1, m2, m3, m4⟩ := h.mem x hx
    exact ⟨m1, m2, m3, by rw [m4]; rfl⟩
  · cases hl : left (keyL b)
    · exact h.all b hb h1 hl h3
    · rw [hl] at h2
      simp only [Bool.true_and, Bool.not_eq_false'] at h2
      have := key_inj hb ha (WideAt.sameKey_eq h2)
      rw [this] at h3
      exact absurd h0 h3

theorem Part.add {D : DataW Unit} {f : AccT → Int} {left : Lit → Bool} {L : List PostT} (h : Part D f left L) {a : AccT} (ha : WfA a) (hl : left (keyL a) = true) (h0 : f a ≠ 0) : Part D f (fun z => left z && !z.sameKey (keyL a)) (L ++ [(a, f a)]) := by
  refine ⟨fun x hx => ?_, fun b hb h1 h2 h3 => ?_, ?_⟩
  · rcases List.mem_append.mp hx with hx | hx
    · obtain ⟨m1, m2, m3, m4⟩ := h.mem x hx
      exact ⟨m1, m2, m3, by rw [m4]; rfl⟩
    · rw [List.mem_singleton.mp hx]
      exact ⟨ha, rfl, h0, by rw [WideAt.sameKey_self (keyL_is a)]; simp⟩
  · cases hlb : left (keyL b)
    · exact List.mem_append_left _ (h.all b hb h1 hlb h3)
    · rw [hlb] at h2
      simp only [Bool.true_and, Bool.not_eq_false'] at h2
      have := key_inj hb ha (WideAt.sameKey_eq h2)
      rw [this]
      simp
  · rw [List.pairwise_append]
    refine ⟨h.nodup, by simp, fun x hx y hy => ?_⟩
    rw [List.mem_singleton.mp hy]
    intro e
    have := (h.mem x hx).2.2.2
    rw [e] at this
    rw [hl] at this
    simp at this

theorem has_val {D : DataW Unit} {f : AccT → Int} (h : BalD D f) {a : AccT} (ha : WfA a) (hn : Maps.has D (keyL a) = false) : f a = 0 := by
  have h1 := h.val a ha
  have : D.atKey (keyL a) (.lit (.int .i64 0)) = .lit (.int .i64 0) := Maps.atKey_of_not_has hn _
  rw [this] at h1
  simpa using h1.symm

theorem Part.isBal {D : DataW Unit} {f : AccT → Int} {left : Lit → Bool} {L L' : List PostT} (h : Part D f left L) (hD : BalD D f) (hl : ∀ kl, left kl = false) (hz : ∀ a, f a ≠ 0 → WfA a) (hp : L'.Perm L) (hs : L'.Pairwise (fun a b => befA b.1 a.1 = false)) : IsBal L' f := by
  refine ⟨?_, fun x hx => ?_, fun a ha => ?_⟩
  · have hn : L'.Pairwise (fun x y => x.1 ≠ y.1) := (hp.pairwise_iff (fun {_ _} hne => Ne.symm hne)).mpr h.nodup
    have := List.Pairwise.and hs hn
    refine this.imp fun {x y} hxy => ?_
    rcases befA_total hxy.2 with e | e
    · exact e
    · rw [hxy.1] at e; simp at e
  · obtain ⟨_, m2, m3, _⟩ := h.mem x (hp.mem_iff.mp hx)
    exact ⟨m2, m3⟩
  · refine hp.mem_iff.mpr ?_
    have hw := hz a ha
    cases hh : Maps.has D (keyL a)
    · exact absurd (has_val hD hw hh) ha
    · exact h.all a hw hh (hl _) ha
end Go.Proofs.Ytafhdpalobalkaa
