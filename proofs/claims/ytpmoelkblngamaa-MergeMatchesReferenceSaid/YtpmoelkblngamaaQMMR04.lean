/- merge: a copied title, lies: plain. -/
import Derived.Test.YtpmoelkblngamaaQMMR03

namespace Go.Proofs.Ytpmoelkblngamaa

theorem klt_gate {a b : Scn} (h : a.time = b.time) (g : a.gate < b.gate) : KLt KS a b := by
  show (a.time :: a.gate :: _) < (b.time :: b.gate :: _)
  rw [h]
  exact List.Lex.cons (List.Lex.rel g)

theorem gate_app (a b : List Scn) (g : Int) : gateL (a ++ b) g = gateL a g ++ gateL b g := List.filter_append ..
theorem way_app (a b : List Scn) (k : Int) : wayL (a ++ b) k = wayL a k ++ wayL b k := List.filter_append ..
theorem gate_cons (s : Scn) (l : List Scn) (g : Int) : gateL (s :: l) g = if s.gate = g then s :: gateL l g else gateL l g := by
  unfold gateL
  rw [List.filter_cons]
  simp
theorem way_cons (s : Scn) (l : List Scn) (k : Int) : wayL (s :: l) k = if wayB s = true ∧ s.serial = k then s :: wayL l k else wayL l k := by
  unfold wayL
  rw [List.filter_cons]
  simp

section
variable {h : Hon} (hi : HonInv h) {x : Scn} {pre post : List Scn} (he : h.out = pre ++ x :: post) (hx : x.kind = 1)

def newS (x : Scn) : Scn := ⟨5, 1, x.time, x.serial, 1, []⟩

include he
theorem copy_x : x ∈ h.out := by rw [he]; simp
include hi

theorem copy_strict : Strict KS (pre ++ x :: newS x :: post) := by
  have ht := hi.times
  have hxg := hi.gates x (copy_x he)
  rw [he] at ht
  obtain ⟨h1, h2, h3⟩ := List.pairwise_append.mp ht
  have h2' := List.pairwise_cons.mp h2
  refine List.pairwise_append.mpr ⟨h1.imp klt_time, List.pairwise_cons.mpr ⟨fun y hy => ?_, List.pairwise_cons.mpr ⟨fun y hy => ?_, h2'.2.imp klt_time⟩⟩, fun a ha b hb => ?_⟩
  · rcases List.mem_cons.mp hy with rfl | hy
    · exact klt_gate rfl (by show x.gate < 5; omega)
    · exact klt_time (h2'.1 y hy)
  · exact klt_time (show (newS x).time < y.time from h2'.1 y hy)
  · have hax : a.time < x.time := h3 a ha x (List.mem_cons_self ..)
    rcases List.mem_cons.mp hb with rfl | hb
    · exact klt_time hax
    · rcases List.mem_cons.mp hb with rfl | hb
      · exact klt_time hax
      · exact klt_time (h3 a ha b (List.mem_cons_of_mem _ hb))

theorem copy_set : setK KS (h.out ++ [newS x]) = pre ++ x :: newS x :: post := by
  refine (setK_eq KS (copy_strict hi he) fun a => ?_).symm
  rw [he]
  simp only [List.mem_append, List.mem_cons, List.not_mem_nil, or_false]
  constructor
  · rintro (h | h | h | h)
    · exact Or.inl (Or.inl h)
    · exact Or.inl (Or.inr (Or.inl h))
    · exact Or.inr h
    · exact Or.inl (Or.inr (Or.inr h))
  · rintro ((h | h | h) | h)
    · exact Or.inl h
    · exact Or.inr (Or.inl h)
    · exact Or.inr (Or.inr (Or.inr h))
    · exact Or.inr (Or.inr (Or.inl h))

theorem copy_gate (g : Int) (b : Blm) : ¬ GateBl (gateL (pre ++ x :: newS x :: post) g) b := by
  by_cases hg : g = 5
  · subst hg
    have h0 : ∀ s ∈ h.out, ¬ s.gate = 5 := fun s hs e => by have := hi.gates s hs; omega
    have hn : gateL (pre ++ x :: newS x :: post) 5 = [newS x] := by
      have h1 : gateL pre 5 = [] := List.eq_nil_iff_forall_not_mem.mpr fun s hs => h0 s (by rw [he]; exact List.mem_append_left _ (gate_mem.mp hs).1) (gate_mem.mp hs).2
      have h2 : gateL post 5 = [] := List.eq_nil_iff_forall_not_mem.mpr fun s hs => h0 s (by rw [he]; exact List.mem_append_right _ (List.mem_cons_of_mem _ (gate_mem.mp hs).1)) (gate_mem.mp hs).2
      rw [gate_app, gate_cons, if_neg (h0 x (copy_x he)), gate_cons, if_pos (show (newS x).gate = 5 from rfl), h1, h2]
      rfl
    rw [hn]
    rintro (⟨p, s, q, e, hs, _⟩ | ⟨s, t, hs, ht, hlt, _⟩ | ⟨u, n, hu, _, _, h1, h2, _⟩)
    · cases p with
      | nil => simp [seenB] at hs
      | cons a p => simp at e
    · have hs := List.mem_singleton.mp (first_mem _ s hs)
      have ht := List.mem_singleton.mp (first_mem _ t ht)
      rw [hs, ht] at hlt
      omega
    · have hu := List.mem_singleton.mp hu
      rw [hu] at h2
      have : (newS x).number = 1 := rfl
      omega
  · have hn : gateL (pre ++ x :: newS x :: post) g = gateL h.out g := by
      rw [he, gate_app, gate_app, gate_cons, gate_cons, gate_cons, if_neg (show ¬ (newS x).gate = g from fun e => hg e.symm)]
    rw [hn]
    exact hon_gate_bl hi g b

include hx
theorem copy_way (k : Int) (b : Blm) (hb : WayBl [] 0 (wayL (pre ++ x :: newS x :: post) k) b) : b = copyB (newS x) x := by
  have hwx : wayB x = true := way_kind (Or.inl hx)
  have hxg := hi.gates x (copy_x he)
  by_cases hk : x.serial = k
  · have e1 : wayL h.out k = wayL pre k ++ x :: wayL post k := by rw [he, way_app, way_cons, if_pos ⟨hwx, hk⟩]
    have e2 : wayL (pre ++ x :: newS x :: post) k = wayL pre k ++ x :: newS x :: wayL post k := by
      rw [way_app, way_cons, if_pos ⟨hwx, hk⟩, way_cons, if_pos (show wayB (newS x) = true ∧ (newS x).serial = k from ⟨rfl, hk⟩)]
    have ha := hon_way hi k
    rw [e1] at ha
    rw [e2] at hb
    generalize wayL pre k = A at *
    generalize wayL post k = B at *
    have key : ∀ P t s Q, A ++ x :: newS x :: B = P ++ t :: s :: Q → s.kind = 1 → t.kind = 1 → t = x ∧ s = newS x := by
      intro P t s Q e hs ht
      have hlen : (A ++ x :: B).length = A.length + 1 + B.length := by simp; omega
      rw [hlen] at ha
      have kA : ∀ i, i < A.length + 1 + B.length → ((A ++ x :: B).map (·.kind))[i]? = some (if i % 2 = 0 then 1 else 2) := fun i hi => by rw [ha]; exact alt_get hi
      have hxA := kA A.length (by omega)
      have : ((A ++ x :: B).map (·.kind))[A.length]? = some x.kind := by simp
      rw [this, hx, Option.some.injEq] at hxA
      have hpar : A.length % 2 = 0 := by
        by_cases hm : A.length % 2 = 0
        · exact hm
        · rw [if_neg hm] at hxA; omega
      have g1 : (A ++ x :: newS x :: B)[P.length]? = some t := by rw [e]; simp
      have g2 : (A ++ x :: newS x :: B)[P.length + 1]? = some s := by rw [e]; simp
      rcases Nat.lt_trichotomy P.length A.length with hc | hc | hc
      · have k1 := kA P.length (by omega)
        have k2 := kA (P.length + 1) (by omega)
        have c1 : (A ++ x :: B)[P.length]? = some t := by
          rw [← g1, List.getElem?_append_left hc, List.getElem?_append_left hc]
        have c2 : (A ++ x :: B)[P.length + 1]? = some s := by
          rw [← g2]
          by_cases h1 : P.length + 1 < A.length
          · rw [List.getElem?_append_left h1, List.getElem?_append_left h1]
          · rw [List.getElem?_append_right (by omega), List.getElem?_append_right (by omega), show P.length + 1 - A.length = 0 from by omega]
            rfl
        rw [List.getElem?_map, c1, Option.map_some, Option.some.injEq] at k1
        rw [List.getElem?_map, c2, Option.map_some, Option.some.injEq] at k2
        by_cases hm : P.length % 2 = 0
        · rw [if_neg (by omega)] at k2; omega
        · rw [if_neg hm] at k1; omega
      · rw [hc, List.getElem?_append_right (Nat.le_refl _), Nat.sub_self] at g1
        rw [hc, List.getElem?_append_right (by omega), show A.length + 1 - A.length = 1 from by omega] at g2
        exact ⟨(Option.some.inj g1).symm, (Option.some.inj g2).symm⟩
      · have hQ : P.length + 1 < (A ++ x :: newS x :: B).length := (List.getElem?_eq_some_iff.mp g2).1
        have hQ : P.length + 1 < A.length + (B.length + 1 + 1) := by simpa using hQ
        have k2 := kA P.length (by omega)
        have c2 : (A ++ x :: B)[P.length]? = some s := by
          rw [← g2, List.getElem?_append_right (by omega), List.getElem?_append_right (by omega), show P.length + 1 - A.length = (P.length - A.length) + 1 from by omega, show P.length - A.length = (P.length - A.length - 1) + 1 from by omega]
          rfl
        rw [List.getElem?_map, c2, Option.map_some, Option.some.injEq] at k2
        by_cases hm : P.length = A.length + 1
        · rw [if_neg (by omega)] at k2; omega
        · have k1 := kA (P.length - 1) (by omega)
          have c1 : (A ++ x :: B)[P.length - 1]? = some t := by
            rw [← g1, List.getElem?_append_right (by omega), List.getElem?_append_right (by omega), show P.length - A.length = (P.length - A.length - 2) + 1 + 1 from by omega, show P.length - 1 - A.length = (P.length - A.length - 2) + 1 from by omega]
            rfl
          rw [List.getElem?_map, c1, Option.map_some, Option.some.injEq] at k1
          by_cases hm : P.length % 2 = 0
          · rw [if_neg (by omega)] at k1; omega
          · rw [if_neg hm] at k2; omega
    rcases hb with ⟨s, _, _, h1, _⟩ | ⟨P, t, s, Q, e, hs, ht, _, hb⟩ | ⟨P, t, s, Q, e, hs, ht, hg, _⟩
    · rw [since_nil] at h1; omega
    · obtain ⟨rfl, rfl⟩ := key P t s Q e hs ht
      exact hb
    · obtain ⟨rfl, rfl⟩ := key P t s Q e hs ht
      have : (newS t).gate = 5 := rfl
      omega
  · have hn : wayL (pre ++ x :: newS x :: post) k = wayL h.out k := by
      rw [he, way_app, way_app, way_cons, way_cons, way_cons, if_neg (show ¬ (wayB (newS x) = true ∧ (newS x).serial = k) from fun e => hk e.2)]
    rw [hn] at hb
    exact absurd hb (hon_way_bl hi 0 k b)

/-- Just one blame: for the copy. -/
theorem copy_bl (b : Blm) : IsBl [] 0 (setK KS (h.out ++ [newS x])) b ↔ b = copyB (newS x) x := by
  rw [copy_set hi he]
  constructor
  · rintro (⟨g, hb⟩ | ⟨k, hb⟩)
    · exact absurd hb (copy_gate hi he g b)
    · exact copy_way hi he hx k b hb
  · rintro rfl
    have hwx : wayB x = true := way_kind (Or.inl hx)
    have hxg := hi.gates x (copy_x he)
    refine Or.inr ⟨x.serial, Or.inr (Or.inl ⟨wayL pre x.serial, x, newS x, wayL post x.serial, ?_, rfl, hx, ?_, rfl⟩)⟩
    · rw [way_app, way_cons, if_pos ⟨hwx, rfl⟩, way_cons, if_pos (show wayB (newS x) = true ∧ (newS x).serial = x.serial from ⟨rfl, rfl⟩)]
    · have : (newS x).gate = 5 := rfl
      omega
end
end Go.Proofs.Ytpmoelkblngamaa
