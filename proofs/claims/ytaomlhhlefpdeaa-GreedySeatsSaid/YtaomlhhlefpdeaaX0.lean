/- A slice of slices of pairs, each row in a block of its own: what an append to one row, stored back, leaves of the others. -/
import Derived.Test.YtaomlhhlefpdeaaW0
import Derived.Maps.AppendAt
namespace Go.Proofs.Ytaomlhhlefpdeaa
open Go.RowKit

/-- A row of the list, behind a name that simp does not open. -/
def qx (Q : List (List (Int × Int))) (r : Nat) : List (Int × Int) := Q.getD r []

theorem qx_set (Q : List (List (Int × Int))) (r s : Nat) (x : List (Int × Int)) (h : r < Q.length) : qx (Q.set r x) s = if r = s then x else qx Q s := by
  unfold qx
  simp only [List.getD_eq_getElem?_getD, List.getElem?_set, h, if_true]
  split <;> rfl

/-- The block g holds slices; the one at r is the row r of Q, in a block of its own, from B on. -/
def Rows2 (w : World) (B g : Nat) (Q : List (List (Int × Int))) : Prop :=
  g < B ∧ ∃ vs : Array Value, w.heap[g]? = some (.cells vs 28 (0, 0)) ∧ (∀ r, r < Q.length → ∃ v, vs[r]? = some v ∧ w.ownsRow B 39 2 v (qx Q r).length (pcells (qx Q r))) ∧
    ∀ r s v u, r < Q.length → s < Q.length → r ≠ s → vs[r]? = some v → vs[s]? = some u → v.ownBlock = none ∨ v.ownBlock ≠ u.ownBlock

theorem Rows2.below {w w' : World} {B g : Nat} {Q : List (List (Int × Int))} (h : Rows2 w B g Q) (hb : Below w.heap.size w w') : Rows2 w' B g Q := by
  obtain ⟨h0, vs, h1, h2, h3⟩ := h
  refine ⟨h0, vs, ?_, fun r hr => ?_, h3⟩
  · rw [hb.block g (lt_of_block h1)]; exact h1
  · obtain ⟨v, e, ho⟩ := h2 r hr
    refine ⟨v, e, ho.1, ?_⟩
    rcases ho.2 with hn | ⟨b, cap, cur, rfl, hbb, hgg, rest⟩
    · exact .inl hn
    · exact .inr ⟨b, cap, cur, rfl, hbb, by rw [hb.block b (lt_of_block hgg)]; exact hgg, rest⟩

theorem Rows2.get {w : World} {B g : Nat} {Q : List (List (Int × Int))} (h : Rows2 w B g Q) (r : Nat) (hr : r < Q.length) :
    ∃ v, w.cell? ⟨g, r, none⟩ = some v ∧ w.ownsRow B 39 2 v (qx Q r).length (pcells (qx Q r)) := by
  obtain ⟨_, vs, h1, h2, _⟩ := h
  obtain ⟨v, e, ho⟩ := h2 r hr
  refine ⟨v, ?_, ho⟩
  simp only [World.cell?, h1]
  exact e

theorem Rows2.free {w : World} {B g : Nat} {Q : List (List (Int × Int))} (h : Rows2 w B g Q) (r : Nat) : w.frozen? ⟨g, r, none⟩ = false := by
  obtain ⟨_, vs, h1, _⟩ := h
  simp only [World.frozen?, h1]
  simp

theorem pcells_append (A C : List (Int × Int)) : pcells (A ++ C) = pcells A ++ pcells C := by
  induction A with
  | nil => rfl
  | cons a A ih => rw [List.cons_append, pcells, pcells, ih]; rfl

/-- One pair is appended to the row r, and the row is stored back. -/
theorem Rows2.push {w w1 : World} {B g : Nat} {Q : List (List (Int × Int))} (h : Rows2 w B g Q) (r : Nat) (hr : r < Q.length) (v v' : Value) (x : Int × Int) (hv : w.cell? ⟨g, r, none⟩ = some v)
    (hown : w1.ownsRow B 39 2 v' ((qx Q r).length + 1) (pcells (qx Q r) ++ pcells [x])) (hgrow : w.grownBy w1 v.ownBlock) (hat : v'.ownBlock = v.ownBlock ∨ ∃ b, v'.ownBlock = some b ∧ w.heap.size ≤ b) :
    Rows2 (w1.setCell ⟨g, r, none⟩ v') B g (Q.set r (qx Q r ++ [x])) := by
  obtain ⟨h0, vs, h1, h2, h3⟩ := h
  have hvr : vs[r]? = some v := by simp only [World.cell?, h1] at hv; exact hv
  have hg1 : w1.heap[g]? = some (.cells vs 28 (0, 0)) := by
    rw [hgrow.block g (lt_of_block h1) (fun e => ?_)]
    · exact h1
    · obtain ⟨u, e1, ho⟩ := h2 r hr
      rw [hvr] at e1
      obtain rfl : v = u := by simpa using e1
      have := (ho.lt g e.symm).1
      omega
  have hk : ∀ k, k ≠ g → (w1.setCell ⟨g, r, none⟩ v').heap[k]? = w1.heap[k]? := fun k hk => Below.heap_setCell _ _ _ _ hk
  refine ⟨h0, vs.setIfInBounds r v', ?_, fun s hs => ?_, fun s t u u' hs ht hst e1 e2 => ?_⟩
  · simp [World.setCell, Array.getElem?_modify, hg1]
  · rw [List.length_set] at hs
    by_cases hrs : r = s
    · subst hrs
      rw [qx_set _ _ _ _ hr, if_pos rfl]
      have hrz : r < vs.size := (Array.getElem?_eq_some_iff.1 hvr).1
      refine ⟨v', by simp [hrz], ?_⟩
      rw [List.length_append, pcells_append]
      refine ⟨hown.1, ?_⟩
      rcases hown.2 with hn | ⟨b, cap, cur, rfl, hbb, hgg, rest⟩
      · exact .inl hn
      · exact .inr ⟨b, cap, cur, rfl, hbb, by rw [hk b (by omega)]; exact hgg, rest⟩
    · rw [qx_set _ _ _ _ hr, if_neg hrs]
      obtain ⟨u, e, ho⟩ := h2 s hs
      refine ⟨u, by rw [Array.getElem?_setIfInBounds, if_neg hrs]; exact e, ?_⟩
      have ho1 := ho.kept hgrow (h3 s r u v hs hr (fun e => hrs e.symm) e hvr)
      refine ⟨ho1.1, ?_⟩
      rcases ho1.2 with hn | ⟨b, cap, cur, rfl, hbb, hgg, rest⟩
      · exact .inl hn
      · exact .inr ⟨b, cap, cur, rfl, hbb, by rw [hk b (by omega)]; exact hgg, rest⟩
  · rw [List.length_set] at hs ht
    have fresh : ∀ y u, y < Q.length → y ≠ r → vs[y]? = some u → (u.ownBlock = none ∨ u.ownBlock ≠ v'.ownBlock) ∧ (v'.ownBlock = none ∨ v'.ownBlock ≠ u.ownBlock) := by
      intro y u hy hyr e
      have a1 := h3 y r u v hy hr hyr e hvr
      have a2 := h3 r y v u hr hy (fun e => hyr e.symm) hvr e
      rcases hat with hh | ⟨b, hb, hbl⟩
      · rw [hh]; exact ⟨a1, a2⟩
      · rw [hb]
        obtain ⟨u', e', ho⟩ := h2 y hy
        rw [e] at e'
        obtain rfl : u = u' := by simpa using e'
        cases hu : u.ownBlock with
        | none => simp
        | some k => have := (ho.lt k hu).2; simp; omega
    by_cases hrs : r = s
    · subst hrs
      have hrz : r < vs.size := (Array.getElem?_eq_some_iff.1 hvr).1
      rw [Array.getElem?_setIfInBounds, if_pos rfl, if_pos hrz] at e1
      rw [Array.getElem?_setIfInBounds, if_neg hst] at e2
      obtain rfl : v' = u := by simpa using e1
      exact (fresh t u' ht (fun e => hst e.symm) e2).2
    · rw [Array.getElem?_setIfInBounds, if_neg hrs] at e1
      by_cases hrt : r = t
      · subst hrt
        have hrz : r < vs.size := (Array.getElem?_eq_some_iff.1 hvr).1
        rw [Array.getElem?_setIfInBounds, if_pos rfl, if_pos hrz] at e2
        obtain rfl : v' = u' := by simpa using e2
        exact (fresh s u hs (fun e => hrs e.symm) e1).1
      · rw [Array.getElem?_setIfInBounds, if_neg hrt] at e2
        exact h3 s t u u' hs ht hst e1 e2
end Go.Proofs.Ytaomlhhlefpdeaa
