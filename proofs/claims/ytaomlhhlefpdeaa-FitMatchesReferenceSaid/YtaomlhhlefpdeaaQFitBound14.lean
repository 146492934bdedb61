/- Pairs of integers as cells in a row: what an append of a slice of pairs lays; A slice of slices of pairs, each row in a block of its own: what an append to one row, stored back, leaves of the others. -/
import Derived.Test.YtaomlhhlefpdeaaQFitBound13
import Derived.Maps.AppendAt

namespace Go.Proofs.Ytaomlhhlefpdeaa
open Go.RowKit

def pcells : List (Int × Int) → List Value
  | [] => []
  | g :: G => .int .i64 g.1 :: .int .i64 g.2 :: pcells G

theorem pcells_length (G : List (Int × Int)) : (pcells G).length = G.length * 2 := by
  induction G with
  | nil => rfl
  | cons g G ih => rw [pcells, List.length_cons, List.length_cons, ih, List.length_cons]; omega

theorem pcells_one (G : List (Int × Int)) : ∀ u ∈ pcells G, u.oneCell' = true := by
  induction G with
  | nil => intro u hu; simp [pcells] at hu
  | cons g G ih =>
    intro u hu
    rw [pcells] at hu
    rcases List.mem_cons.mp hu with rfl | hu
    · rfl
    · rcases List.mem_cons.mp hu with rfl | hu
      · rfl
      · exact ih u hu

theorem gs_cons (g : Int × Int) (G : List (Int × Int)) (k : Nat) : gs (g :: G) (k + 1) = gs G k := by unfold gs; simp [List.getD]
theorem gv_cons (g : Int × Int) (G : List (Int × Int)) (k : Nat) : gv (g :: G) (k + 1) = gv G k := by unfold gv; simp [List.getD]

theorem pcells_get (G : List (Int × Int)) : ∀ k, k < G.length → (pcells G)[k * 2]? = some (.int .i64 (gs G k)) ∧ (pcells G)[k * 2 + 1]? = some (.int .i64 (gv G k)) := by
  induction G with
  | nil => intro k hk; simp at hk
  | cons g G ih =>
    intro k hk
    cases k with
    | zero => rw [pcells]; exact ⟨rfl, rfl⟩
    | succ k =>
      have := ih k (by simpa using hk)
      rw [pcells, gs_cons, gv_cons, show (k + 1) * 2 = k * 2 + 1 + 1 from by omega, List.getElem?_cons_succ, List.getElem?_cons_succ, List.getElem?_cons_succ, List.getElem?_cons_succ]
      exact this

theorem pcells_cells {w : World} {ad : Addr} {n : Nat} {G : List (Int × Int)} (h : Pairs w (some ad) n G) : ∀ (j : Nat) (u : Value), (pcells G)[j]? = some u → w.cell? (ad.add j) = some u := by
  intro j u hj
  have hl := pcells_length G
  have hjn : j < n * 2 := by
    rcases Nat.lt_or_ge j (pcells G).length with a | a
    · rw [hl, h.1] at a; exact a
    · rw [List.getElem?_eq_none a] at hj; simp at hj
  obtain ⟨b, o, e, c1, c2⟩ := h.2 (j / 2) (by omega)
  simp only [Option.some.injEq] at e
  subst e
  obtain ⟨g1, g2⟩ := pcells_get G (j / 2) (by rw [h.1]; omega)
  have e2 : (⟨b, o, none⟩ : Addr).add j = ⟨b, o + j, none⟩ := by unfold Addr.add; split <;> simp_all
  rw [e2]
  rcases Nat.mod_two_eq_zero_or_one j with a | a
  · rw [show j / 2 * 2 = j from by omega] at g1 c1
    rw [g1] at hj; rw [c1]; exact hj
  · rw [show j / 2 * 2 + 1 = j from by omega] at g2
    rw [show o + j / 2 * 2 + 1 = o + j from by omega] at c2
    rw [g2] at hj; rw [c2]; exact hj

theorem PairRow.of_row {w : World} {B n : Nat} {T : TypeId} {v : Value} {G : List (Int × Int)} (hn : 0 < n) (h : w.ownsRow B T 2 v n (pcells G)) : ∃ g c, v = .slice (some ⟨g, 0, none⟩) n c ∧ n ≤ c ∧ B ≤ g ∧ G.length = n ∧ PairRow w g T G := by
  have hl : G.length = n := by have := h.1; rw [pcells_length] at this; omega
  rcases h.2 with ⟨_, h0⟩ | ⟨g, cap, cur, rfl, hb, hh, h1, _, h3, h4⟩
  · omega
  · refine ⟨g, cap, rfl, h1, hb, hl, cur, hh, by omega, fun k hk => ?_⟩
    obtain ⟨g1, g2⟩ := pcells_get G k hk
    rw [← h4] at g1 g2
    rw [List.getElem?_take_of_lt (by omega), Array.getElem?_toList] at g1 g2
    exact ⟨g1, g2⟩
end Go.Proofs.Ytaomlhhlefpdeaa

namespace Go.Proofs.Ytaomlhhlefpdeaa
open Go.RowKit

/-- A row of the list, behind a name that simp does not open. -/
def qx (Q : List (List (Int × Int))) (r : Nat) : List (Int × Int) := Q.getD r []

theorem qx_set (Q : List (List (Int × Int))) (r s : Nat) (x : List (Int × Int)) (h : r < Q.length) : qx (Q.set r x) s = if r = s then x else qx Q s := by
  unfold qx
  simp only [List.getD_eq_getElem?_getD, List.getElem?_set, h, if_true]
  split <;> rfl

/-- The block g holds slices; the one at r is the row r of Q, in a block of its own, from B on. -/
def Rows2 (w : World) (B g : Nat) (Q : List (List (Int × Int))) : Prop :=
  g < B ∧ ∃ vs : Array Value, w.heap[g]? = some (.cells vs 28 (0, 0)) ∧ (∀ r, r < Q.length → ∃ v, vs[r]? = some v ∧ w.ownsRow B 39 2 v (qx Q r).length (pcells (qx Q r))) ∧
    ∀ r s v u, r < Q.length → s < Q.length → r ≠ s → vs[r]? = some v → vs[s]? = some u → v.ownBlock = none ∨ v.ownBlock ≠ u.ownBlock

theorem Rows2.below {w w' : World} {B g : Nat} {Q : List (List (Int × Int))} (h : Rows2 w B g Q) (hb : Below w.heap.size w w') : Rows2 w' B g Q := by
  obtain ⟨h0, vs, h1, h2, h3⟩ := h
  refine ⟨h0, vs, ?_, fun r hr => ?_, h3⟩
  · rw [hb.block g (lt_of_block h1)]; exact h1
  · obtain ⟨v, e, ho⟩ := h2 r hr
    refine ⟨v, e, ho.1, ?_⟩
    rcases ho.2 with hn | ⟨b, cap, cur, rfl, hbb, hgg, rest⟩
    · exact .inl hn
    · exact .inr ⟨b, cap, cur, rfl, hbb, by rw [hb.block b (lt_of_block hgg)]; exact hgg, rest⟩

theorem Rows2.get {w : World} {B g : Nat} {Q : List (List (Int × Int))} (h : Rows2 w B g Q) (r : Nat) (hr : r < Q.length) :
    ∃ v, w.cell? ⟨g, r, none⟩ = some v ∧ w.ownsRow B 39 2 v (qx Q r).length (pcells (qx Q r)) := by
  obtain ⟨_, vs, h1, h2, _⟩ := h
  obtain ⟨v, e, ho⟩ := h2 r hr
  refine ⟨v, ?_, ho⟩
  simp only [World.cell?, h1]
  exact e

theorem Rows2.free {w : World} {B g : Nat} {Q : List (List (Int × Int))} (h : Rows2 w B g Q) (r : Nat) : w.frozen? ⟨g, r, none⟩ = false := by
  obtain ⟨_, vs, h1, _⟩ := h
  simp only [World.frozen?, h1]
  simp

theorem pcells_append (A C : List (Int × Int)) : pcells (A ++ C) = pcells A ++ pcells C := by
  induction A with
  | nil => rfl
  | cons a A ih => rw [List.cons_append, pcells, pcells, ih]; rfl

/-- One pair is appended to the row r, and the row is stored back. -/
theorem Rows2.push {w w1 : World} {B g : Nat} {Q : List (List (Int × Int))} (h : Rows2 w B g Q) (r : Nat) (hr : r < Q.length) (v v' : Value) (x : Int × Int) (hv : w.cell? ⟨g, r, none⟩ = some v)
    (hown : w1.ownsRow B 39 2 v' ((qx Q r).length + 1) (pcells (qx Q r) ++ pcells [x])) (hgrow : w.grownBy w1 v.ownBlock) (hat : v'.ownBlock = v.ownBlock ∨ ∃ b, v'.ownBlock = some b ∧ w.heap.size ≤ b) :
    Rows2 (w1.setCell ⟨g, r, none⟩ v') B g (Q.set r (qx Q r ++ [x])) := by
  obtain ⟨h0, vs, h1, h2, h3⟩ := h
  have hvr : vs[r]? = some v := by simp only [World.cell?, h1] at hv; exact hv
  have hg1 : w1.heap[g]? = some (.cells vs 28 (0, 0)) := by
    rw [hgrow.block g (lt_of_block h1) (fun e => ?_)]
    · exact h1
    · obtain ⟨u, e1, ho⟩ := h2 r hr
      rw [hvr] at e1
      obtain rfl : v = u := by simpa using e1
      have := (ho.lt g e.symm).1
      omega
  have hk : ∀ k, k ≠ g → (w1.setCell ⟨g, r, none⟩ v').heap[k]? = w1.heap[k]? := fun k hk => Below.heap_setCell _ _ _ _ hk
  refine ⟨h0, vs.setIfInBounds r v', ?_, fun s hs => ?_, fun s t u u' hs ht hst e1 e2 => ?_⟩
  · simp [World.setCell, Array.getElem?_modify, hg1]
  · rw [List.length_set] at hs
    by_cases hrs : r = s
    · subst hrs
      rw [qx_set _ _ _ _ hr, if_pos rfl]
      have hrz : r < vs.size := (Array.getElem?_eq_some_iff.1 hvr).1
      refine ⟨v', by simp [hrz], ?_⟩
      rw [List.length_append, pcells_append]
      refine ⟨hown.1, ?_⟩
      rcases hown.2 with hn | ⟨b, cap, cur, rfl, hbb, hgg, rest⟩
      · exact .inl hn
      · exact .inr ⟨b, cap, cur, rfl, hbb, by rw [hk b (by omega)]; exact hgg, rest⟩
    · rw [qx_set _ _ _ _ hr, if_neg hrs]
      obtain ⟨u, e, ho⟩ := h2 s hs
      refine ⟨u, by rw [Array.getElem?_setIfInBounds, if_neg hrs]; exact e, ?_⟩
      have ho1 := ho.kept hgrow (h3 s r u v hs hr (fun e => hrs e.symm) e hvr)
      refine ⟨ho1.1, ?_⟩
      rcases ho1.2 with hn | ⟨b, cap, cur, rfl, hbb, hgg, rest⟩
      · exact .inl hn
      · exact .inr ⟨b, cap, cur, rfl, hbb, by rw [hk b (by omega)]; exact hgg, rest⟩
  · rw [List.length_set] at hs ht
    have fresh : ∀ y u, y < Q.length → y ≠ r → vs[y]? = some u → (u.ownBlock = none ∨ u.ownBlock ≠ v'.ownBlock) ∧ (v'.ownBlock = none ∨ v'.ownBlock ≠ u.ownBlock) := by
      intro y u hy hyr e
      have a1 := h3 y r u v hy hr hyr e hvr
      have a2 := h3 r y v u hr hy (fun e => hyr e.symm) hvr e
      rcases hat with hh | ⟨b, hb, hbl⟩
      · rw [hh]; exact ⟨a1, a2⟩
      · rw [hb]
        obtain ⟨u', e', ho⟩ := h2 y hy
        rw [e] at e'
        obtain rfl : u = u' := by simpa using e'
        cases hu : u.ownBlock with
        | none => simp
        | some k => have := (ho.lt k hu).2; simp; omega
    by_cases hrs : r = s
    · subst hrs
      have hrz : r < vs.size := (Array.getElem?_eq_some_iff.1 hvr).1
      rw [Array.getElem?_setIfInBounds, if_pos rfl, if_pos hrz] at e1
      rw [Array.getElem?_setIfInBounds, if_neg hst] at e2
      obtain rfl : v' = u := by simpa using e1
      exact (fresh t u' ht (fun e => hst e.symm) e2).2
    · rw [Array.getElem?_setIfInBounds, if_neg hrs] at e1
      by_cases hrt : r = t
      · subst hrt
        have hrz : r < vs.size := (Array.getElem?_eq_some_iff.1 hvr).1
        rw [Array.getElem?_setIfInBounds, if_pos rfl, if_pos hrz] at e2
        obtain rfl : v' = u' := by simpa using e2
        exact (fresh s u hs (fun e => hrs e.symm) e1).1
      · rw [Array.getElem?_setIfInBounds, if_neg hrt] at e2
        exact h3 s t u u' hs ht hst e1 e2
end Go.Proofs.Ytaomlhhlefpdeaa
