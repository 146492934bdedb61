/- A row of pairs of the call's own. -/
import Derived.Test.YtaomlhhlefpdeaaQFitBound50

namespace Go.Proofs.Ytaomlhhlefpdeaa
open Go.RowKit

theorem Box.growG {w w' : World} {b C n sz : Nat} {t e : TypeId} {vs : Array Value} {u : Value} {xs : List Value} (h : Box w b t vs) (hu : w.ownsRow C e sz u n xs) (hg : w.grownBy w' u.ownBlock) (ht : t ≠ e) : Box w' b t vs := by
  refine h.of_heap (hg.block b (lt_of_block h) (fun e => ?_))
  unfold Box at h
  rcases hu.2 with ⟨rfl, _⟩ | ⟨b', cap, cur, rfl, _, hgg, _⟩
  · simp [Value.ownBlock] at e
  · simp [Value.ownBlock] at e; subst e; rw [hgg] at h; simp at h; exact ht h.2.symm

theorem own_heap {w w' : World} {B n sz : Nat} {e : TypeId} {v : Value} {xs : List Value} (h : w.ownsRow B e sz v n xs) (k : ∀ (b : Nat) (arr : Array Value), w.heap[b]? = some (.cells arr e (0, 0)) → v.ownBlock = some b → w'.heap[b]? = w.heap[b]?) : w'.ownsRow B e sz v n xs := by
  refine ⟨h.1, ?_⟩
  rcases h.2 with hn | ⟨b, cap, cur, rfl, hbb, hgg, rest⟩
  · exact .inl hn
  · exact .inr ⟨b, cap, cur, rfl, hbb, (k b cur hgg rfl).trans hgg, rest⟩

theorem own_setBox {w : World} {B n sz g j : Nat} {t e : TypeId} {vs : Array Value} {v : Value} {xs : List Value} (h : w.ownsRow B e sz v n xs) (hb : Box w g t vs) (u : Value) (ht : t ≠ e) : (w.setCell ⟨g, j, none⟩ u).ownsRow B e sz v n xs :=
  own_heap h (fun b arr h1 _ => heap_set b (fun e => by subst e; unfold Box at hb; rw [hb] at h1; simp at h1; exact ht h1.2))

theorem own_shape {w : World} {B n sz : Nat} {e : TypeId} {v : Value} {xs : List Value} (h : w.ownsRow B e sz v n xs) : ∃ ka kc, v = .slice ka n kc := by
  rcases h.2 with ⟨rfl, h0⟩ | ⟨b, cap, cur, rfl, _⟩
  · exact ⟨none, 0, by rw [h0]⟩
  · exact ⟨_, _, rfl⟩

/-- One pair is appended to a row of the call's own. -/
theorem push_pair {w : World} {B n : Nat} {v : Value} {L : List (Int × Int)} (h : w.ownsRow B 39 2 v n (pcells L)) (hB : B ≤ w.heap.size) (hl : n ≤ 100000) (x y : Int) : ∃ v' w',
    (Builtin.append_ #[28, 28] 28 #[v, .slice (some ⟨w.heap.size, 0, none⟩) 1 1]).run Try.prog (w.alloc (.cells #[.int .i64 x, .int .i64 y] 39)) = .ok v' w' ∧
    w'.ownsRow B 39 2 v' (n + 1) (pcells (L ++ [(x, y)])) ∧ w.grownBy w' v.ownBlock := by
  obtain ⟨i0, hi, hz0, hz1, hz2⟩ := spotInfo
  have hal : Below w.heap.size w (w.alloc (.cells #[.int .i64 x, .int .i64 y] 39)) := (Below.refl _ _).alloc (Nat.le_refl _) _
  have h1 : (w.alloc (.cells #[.int .i64 x, .int .i64 y] 39)).ownsRow B 39 2 v n (pcells L) := own_heap h (fun b _ hb _ => hal.block b (lt_of_block hb))
  have hbox : Box (w.alloc (.cells #[.int .i64 x, .int .i64 y] 39)) w.heap.size 39 #[.int .i64 x, .int .i64 y] := Box.new rfl
  obtain ⟨v', w', hr, h2, h3, _, _⟩ := run_append_own_at (P := Try.prog) (w.alloc (.cells #[.int .i64 x, .int .i64 y] 39)) B 28 28 39 i0 (.agg #[.int .i64 0, .int .i64 0]) 2 16
    Try.underlying28 hi hz0 hz1 hz2 rfl (by decide) v n _ h1 ⟨w.heap.size, 0, none⟩ 1 1 [.int .i64 x, .int .i64 y] rfl
    (fun j u hj => by
      match j, hj with
      | 0, hj => simp at hj; subst hj; exact hbox.cell 0
      | 1, hj => simp at hj; subst hj; exact hbox.cell 1)
    (fun u hu => by simp at hu; rcases hu with rfl | rfl <;> rfl) (by unfold maxLen; omega) (by omega) (by simp; omega)
  exact ⟨v', w', hr, by rw [pcells_append]; exact h2, ⟨h3.os.trans hal.os, h3.tape.trans hal.tape, h3.output.trans hal.output, Nat.le_trans hal.size h3.size, fun i hi hn => (h3.block i (Nat.lt_of_lt_of_le hi hal.size) hn).trans (hal.block i hi)⟩⟩

theorem pairs_of_row {w : World} {B n yc : Nat} {ya : Option Addr} {L : List (Int × Int)} (h : w.ownsRow B 39 2 (.slice ya n yc) n (pcells L)) : Pairs w ya n L := by
  have hl : L.length = n := by have := h.1; rw [pcells_length] at this; omega
  refine ⟨hl, fun k hk => ?_⟩
  obtain ⟨g, c, e, _, _, _, r⟩ := PairRow.of_row (by omega) h
  obtain ⟨rfl, _⟩ : ya = some ⟨g, 0, none⟩ ∧ yc = c := by simpa using e
  obtain ⟨arr, h1, h2, h3⟩ := r
  obtain ⟨c1, c2⟩ := h3 k (by omega)
  exact ⟨g, 0, rfl, by simp only [World.cell?, h1, Nat.zero_add]; exact c1, by simp only [World.cell?, h1, Nat.zero_add]; exact c2⟩
end Go.Proofs.Ytaomlhhlefpdeaa
