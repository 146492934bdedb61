/- ledger: a new ledger, a posting: the walks. -/
import Derived.Lib.SmallJoins
import Derived.Laws.Rows
import Derived.Test.YtafhdpalobalkaaL12
namespace Go.Proofs.Ytafhdpalobalkaa
open Go.RowKit Go.IntWalk Go.Maps Go.ChangeMaps

/-- The blocks from a size on, ahead of another. -/
def Fresh (a b : Nat) (i : Nat) : Prop := a ≤ i ∧ i < b

theorem BsOk.nil : BsOk [] := ⟨by simp, fun b h => by simp at h, fun a => by unfold balS; simp⟩

theorem LedAt_new (w : World) : LedAt (((w.alloc (.map #[] 0)).alloc (.map #[] 0)).alloc (.cells #[.slice none 0 0, .map (some w.heap.size), .map (some (w.heap.size + 1))] 55)) (Fresh w.heap.size (w.heap.size + 3)) (w.heap.size + 2) [] := by
  have s1 : (w.alloc (.map #[] 0)).heap.size = w.heap.size + 1 := by simp
  have s2 : ((w.alloc (.map #[] 0)).alloc (.map #[] 0)).heap.size = w.heap.size + 2 := by simp
  refine ⟨none, 0, 0, w.heap.size, w.heap.size + 1, [], ?_⟩
  have n1 := World.alloc_heap_new w (.map #[] 0)
  have n2 := World.alloc_heap_new (w.alloc (.map #[] 0)) (.map #[] 0)
  rw [s1] at n2
  have b2 := Joins.below_alloc1 (w.alloc (.map #[] 0)) (.map #[] 0)
  generalize hC : Obj.cells _ _ = C
  have n3 := World.alloc_heap_new ((w.alloc (.map #[] 0)).alloc (.map #[] 0)) C
  rw [s2] at n3
  have b3 := Joins.below_alloc1 ((w.alloc (.map #[] 0)).alloc (.map #[] 0)) C
  have h1 : (((w.alloc (.map #[] 0)).alloc (.map #[] 0)).alloc C).heap[w.heap.size]? = some (.map #[] 0) := (b3.block _ (by omega)).trans ((b2.block _ (by omega)).trans n1)
  have h2 : (((w.alloc (.map #[] 0)).alloc (.map #[] 0)).alloc C).heap[w.heap.size + 1]? = some (.map #[] 0) := (b3.block _ (by omega)).trans n2
  constructor
  · rw [n3, ← hC]
  · exact ⟨by omega, by omega⟩
  · exact ⟨by omega, by omega⟩
  · exact ⟨by omega, by omega⟩
  · intro r hr; simp [Value.ownBlock] at hr
  · omega
  · intro i hi
    have := hi.2
    simp
    omega
  · exact ⟨_, Joins.ownsMap_empty h1, bal_empty⟩
  · exact ⟨_, Joins.ownsMap_empty h2, ids_empty⟩
  · exact ⟨rfl, Or.inl ⟨rfl, rfl⟩⟩
  · exact BooksIn.nil
  · exact BsOk.nil

theorem new_any (w : World) :
    Calls Try.prog 10 #[] w fun e w' => ∃ g, e = .returned (.pointer (some ⟨g, 0, none⟩)) ∧ Below w.heap.size w w' ∧ LedAt w' (Fresh w.heap.size w'.heap.size) g [] := by
  have hmm := @run_makeMap Try.prog
  go_enter Try.func10, Try.ntmps10
  go_wp2_with fail
  go_ret
  have hL := LedAt_new w
  refine ⟨w.heap.size + 2, rfl, ?_, ?_⟩
  · exact (Joins.below_alloc1 _ _).trans (((Joins.below_alloc1 _ _).mono (by simp)).trans ((Joins.below_alloc1 _ _).mono (by simp; omega)))
  · simpa using hL

theorem posting_any (k : Int) (t : Name) (a : Int) (w : World) :
    Calls Try.prog 26 #[.int .i64 k, .string (bs t), .int .i64 a] w fun e w' => e = .returned (.agg #[.int .i64 k, .string (bs t), .int .i64 a]) ∧ Below w.heap.size w w' := by
  go_enter Try.func26, Try.ntmps26
  go_wp2_with fail
  exact bodyPost_ret (v := .agg #[.int .i64 k, .string (bs t), .int .i64 a]) (results_cell_row rfl _ _ w.heap.size 44 _ (0, 0) _ rfl (World.alloc_heap_new w _) Try.underlying44 rfl rfl) rfl ⟨rfl, Joins.below_alloc1 _ _⟩
end Go.Proofs.Ytafhdpalobalkaa
