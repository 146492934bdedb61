/- merge: one log. -/
import Derived.Test.YtpmoelkblngamaaC5
namespace Go.Proofs.Ytpmoelkblngamaa
open Go.RowKit Go.IntWalk

theorem logs_one {w : World} {v : Value} {l : List Scn} (h : Scs w v l) : LogsAt (w.alloc (.cells #[v] 22)) (some ⟨w.heap.size, 0, none⟩) 1 [l] := by
  refine ⟨rfl, fun i hi => ⟨w.heap.size, 0, v, rfl, ?_, ?_⟩⟩
  · have hi : i = 0 := by omega
    subst hi
    exact cell_of_row (j := 0) _ _ _ _ _ (World.alloc_heap_new w _)
  · have hi : i = 0 := by omega
    subst hi
    exact h.below (Joins.below_alloc1 w _)

end Go.Proofs.Ytpmoelkblngamaa
