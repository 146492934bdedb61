/- merge: foyerlaw38.scan: the walk. -/
import Derived.Lib.SmallJoins
import Derived.Laws.Rows
import Derived.Test.YtpmoelkblngamaaE1
namespace Go.Proofs.Ytpmoelkblngamaa
open Go.RowKit Go.IntWalk Go.Maps Go.WideMaps

set_option maxRecDepth 10000 in
theorem scan_any (g n t s k : Int) (w : World) : Calls Try.prog 25 #[.int .i64 g, .int .i64 n, .int .i64 t, .int .i64 s, .int .i64 k] w fun e w' => e = .returned (.agg #[.int .i64 g, .int .i64 n, .int .i64 t, .int .i64 s, .int .i64 k, .string (bs [])]) ∧ Below w.heap.size w w' := by
  go_enter Try.func25, Try.ntmps25
  go_wp2_with fail
  exact bodyPost_ret (v := .agg #[.int .i64 g, .int .i64 n, .int .i64 t, .int .i64 s, .int .i64 k, .string (bs [])]) (results_cell_row rfl _ _ w.heap.size 39 _ (0, 0) _ rfl (World.alloc_heap_new w _) Try.underlying39 rfl rfl) rfl ⟨rfl, Joins.below_alloc1 _ _⟩
end Go.Proofs.Ytpmoelkblngamaa
