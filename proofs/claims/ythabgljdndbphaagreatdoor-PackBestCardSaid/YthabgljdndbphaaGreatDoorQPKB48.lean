/- foyerlaw23.PackProved: the walk. -/
import Derived.Test.YthabgljdndbphaaGreatDoorQPKB45
import Derived.Test.YthabgljdndbphaaGreatDoorQPKB47

set_option linter.unusedVariables false
set_option linter.unusedSimpArgs false
namespace Go.Proofs.YthabgljdndbphaaGreatDoor
open Go.RowKit Go.IntWalk Go.Maps Go.WideMaps
set_option linter.unusedSimpArgs false
set_option linter.unusedVariables false

theorem stp_small {n m : Nat} (hn : n ≤ 5) (hm : m ≤ 5) : stpCap n m ≤ 100000 := by
 have : ∀ n, n < 6 → ∀ k, k < 6 → stpCap n k ≤ 100000 := by decide
 exact this n (by omega) m (by omega)
/-- A problem in memory, and the variable that holds it. -/
structure PbAt (w : World) (gp : Nat) (ra ga : Option Addr) (c d : Nat) (single : Bool) (R : List Int) (G : List (Int × Int)) : Prop where
 box : w.heap[gp]? = some (.cells #[.slice ra R.length c, .slice ga G.length d, .bool single] 25 (0, 0))
 runs : Ints w ra R.length R
 groups : Pairs w ga G.length G
 kit : PKit w
theorem PbAt.below {w w' : World} {gp : Nat} {ra ga : Option Addr} {c d : Nat} {single : Bool} {R : List Int} {G : List (Int × Int)} (h : PbAt w gp ra ga c d single R G) (hb : Below w.heap.size w w') : PbAt w' gp ra ga c d single R G :=
 ⟨(hb.block _ (lt_of_block h.box)).trans h.box, h.runs.below hb, h.groups.below hb, h.kit.below hb⟩
theorem pb_new {w : World} {ra ga : Option Addr} {c d : Nat} {single : Bool} {R : List Int} {G : List (Int × Int)} (hR : Ints w ra R.length R) (hG : Pairs w ga G.length G) (hk : PKit w) :
  ∃ w1 gp, w.alloc (.cells #[.slice ra R.length c, .slice ga G.length d, .bool single] 25) = w1 ∧ gp = w.heap.size ∧ Hid (Below w.heap.size w w1) ∧ Hid (PbAt w1 gp ra ga c d single R G) := by
 have hb := Joins.below_alloc1 w (.cells #[.slice ra R.length c, .slice ga G.length d, .bool single] 25)
 exact ⟨_, _, rfl, rfl, hb, heap_new _ _, hR.below hb, hG.below hb, hk.below hb⟩
end Go.Proofs.YthabgljdndbphaaGreatDoor
