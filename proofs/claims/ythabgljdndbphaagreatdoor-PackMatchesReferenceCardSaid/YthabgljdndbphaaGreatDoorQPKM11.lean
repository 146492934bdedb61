/- greedy.order, with its comparison and its keys; greedy.Solve. -/
import Derived.Test.YthabgljdndbphaaGreatDoorQPKM08

set_option linter.unusedVariables false
set_option linter.unusedSimpArgs false
namespace Go.Proofs.YthabgljdndbphaaGreatDoor
open Go.RowKit











theorem idx_succ (k : Nat) : idx (k + 1) = idx k ++ [(k : Int)] := by simp [idx, List.range_succ]

end Go.Proofs.YthabgljdndbphaaGreatDoor

namespace Go.Proofs.YthabgljdndbphaaGreatDoor
open Go.RowKit







end Go.Proofs.YthabgljdndbphaaGreatDoor
