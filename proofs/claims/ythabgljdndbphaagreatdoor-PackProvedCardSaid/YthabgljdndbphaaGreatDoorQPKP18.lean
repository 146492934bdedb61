/- FitSums, FitFewer, FitTurned, plain. -/
import Derived.Test.YthabgljdndbphaaGreatDoorQPKP17

set_option linter.unusedVariables false
set_option linter.unusedSimpArgs false
namespace Go.Proofs.YthabgljdndbphaaGreatDoor
open Go.RowKit

/-! ### FitTurned -/





theorem spots_get (m : Nat) (f : Nat → Int × Int) (k : Nat) (h : k < m) : gs ((List.range m).map f) k = (f k).1 ∧ gv ((List.range m).map f) k = (f k).2 := by
 simp [gs, gv, List.getD, h]








/-! ### FitFewer -/








/-! ### FitSums -/





end Go.Proofs.YthabgljdndbphaaGreatDoor
