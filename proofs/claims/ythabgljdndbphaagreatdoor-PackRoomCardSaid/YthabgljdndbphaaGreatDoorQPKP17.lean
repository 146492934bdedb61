/- FitSums, FitFewer, FitTurned, plain. -/
import Derived.Test.YthabgljdndbphaaGreatDoorQPKP16

set_option linter.unusedVariables false
set_option linter.unusedSimpArgs false
namespace Go.Proofs.YthabgljdndbphaaGreatDoor
open Go.RowKit

/-! ### FitTurned -/













/-! ### FitFewer -/








/-! ### FitSums -/





end Go.Proofs.YthabgljdndbphaaGreatDoor
