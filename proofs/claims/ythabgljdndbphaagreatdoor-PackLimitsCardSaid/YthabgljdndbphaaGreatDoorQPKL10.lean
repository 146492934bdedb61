/- FitSound, plain: where a step is right, no permitted packing that agrees with what is decided brings more. -/
import Derived.Test.YthabgljdndbphaaGreatDoorQPKL06
import Derived.Test.YthabgljdndbphaaGreatDoorQPKL09

set_option linter.unusedVariables false
set_option linter.unusedSimpArgs false
namespace Go.Proofs.YthabgljdndbphaaGreatDoor
open Go.RowKit




/-! ### Sums -/








/-! ### What is decided, as sums -/








/-! ### The three kinds -/






section
variable {single : Bool} {R : List Int} {G S : List (Int × Int)} {V : Int} {es : List (Int × Int)}



end



end Go.Proofs.YthabgljdndbphaaGreatDoor
