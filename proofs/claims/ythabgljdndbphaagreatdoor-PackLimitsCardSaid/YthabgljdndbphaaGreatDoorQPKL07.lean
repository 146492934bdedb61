/- What fit.Legal asks, said group by group; and no permitted packing brings more than the bound. -/
import Derived.Test.YthabgljdndbphaaGreatDoorQPKL05

set_option linter.unusedVariables false
set_option linter.unusedSimpArgs false
namespace Go.Proofs.YthabgljdndbphaaGreatDoor
open Go.RowKit

/-! ### What a choice of amounts brings -/

def amtV (G : List (Int × Int)) (a : Int → Int) : List Int → Int
 | [] => 0
 | x :: O => a x * gv G x.toNat + amtV G a O








/-! ### The rows, group by group -/


/-- The places that a group takes. -/
def taken (G S : List (Int × Int)) (x : Int) : Int := if gs S x.toNat = -1 then 0 else gs G x.toNat

theorem idx_succ (n : Nat) : idx (n + 1) = idx n ++ [(n : Int)] := by simp [idx, List.range_succ]




/-! ### No more than the bound -/





/-- The sums of the rows 0 .. n-1. -/
def sumRows (f : Nat → Int) : Nat → Int
 | 0 => 0
 | n + 1 => sumRows f n + f n








end Go.Proofs.YthabgljdndbphaaGreatDoor
