/- FitSums, FitFewer, FitTurned, plain; foyerref22.best: copies of slices, the plain function, its bounds; foyerref22.rooms: the walk. -/
import Derived.Test.YthabgljdndbphaaGreatDoorQPKL06
import Derived.Test.YthabgljdndbphaaGreatDoorQPKL10
import Derived.BigRegion

set_option linter.unusedVariables false
set_option linter.unusedSimpArgs false
namespace Go.Proofs.YthabgljdndbphaaGreatDoor
open Go.RowKit

/-! ### FitTurned -/













/-! ### FitFewer -/








/-! ### FitSums -/





end Go.Proofs.YthabgljdndbphaaGreatDoor

namespace Go.Proofs.YthabgljdndbphaaGreatDoor
open Go.RowKit Go.IntWalk







/-! ### The plain function -/
/-- A run in which a group sits, and of which one place is left. -/
def oneLeft (left : List Int) (used : List Bool) (r : Nat) : Bool := bx used r && decide (ix left r = 1)


/-- What the runs before r bring. -/
def bestLoop (go : List Int → List Bool → Int) (s v : Int) (left : List Int) (used : List Bool) (out : Int) : Nat → Int
 | 0 => out
 | r + 1 => if ix left r < s then bestLoop go s v left used out r
   else if 0 ≤ go (left.set r (ix left r - s)) (used.set r true) then max (bestLoop go s v left used out r) (go (left.set r (ix left r - s)) (used.set r true) + s * v) else bestLoop go s v left used out r

/-- The greatest value that the groups from g on can bring; -1 if nothing is permitted. -/
def bestF (single : Bool) (G : List (Int × Int)) : Nat → Nat → List Int → List Bool → Int
 | 0, _, left, used => if single = true ∧ ∃ r, r < left.length ∧ oneLeft left used r = true then -1 else 0
 | k + 1, g, left, used => bestLoop (bestF single G k (g + 1)) (gs G g) (gv G g) left used (bestF single G k (g + 1) left used) left.length

theorem bestLoop_bounds {go : List Int → List Bool → Int} {s v B : Int} {left : List Int} {used : List Bool} {out : Int} (hs : 0 ≤ s * v ∧ s * v ≤ 12000000) (_hB : 0 ≤ B) (hg : ∀ l u, -1 ≤ go l u ∧ go l u ≤ B) (ho : -1 ≤ out ∧ out ≤ B) :
  ∀ r, -1 ≤ bestLoop go s v left used out r ∧ bestLoop go s v left used out r ≤ B + 12000000 := by
 intro r
 induction r with
 | zero => rw [bestLoop]; omega
 | succ r ih =>
  rw [bestLoop]
  have := hg (left.set r (ix left r - s)) (used.set r true)
  split
  ·
   exact ih
  ·
   split <;> omega

theorem bestF_bounds {single : Bool} {G : List (Int × Int)} (hv : ValuesOk G) : ∀ (k g : Nat) (left : List Int) (used : List Bool), g + k = G.length → -1 ≤ bestF single G k g left used ∧ bestF single G k g left used ≤ 12000000 * k := by
 intro k
 induction k with
 | zero => intro g left used _; rw [bestF]; split <;> omega
 | succ k ih =>
  intro g left used hg
  rw [bestF]
  have hgg := hv g (by omega)
  have h1 : gs G g * gv G g ≤ 12 * gv G g := Int.mul_le_mul_of_nonneg_right hgg.1.2 hgg.2.1
  have h0 : 0 ≤ gs G g * gv G g := Int.mul_nonneg (by omega) (by omega)
  have := bestLoop_bounds (go := bestF single G k (g + 1)) (s := gs G g) (v := gv G g) (B := 12000000 * k) (left := left) (used := used) (out := bestF single G k (g + 1) left used) (by omega) (by omega)
   (fun l u => ih (g + 1) l u (by omega)) (ih (g + 1) left used (by omega)) left.length
  omega
end Go.Proofs.YthabgljdndbphaaGreatDoor

namespace Go.Proofs.YthabgljdndbphaaGreatDoor
open Go.RowKit Go.IntWalk






end Go.Proofs.YthabgljdndbphaaGreatDoor
