/- FitExact, plain: the steps of Prove are right where no permitted packing brings more. -/
import Derived.Test.YthabgljdndbphaaGreatDoorQPKP23
import Derived.Test.YthabgljdndbphaaGreatDoorQPKP24

set_option linter.unusedVariables false
set_option linter.unusedSimpArgs false
namespace Go.Proofs.YthabgljdndbphaaGreatDoor
open Go.RowKit



/-- The steps of one kid among all. -/
theorem prvKids_split (f : List Int → Nat → List StepT) (W : List Int) (g n base r : Nat) : ∀ N, r < N → ∃ X, (prvKids f W g n base N).1 = (prvKids f W g n base r).1 ++ f (W.set g (if r = n then -1 else (r : Int))) (base + 1 + (prvKids f W g n base r).1.length) ++ X := by
 intro N
 induction N with
 | zero => intro h; omega
 | succ N ih =>
  intro h
  rw [prvKids]
  dsimp only
  by_cases e : r = N
  ·
   subst e; exact ⟨[], by simp⟩
  ·
   obtain ⟨X, hX⟩ := ih (by omega)
   exact ⟨X ++ f (W.set g (if N = n then -1 else (N : Int))) (base + 1 + (prvKids f W g n base N).1.length), by rw [hX]; simp⟩





section
variable {single : Bool} {R : List Int} {G : List (Int × Int)} {most : Int} {T : List StepT}

end

end Go.Proofs.YthabgljdndbphaaGreatDoor
