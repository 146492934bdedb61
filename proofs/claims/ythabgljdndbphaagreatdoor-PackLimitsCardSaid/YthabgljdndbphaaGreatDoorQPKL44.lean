/- pack: plain: the solution is legal, brings all that can be had, and its choices come first. -/
import Derived.Test.YthabgljdndbphaaGreatDoorQPKL28

set_option linter.unusedVariables false
set_option linter.unusedSimpArgs false
namespace Go.Proofs.YthabgljdndbphaaGreatDoor
set_option linter.unusedSimpArgs false
set_option linter.unusedVariables false

section
variable {single : Bool} {R : List Int} {G : List (Int × Int)} {c c' d : Nat → Int} {g : Nat} {L : List (Int × Bool)}
theorem At.congr (h : At R G c g L) (e : ∀ i, i < g → c' i = c i) : At R G c' g L := by
 have hd : dec c' g = dec c g := dec_congr _ _ _ e
 refine ⟨fun i hi => ?_, ?_, ?_⟩
 ·
  rw [e i hi]; exact h.runs i hi
 ·
  rw [hd]; exact h.rooms
 ·
  rw [hd]; exact h.used
end
section
variable {single : Bool} {R : List Int} {G : List (Int × Int)}
end
end Go.Proofs.YthabgljdndbphaaGreatDoor
