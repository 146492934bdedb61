/- foyerref22.Best: the walk. -/
import Derived.Test.YthabgljdndbphaaGreatDoorQPKP20
import Derived.Test.YthabgljdndbphaaGreatDoorQPKP21
import Derived.ArgAppend

set_option linter.unusedVariables false
set_option linter.unusedSimpArgs false
namespace Go.Proofs.YthabgljdndbphaaGreatDoor
open Go.RowKit Go.IntWalk




/-- What each of the three effects leaves. -/
def FB (n : Nat) (R : List Int) (k : Nat) (u : Value) (w : World) : Prop :=
 match k with
 | 0 => ∃ b, u = .slice (some ⟨b, 0, none⟩) 0 0
 | 1 => ∃ la lc, u = .slice la n lc ∧ OwnInts w 0 la n R
 | _ => ∃ b, u = .slice (some ⟨b, 0, none⟩) n n ∧ BoolRow w b 4 (List.replicate n false)

theorem FB.below {n : Nat} {R : List Int} (k : Nat) (u : Value) (w w' : World) (h : FB n R k u w) (hb : Below w.heap.size w w') : FB n R k u w' := by
 unfold FB at *
 match k with
 | 0 => exact h
 | 1 =>
  obtain ⟨la, lc, e, h1, h2⟩ := h
  exact ⟨la, lc, e, h1, fun hn => by obtain ⟨g, e, hg, r⟩ := h2 hn; exact ⟨g, e, hg, r.below hb⟩⟩
 | k + 2 => obtain ⟨b, e, r⟩ := h; exact ⟨b, e, r.of_heap (hb.block _ r.lt)⟩


/-- The greatest value of a permitted packing. -/
def bestS (single : Bool) (R : List Int) (G : List (Int × Int)) : Int := bestF single G G.length 0 R (List.replicate R.length false)

end Go.Proofs.YthabgljdndbphaaGreatDoor
