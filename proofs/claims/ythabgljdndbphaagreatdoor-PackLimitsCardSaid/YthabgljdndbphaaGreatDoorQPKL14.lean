/- foyerref22.Best: the walk; FitExact, plain: bestS is the greatest value of a permitted packing, and the steps of Prove are right exactly for it. -/
import Derived.Test.YthabgljdndbphaaGreatDoorQPKL10
import Derived.Test.YthabgljdndbphaaGreatDoorQPKL11
import Derived.Test.YthabgljdndbphaaGreatDoorQPKL12
import Derived.Test.YthabgljdndbphaaGreatDoorQPKL13
import Derived.ArgAppend

set_option linter.unusedVariables false
set_option linter.unusedSimpArgs false
namespace Go.Proofs.YthabgljdndbphaaGreatDoor
open Go.RowKit Go.IntWalk




/-- What each of the three effects leaves. -/
def FB (n : Nat) (R : List Int) (k : Nat) (u : Value) (w : World) : Prop :=
 match k with
 | 0 => ∃ b, u = .slice (some ⟨b, 0, none⟩) 0 0
 | 1 => ∃ la lc, u = .slice la n lc ∧ OwnInts w 0 la n R
 | _ => ∃ b, u = .slice (some ⟨b, 0, none⟩) n n ∧ BoolRow w b 4 (List.replicate n false)

theorem FB.below {n : Nat} {R : List Int} (k : Nat) (u : Value) (w w' : World) (h : FB n R k u w) (hb : Below w.heap.size w w') : FB n R k u w' := by
 unfold FB at *
 match k with
 | 0 => exact h
 | 1 =>
  obtain ⟨la, lc, e, h1, h2⟩ := h
  exact ⟨la, lc, e, h1, fun hn => by obtain ⟨g, e, hg, r⟩ := h2 hn; exact ⟨g, e, hg, r.below hb⟩⟩
 | k + 2 => obtain ⟨b, e, r⟩ := h; exact ⟨b, e, r.of_heap (hb.block _ r.lt)⟩


/-- The greatest value of a permitted packing. -/
def bestS (single : Bool) (R : List Int) (G : List (Int × Int)) : Int := bestF single G G.length 0 R (List.replicate R.length false)

end Go.Proofs.YthabgljdndbphaaGreatDoor

namespace Go.Proofs.YthabgljdndbphaaGreatDoor
open Go.RowKit




/-! ### Choices -/
/-- The decisions about the first n groups. -/
def dec (c : Nat → Int) (n : Nat) : List (Int × Int) := (List.range n).map fun (i : Nat) => ((i : Int), c i)

theorem dec_succ (c : Nat → Int) (n : Nat) : dec c (n + 1) = dec c n ++ [((n : Int), c n)] := by simp [dec, List.range_succ]



theorem dec_congr (c c' : Nat → Int) (n : Nat) (h : ∀ i, i < n → c i = c' i) : dec c n = dec c' n := by
 unfold dec
 exact List.map_congr_left fun i hi => by rw [h i (List.mem_range.mp hi)]



/-- Which runs somebody sits in. -/
def UsedOk (n : Nat) (es : List (Int × Int)) (used : List Bool) : Prop := used.length = n ∧ ∀ r, r < n → (bx used r = true ↔ ∃ p ∈ es, p.2 = (r : Int))

theorem UsedOk.sit {n : Nat} {es : List (Int × Int)} {used : List Bool} (h : UsedOk n es used) (g : Int) (q : Nat) (hq : q < n) : UsedOk n (es ++ [(g, (q : Int))]) (used.set q true) := by
 refine ⟨by rw [List.length_set]; exact h.1, fun r hr => ?_⟩
 rw [bx_set _ _ _ _ (by rw [h.1]; exact hq)]
 by_cases e : q = r
 ·
  rw [if_pos e]
  exact ⟨fun _ => ⟨(g, (q : Int)), by simp, by dsimp only; omega⟩, fun _ => rfl⟩
 ·
  rw [if_neg e, h.2 r hr]
  constructor
  ·
   rintro ⟨p, hp, hpr⟩; exact ⟨p, by simp [hp], hpr⟩
  ·
   rintro ⟨p, hp, hpr⟩
   rcases List.mem_append.mp hp with hp | hp
   ·
    exact ⟨p, hp, hpr⟩
   ·
    rw [List.mem_singleton.mp hp] at hpr; dsimp only at hpr; omega

theorem UsedOk.out {n : Nat} {es : List (Int × Int)} {used : List Bool} (h : UsedOk n es used) (g v : Int) (hv : v < 0) : UsedOk n (es ++ [(g, v)]) used := by
 refine ⟨h.1, fun r hr => ?_⟩
 rw [h.2 r hr]
 constructor
 ·
  rintro ⟨p, hp, hpr⟩; exact ⟨p, by simp [hp], hpr⟩
 ·
  rintro ⟨p, hp, hpr⟩
  rcases List.mem_append.mp hp with hp | hp
  ·
   exact ⟨p, hp, hpr⟩
  ·
   rw [List.mem_singleton.mp hp] at hpr; dsimp only at hpr; omega


theorem bx_rep (m k : Nat) : bx (List.replicate m false) k = false := by
 unfold bx
 simp only [List.getD]
 by_cases h : k < m
 ·
  simp [h]
 ·
  rw [List.getElem?_eq_none (by simpa using h)]; rfl

theorem used_none (n : Nat) : UsedOk n [] (List.replicate n false) := by
 refine ⟨by simp, fun r hr => ?_⟩
 rw [bx_rep]
 exact ⟨fun h => by simp at h, fun ⟨p, hp, _⟩ => by simp at hp⟩



theorem roomS_len (G : List (Int × Int)) (es : List (Int × Int)) (R : List Int) : (roomS R G es).length = R.length := by
 unfold roomS
 have : ∀ (es : List (Int × Int)) (L : List Int), (es.foldl (roomF G) L).length = L.length := by
  intro es
  induction es with
  | nil => intro L; rfl
  | cons p es ih => intro L; rw [List.foldl_cons, ih, roomF_length]
 exact this es R

/-- What the first n groups take of run r. -/
def takes (G : List (Int × Int)) (c : Nat → Int) (r : Int) (n : Nat) : Int := sumRows (fun i => if c i = r then gs G i else 0) n





/-! ### No permitted packing brings more than bestS -/
section
variable {single : Bool} {R : List Int} {G S : List (Int × Int)} {V : Int}



end

/-! ### And one brings it -/
/-- A choice of runs that can be seated. -/
structure Choice (single : Bool) (R : List Int) (G : List (Int × Int)) (c : Nat → Int) : Prop where
 runs : ∀ i, i < G.length → -1 ≤ c i ∧ c i < R.length
 room : ∀ r, r < R.length → 0 ≤ ix (roomS R G (dec c G.length)) r
 one : single = true → ∀ r, r < R.length → (∃ i, i < G.length ∧ c i = (r : Int)) → ix (roomS R G (dec c G.length)) r ≠ 1





end Go.Proofs.YthabgljdndbphaaGreatDoor
