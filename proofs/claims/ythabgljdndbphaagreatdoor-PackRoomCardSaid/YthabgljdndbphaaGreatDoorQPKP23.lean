/- FitExact, plain: bestS is the greatest value of a permitted packing, and the steps of Prove are right exactly for it. -/
import Derived.Test.YthabgljdndbphaaGreatDoorQPKP16
import Derived.Test.YthabgljdndbphaaGreatDoorQPKP17
import Derived.Test.YthabgljdndbphaaGreatDoorQPKP20
import Derived.Test.YthabgljdndbphaaGreatDoorQPKP22

set_option linter.unusedVariables false
set_option linter.unusedSimpArgs false
namespace Go.Proofs.YthabgljdndbphaaGreatDoor
open Go.RowKit




/-! ### Choices -/
/-- The decisions about the first n groups. -/
def dec (c : Nat → Int) (n : Nat) : List (Int × Int) := (List.range n).map fun (i : Nat) => ((i : Int), c i)

theorem dec_succ (c : Nat → Int) (n : Nat) : dec c (n + 1) = dec c n ++ [((n : Int), c n)] := by simp [dec, List.range_succ]


theorem mem_dec (c : Nat → Int) (n : Nat) (p : Int × Int) : p ∈ dec c n ↔ ∃ i, i < n ∧ p = ((i : Int), c i) := by
 unfold dec
 rw [List.mem_map]
 exact ⟨fun ⟨i, hi, e⟩ => ⟨i, List.mem_range.mp hi, e.symm⟩, fun ⟨i, hi, e⟩ => ⟨i, List.mem_range.mpr hi, e.symm⟩⟩

theorem dec_congr (c c' : Nat → Int) (n : Nat) (h : ∀ i, i < n → c i = c' i) : dec c n = dec c' n := by
 unfold dec
 exact List.map_congr_left fun i hi => by rw [h i (List.mem_range.mp hi)]



/-- Which runs somebody sits in. -/
def UsedOk (n : Nat) (es : List (Int × Int)) (used : List Bool) : Prop := used.length = n ∧ ∀ r, r < n → (bx used r = true ↔ ∃ p ∈ es, p.2 = (r : Int))

theorem UsedOk.sit {n : Nat} {es : List (Int × Int)} {used : List Bool} (h : UsedOk n es used) (g : Int) (q : Nat) (hq : q < n) : UsedOk n (es ++ [(g, (q : Int))]) (used.set q true) := by
 refine ⟨by rw [List.length_set]; exact h.1, fun r hr => ?_⟩
 rw [bx_set _ _ _ _ (by rw [h.1]; exact hq)]
 by_cases e : q = r
 ·
  rw [if_pos e]
  exact ⟨fun _ => ⟨(g, (q : Int)), by simp, by dsimp only; omega⟩, fun _ => rfl⟩
 ·
  rw [if_neg e, h.2 r hr]
  constructor
  ·
   rintro ⟨p, hp, hpr⟩; exact ⟨p, by simp [hp], hpr⟩
  ·
   rintro ⟨p, hp, hpr⟩
   rcases List.mem_append.mp hp with hp | hp
   ·
    exact ⟨p, hp, hpr⟩
   ·
    rw [List.mem_singleton.mp hp] at hpr; dsimp only at hpr; omega

theorem UsedOk.out {n : Nat} {es : List (Int × Int)} {used : List Bool} (h : UsedOk n es used) (g v : Int) (hv : v < 0) : UsedOk n (es ++ [(g, v)]) used := by
 refine ⟨h.1, fun r hr => ?_⟩
 rw [h.2 r hr]
 constructor
 ·
  rintro ⟨p, hp, hpr⟩; exact ⟨p, by simp [hp], hpr⟩
 ·
  rintro ⟨p, hp, hpr⟩
  rcases List.mem_append.mp hp with hp | hp
  ·
   exact ⟨p, hp, hpr⟩
  ·
   rw [List.mem_singleton.mp hp] at hpr; dsimp only at hpr; omega


theorem bx_rep (m k : Nat) : bx (List.replicate m false) k = false := by
 unfold bx
 simp only [List.getD]
 by_cases h : k < m
 ·
  simp [h]
 ·
  rw [List.getElem?_eq_none (by simpa using h)]; rfl

theorem used_none (n : Nat) : UsedOk n [] (List.replicate n false) := by
 refine ⟨by simp, fun r hr => ?_⟩
 rw [bx_rep]
 exact ⟨fun h => by simp at h, fun ⟨p, hp, _⟩ => by simp at hp⟩



theorem roomS_len (G : List (Int × Int)) (es : List (Int × Int)) (R : List Int) : (roomS R G es).length = R.length := by
 unfold roomS
 have : ∀ (es : List (Int × Int)) (L : List Int), (es.foldl (roomF G) L).length = L.length := by
  intro es
  induction es with
  | nil => intro L; rfl
  | cons p es ih => intro L; rw [List.foldl_cons, ih, roomF_length]
 exact this es R

/-- What the first n groups take of run r. -/
def takes (G : List (Int × Int)) (c : Nat → Int) (r : Int) (n : Nat) : Int := sumRows (fun i => if c i = r then gs G i else 0) n

theorem room_takes (R : List Int) (G : List (Int × Int)) (c : Nat → Int) (r : Nat) : ∀ g, (∀ i, i < g → c i < R.length) → ix (roomS R G (dec c g)) r = ix R r - takes G c r g := by
 intro g
 induction g with
 | zero => intro _; show ix R r = _; rw [takes, sumRows]; omega
 | succ g ih =>
  intro h
  have i := ih fun i hi => h i (by omega)
  have hg := h g (by omega)
  rw [dec_succ, roomS_push, takes, sumRows, ← takes, roomF]
  dsimp only
  by_cases h0 : 0 ≤ c g
  ·
   rw [if_pos h0, ix_set _ _ _ _ (by rw [roomS_len]; omega), Int.toNat_natCast]
   by_cases e : c g = (r : Int)
   ·
    rw [if_pos (by omega), if_pos e, show (c g).toNat = r from by omega, i]; omega
   ·
    rw [if_neg (by omega), if_neg e, i]; omega
  ·
   rw [if_neg h0, if_neg (by omega), i]; omega




/-! ### No permitted packing brings more than bestS -/
section
variable {single : Bool} {R : List Int} {G S : List (Int × Int)} {V : Int}



end

/-! ### And one brings it -/
/-- A choice of runs that can be seated. -/
structure Choice (single : Bool) (R : List Int) (G : List (Int × Int)) (c : Nat → Int) : Prop where
 runs : ∀ i, i < G.length → -1 ≤ c i ∧ c i < R.length
 room : ∀ r, r < R.length → 0 ≤ ix (roomS R G (dec c G.length)) r
 one : single = true → ∀ r, r < R.length → (∃ i, i < G.length ∧ c i = (r : Int)) → ix (roomS R G (dec c G.length)) r ≠ 1


/-- The groups of a choice, one behind the other. -/
def seatAll (G : List (Int × Int)) (c : Nat → Int) : List (Int × Int) := (List.range G.length).map fun (k : Nat) => (c k, if 0 ≤ c k then takes G c (c k) k else 0)



end Go.Proofs.YthabgljdndbphaaGreatDoor
