/- hall: the faults of single things, one after the other: plain. -/
import Derived.Test.YtmcdhggnpfhlmaaQHCB14

namespace Go.Proofs.Ytmcdhggnpfhlmaa

/-- What the first k give. -/
def atF {α β : Type} (xs : List α) (f : α × Nat → List β) (k : Nat) : List β := (List.range k).flatMap fun j => ((xs[j]?).map fun x => f (x, j)).getD []
theorem atF_zero {α β : Type} (xs : List α) (f : α × Nat → List β) : atF xs f 0 = [] := rfl
theorem atF_next {α β : Type} {xs : List α} (f : α × Nat → List β) {k : Nat} (h : k < xs.length) : atF xs f (k + 1) = atF xs f k ++ f (xs[k], k) := by
  unfold atF
  rw [List.range_succ, List.flatMap_append]
  simp [h]
theorem zip_range {α β : Type} (f : α × Nat → List β) : ∀ (xs : List α) (s : Nat), (xs.zipIdx s).flatMap f = (List.range xs.length).flatMap fun j => ((xs[j]?).map fun x => f (x, s + j)).getD []
  | [], s => rfl
  | x :: xs, s => by
    rw [List.zipIdx_cons, List.flatMap_cons, zip_range f xs (s + 1), List.length_cons, List.range_succ_eq_map, List.flatMap_cons, List.flatMap_map]
    simp only [List.getElem?_cons_zero, Option.map_some, Option.getD_some, List.getElem?_cons_succ, Nat.add_zero]
    congr 1
    congr 1
    funext j
    rw [show s + 1 + j = s + (j + 1) from by omega]
theorem atF_all {α β : Type} (xs : List α) (f : α × Nat → List β) : atF xs f xs.length = xs.zipIdx.flatMap f := by
  rw [zip_range f xs 0]
  unfold atF
  simp only [Nat.zero_add]
theorem atF_len {α β : Type} {xs : List α} {f : α × Nat → List β} {c : Nat} (hf : ∀ x ∈ xs, ∀ j, (f (x, j)).length ≤ c) : ∀ k, (atF xs f k).length ≤ k * c
  | 0 => Nat.zero_le _
  | k + 1 => by
    have ih := atF_len hf k
    unfold atF at *
    rw [List.range_succ, List.flatMap_append, List.length_append]
    have : (List.flatMap (fun j => ((xs[j]?).map fun x => f (x, j)).getD []) [k]).length ≤ c := by
      simp only [List.flatMap_cons, List.flatMap_nil, List.append_nil]
      by_cases h : k < xs.length
      · simp only [List.getElem?_eq_getElem h, Option.map_some, Option.getD_some]
        exact hf _ (List.getElem_mem h) k
      · simp [List.getElem?_eq_none (Nat.le_of_not_lt h)]
    rw [Nat.add_mul]
    omega

def fR (b : BlkR) : RowR × Nat → List FaultR := fun rk => rowFault b.rows rk.2 rk.1
def fB (l : LevR) : BlkR × Nat → List FaultR := fun bi => blockFault l.blocks bi.2 bi.1 ++ bi.1.rows.zipIdx.flatMap (fR bi.1)
def fA (l : LevR) : AreaR × Nat → List FaultR := fun ai => areaFault l ai.2 ai.1
def fL (h : HallR) : LevR × Nat → List FaultR := fun ln => levelFault h.levels ln.2 ln.1 ++ ln.1.blocks.zipIdx.flatMap (fB ln.1) ++ ln.1.areas.zipIdx.flatMap (fA ln.1)
theorem single_eq (h : HallR) : singleS h = atF h.levels (fL h) h.levels.length := by
  rw [atF_all]
  rfl

/-- A plan that is small enough. -/
structure HallR.Sm (h : HallR) : Prop where
  ln : h.ln ≤ 12
  lev : ∀ l ∈ h.levels, l.Sm
  rn : ∀ l ∈ h.levels, ∀ b ∈ l.blocks, b.rn ≤ 8
  mn : ∀ l ∈ h.levels, ∀ b ∈ l.blocks, ∀ r ∈ b.rows, r.mn ≤ 1000

theorem levelFault_len (ls : List LevR) (n : Nat) (l : LevR) : (levelFault ls n l).length ≤ 1 := by
  unfold levelFault
  dsimp only
  repeat' split
  all_goals simp
theorem blockFault_len (bs : List BlkR) (n : Nat) (b : BlkR) : (blockFault bs n b).length ≤ 1 := by
  unfold blockFault
  dsimp only
  repeat' split
  all_goals simp
theorem areaFault_len (l : LevR) (n : Nat) (a : AreaR) : (areaFault l n a).length ≤ 1 := by
  unfold areaFault
  dsimp only
  repeat' split
  all_goals simp
theorem rowFault_len (rs : List RowR) (n : Nat) (r : RowR) : (rowFault rs n r).length ≤ 1 := by
  unfold rowFault
  dsimp only
  repeat' split
  all_goals simp
theorem fB_len {l : LevR} {b : BlkR} (hb : b.rows.length ≤ 8) (j : Nat) : (fB l (b, j)).length ≤ 9 := by
  unfold fB
  rw [List.length_append, ← atF_all]
  have h1 := blockFault_len l.blocks j b
  have h2 := atF_len (xs := b.rows) (f := fR b) (c := 1) (fun x _ j => rowFault_len _ _ _) b.rows.length
  dsimp only at *
  omega
theorem fL_len {h : HallR} {l : LevR} (h1 : l.blocks.length ≤ 6) (h2 : l.areas.length ≤ 60) (h3 : ∀ b ∈ l.blocks, b.rows.length ≤ 8) (j : Nat) : (fL h (l, j)).length ≤ 200 := by
  unfold fL
  dsimp only
  rw [List.length_append, List.length_append, ← atF_all, ← atF_all]
  have e1 := levelFault_len h.levels j l
  have e2 := atF_len (xs := l.blocks) (f := fB l) (c := 9) (fun x hx j => fB_len (h3 x hx) j) l.blocks.length
  have e3 := atF_len (xs := l.areas) (f := fA l) (c := 1) (fun x _ j => areaFault_len _ _ _) l.areas.length
  omega
end Go.Proofs.Ytmcdhggnpfhlmaa
