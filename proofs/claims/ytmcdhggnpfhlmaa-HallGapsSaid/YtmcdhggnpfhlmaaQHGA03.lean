/- hall: plain: a plan's places as a list that grows; a level alone has its places among all. -/
import Derived.Test.YtmcdhggnpfhlmaaQHGA00

namespace Go.Proofs.Ytmcdhggnpfhlmaa
open Go.RowKit Go.IntWalk
set_option linter.unusedSimpArgs false
set_option linter.unusedVariables false

/-- Each element gives places that hang on how many there are already. -/
def growS {α : Type} (g : Nat → α → List PlaceR) : List α → Nat → List PlaceR
  | [], _ => []
  | x :: xs, B => g B x ++ growS g xs (B + (g B x).length)
theorem foldl_grow {α : Type} (f : List PlaceR → α → List PlaceR) (g : Nat → α → List PlaceR) (hf : ∀ o x, f o x = o ++ g o.length x) : ∀ (xs : List α) (o : List PlaceR), xs.foldl f o = o ++ growS g xs o.length
  | [], o => by simp [growS]
  | x :: xs, o => by rw [List.foldl_cons, foldl_grow f g hf xs, hf, growS, List.length_append, List.append_assoc]
theorem growS_append {α : Type} (g : Nat → α → List PlaceR) : ∀ (xs ys : List α) (B : Nat), growS g (xs ++ ys) B = growS g xs B ++ growS g ys (B + (growS g xs B).length)
  | [], ys, B => by simp [growS]
  | x :: xs, ys, B => by
    rw [List.cons_append, growS, growS, growS_append g xs ys, List.append_assoc, List.length_append, Nat.add_assoc]
theorem growS_mem {α : Type} {g : Nat → α → List PlaceR} {p : PlaceR} : ∀ {xs : List α} {B : Nat}, p ∈ growS g xs B → ∃ x ∈ xs, ∃ B', p ∈ g B' x
  | [], B, h => by cases h
  | x :: xs, B, h => by
    rw [growS, List.mem_append] at h
    rcases h with h | h
    · exact ⟨x, List.mem_cons_self .., B, h⟩
    · obtain ⟨y, hy, B', h⟩ := growS_mem h
      exact ⟨y, List.mem_cons_of_mem _ hy, B', h⟩
theorem growS_map {α : Type} {g g' : Nat → α → List PlaceR} {s : PlaceR → PlaceR} {B0 : Nat} : ∀ {xs : List α}, (∀ x ∈ xs, ∀ B, (g (B0 + B) x).map s = g' B x) → ∀ B, (growS g xs (B0 + B)).map s = growS g' xs B
  | [], _, B => rfl
  | x :: xs, h, B => by
    have h1 := h x (List.mem_cons_self ..) B
    have h2 : (g (B0 + B) x).length = (g' B x).length := by rw [← h1, List.length_map]
    rw [growS, growS, List.map_append, h1, h2, Nat.add_assoc, growS_map (fun y hy => h y (List.mem_cons_of_mem _ hy))]

def rowG (h : HallR) (l : LevR) (n i : Nat) (B : Nat) (rk : RowR × Nat) : List PlaceR := rowPlaces h l n i rk.2 rk.1 B
def blkG (h : HallR) (l : LevR) (n : Nat) (B : Nat) (bi : BlkR × Nat) : List PlaceR := growS (rowG h l n bi.2) bi.1.rows.zipIdx B
def arG (h : HallR) (l : LevR) (n : Nat) (_ : Nat) (ai : AreaR × Nat) : List PlaceR := areaPlaces h l n ai.2 ai.1
def levG (h : HallR) (B : Nat) (ln : LevR × Nat) : List PlaceR := growS (blkG h ln.1 ln.2) ln.1.blocks.zipIdx B ++ growS (arG h ln.1 ln.2) ln.1.areas.zipIdx (B + (growS (blkG h ln.1 ln.2) ln.1.blocks.zipIdx B).length)
theorem putBlk_grow (h : HallR) (l : LevR) (n : Nat) (o : List PlaceR) (x : BlkR × Nat) : putBlk h l n o x = o ++ blkG h l n o.length x := foldl_grow (putRow h l n x.2) (rowG h l n x.2) (fun o x => rfl) _ _
theorem putLevel_grow (h : HallR) (o : List PlaceR) (x : LevR × Nat) : putLevel h o x = o ++ levG h o.length x := by
  unfold putLevel levG
  rw [foldl_grow (putArea h x.1 x.2) (arG h x.1 x.2) (fun o x => rfl), foldl_grow (putBlk h x.1 x.2) (blkG h x.1 x.2) (putBlk_grow h x.1 x.2), List.append_assoc, List.length_append]
theorem places_grow (h : HallR) : placesS h = growS (levG h) h.levels.zipIdx 0 := by
  unfold placesS
  rw [foldl_grow (putLevel h) (levG h) (putLevel_grow h)]
  rfl
theorem levG_bare (h : HallR) (B : Nat) (x : LevR × Nat) : (levG h B x).map bare = levB h x.1 x.2 := by
  have h1 := level_bare h x.1 x.2 (List.replicate B ⟨0, 0, 0, 0, 0, 0, 0, 0, 0⟩)
  rw [putLevel_grow, List.map_append, List.length_replicate] at h1
  exact List.append_cancel_left h1
theorem levG_level {h : HallR} {B : Nat} {x : LevR × Nat} {p : PlaceR} (hp : p ∈ levG h B x) : p.level = x.2 := by
  have : bare p ∈ levB h x.1 x.2 := by
    rw [← levG_bare h B]
    exact List.mem_map.2 ⟨p, hp, rfl⟩
  exact mem_levB (p := bare p) this

/-! ### A level alone -/
/-- A place, its level's first place having the number B. -/
def shiftP (B : Int) (p : PlaceR) : PlaceR := { p with level := 0, wth := if 0 ≤ p.wth then p.wth - B else p.wth }
theorem withS_shift (r : RowR) (B0 B : Nat) (s : Int) : (if 0 ≤ withS r (B0 + B) s then withS r (B0 + B) s - (B0 : Int) else withS r (B0 + B) s) = withS r B s := by
  unfold withS
  dsimp only
  split
  · rw [if_pos (by omega)]
    omega
  split
  · split
    · rw [if_pos (by omega)]
      omega
    · rw [if_neg (by omega)]
  · rw [if_neg (by omega)]
theorem row_shift {h h1 : HallR} (hs : h1.stage = h.stage) (l : LevR) (n i : Nat) (x : RowR × Nat) (B0 B : Nat) : (rowG h l n i (B0 + B) x).map (shiftP B0) = rowG h1 l 0 i B x := by
  unfold rowG rowPlaces
  rw [List.map_map]
  refine List.map_congr_left fun p _ => ?_
  show shiftP B0 _ = _
  unfold shiftP seatPlace
  dsimp only
  rw [withS_shift, hs]
  rfl
theorem area_shift {h h1 : HallR} (hs : h1.stage = h.stage) (l : LevR) (n : Nat) (x : AreaR × Nat) (B0 B : Nat) : (arG h l n (B0 + B) x).map (shiftP B0) = arG h1 l 0 B x := by
  unfold arG areaPlaces
  rw [List.map_map]
  refine List.map_congr_left fun p _ => ?_
  show shiftP B0 _ = _
  unfold shiftP
  dsimp only
  rw [if_neg (by omega), hs]
  rfl
theorem lev_shift {h h1 : HallR} (hs : h1.stage = h.stage) (l : LevR) (n B0 : Nat) : (levG h B0 (l, n)).map (shiftP B0) = levG h1 0 (l, 0) := by
  have hb : ∀ B, (growS (blkG h l n) l.blocks.zipIdx (B0 + B)).map (shiftP B0) = growS (blkG h1 l 0) l.blocks.zipIdx B := growS_map fun x _ B => growS_map (fun y _ B => row_shift hs l n x.2 y B0 B) B
  have hb0 := hb 0
  rw [Nat.add_zero] at hb0
  have hl : (growS (blkG h l n) l.blocks.zipIdx B0).length = (growS (blkG h1 l 0) l.blocks.zipIdx 0).length := by rw [← hb0, List.length_map]
  unfold levG
  dsimp only
  rw [List.map_append, hb0, hl, growS_map (fun x _ B => area_shift hs l n x B0 B), Nat.zero_add]

theorem places_split {h : HallR} {n : Nat} (hn : n < h.levels.length) : ∃ A C, placesS h = A ++ (levG h A.length (h.levels[n], n) ++ C) ∧ (∀ p ∈ A, p.level ≠ n) ∧ ∀ p ∈ C, p.level ≠ n := by
  have hz : h.levels.zipIdx = (h.levels.zipIdx.take n) ++ ((h.levels[n], n) :: h.levels.zipIdx.drop (n + 1)) := by
    have h1 : n < h.levels.zipIdx.length := by simpa using hn
    have := List.drop_eq_getElem_cons h1
    rw [List.getElem_zipIdx, Nat.zero_add] at this
    rw [← this, List.take_append_drop]
  refine ⟨growS (levG h) (h.levels.zipIdx.take n) 0, growS (levG h) (h.levels.zipIdx.drop (n + 1)) ((growS (levG h) (h.levels.zipIdx.take n) 0).length + (levG h (growS (levG h) (h.levels.zipIdx.take n) 0).length (h.levels[n], n)).length), ?_, fun p hp e => ?_, fun p hp e => ?_⟩
  · rw [places_grow]
    conv => lhs; rw [hz]
    rw [growS_append, Nat.zero_add, growS]
  · obtain ⟨x, hx, B, hp⟩ := growS_mem hp
    have := levG_level hp
    obtain ⟨i, hi, rfl⟩ := List.mem_iff_getElem.1 hx
    rw [List.getElem_take, List.getElem_zipIdx] at this
    rw [List.length_take] at hi
    dsimp only at this
    omega
  · obtain ⟨x, hx, B, hp⟩ := growS_mem hp
    have := levG_level hp
    obtain ⟨i, hi, rfl⟩ := List.mem_iff_getElem.1 hx
    rw [List.getElem_drop, List.getElem_zipIdx] at this
    dsimp only at this
    omega

/-- The first place of a level. -/
def firstP (P : List PlaceR) (n : Nat) : Nat := P.findIdx fun p => decide (p.level = (n : Int))
/-- What HallLevels gathers of the first i places. -/
def wantS (P : List PlaceR) (n i : Nat) : List PlaceR := ((P.take i).filter fun p => decide (p.level = (n : Int))).map (shiftP (firstP P n))

theorem level_alone {h h1 : HallR} {n : Nat} (hn : n < h.levels.length) (hl : h1.levels = [h.levels[n]]) (hs : h1.stage = h.stage) : wantS (placesS h) n (placesS h).length = placesS h1 := by
  obtain ⟨A, C, he, hA, hC⟩ := places_split hn
  have h1p : placesS h1 = levG h1 0 (h.levels[n], 0) := by
    rw [places_grow, hl]
    simp [growS]
  have hX : ∀ p ∈ levG h A.length (h.levels[n], n), p.level = n := fun p hp => levG_level hp
  unfold wantS
  rw [List.take_length]
  have hfil : (placesS h).filter (fun p => decide (p.level = (n : Int))) = levG h A.length (h.levels[n], n) := by
    have a1 : A.filter (fun p => decide (p.level = (n : Int))) = [] := List.filter_eq_nil_iff.2 (fun p hp => by simpa using hA p hp)
    have a2 : C.filter (fun p => decide (p.level = (n : Int))) = [] := List.filter_eq_nil_iff.2 (fun p hp => by simpa using hC p hp)
    have a3 : (levG h A.length (h.levels[n], n)).filter (fun p => decide (p.level = (n : Int))) = levG h A.length (h.levels[n], n) := List.filter_eq_self.2 (fun p hp => by simpa using hX p hp)
    rw [he, List.filter_append, List.filter_append, a1, a2, a3]
    simp
  rw [hfil, h1p]
  by_cases hx : levG h A.length (h.levels[n], n) = []
  · rw [← lev_shift hs h.levels[n] n A.length, hx]
    rfl
  · have hf : firstP (placesS h) n = A.length := by
      unfold firstP
      rw [he, List.findIdx_append]
      have h1 : A.findIdx (fun p => decide (p.level = (n : Int))) = A.length := List.findIdx_eq_length_of_false (fun p hp => by simpa using hA p hp)
      rw [if_neg (by omega), List.findIdx_append]
      cases hc : levG h A.length (h.levels[n], n) with
      | nil => exact absurd hc hx
      | cons x xs =>
        have hx2 := hX x (by rw [hc]; exact List.mem_cons_self ..)
        have h2 : (x :: xs).findIdx (fun p => decide (p.level = (n : Int))) = 0 := by
          rw [List.findIdx_cons]
          simp [hx2]
        rw [h2, if_pos (by simp)]
        omega
    rw [hf]
    exact lev_shift hs _ _ _

/-- The number of the first place, as it is found: -1 ahead of it. -/
def firstI (P : List PlaceR) (n i : Nat) : Int := if (P.take i).any (fun p => decide (p.level = (n : Int))) = true then (firstP P n : Nat) else -1
theorem firstI_zero (P : List PlaceR) (n : Nat) : firstI P n 0 = -1 := rfl
theorem wantS_zero (P : List PlaceR) (n : Nat) : wantS P n 0 = [] := rfl
theorem first_skip {P : List PlaceR} {n i : Nat} (hi : i < P.length) (h : P[i].level ≠ n) : firstI P n (i + 1) = firstI P n i ∧ wantS P n (i + 1) = wantS P n i := by
  unfold firstI wantS
  rw [List.take_succ_eq_append_getElem hi, List.any_append, List.filter_append]
  simp [h]
theorem first_take {P : List PlaceR} {n i : Nat} (hi : i < P.length) (h : P[i].level = n) : firstI P n (i + 1) = (if firstI P n i < 0 then (i : Int) else firstI P n i) ∧ wantS P n (i + 1) = wantS P n i ++ [shiftP (firstI P n (i + 1)) P[i]] := by
  have h1 : (P.take (i + 1)).any (fun p => decide (p.level = (n : Int))) = true := by
    rw [List.take_succ_eq_append_getElem hi, List.any_append]
    simp [h]
  have h2 : firstI P n (i + 1) = (firstP P n : Nat) := by
    unfold firstI
    rw [if_pos h1]
  refine ⟨?_, ?_⟩
  · rw [h2]
    cases hc : (P.take i).any (fun p => decide (p.level = (n : Int))) with
    | true =>
      unfold firstI
      rw [if_pos hc, if_neg (by omega)]
    | false =>
      have h4 : firstI P n i = -1 := by
        unfold firstI
        rw [if_neg (by rw [hc]; simp)]
      rw [h4, if_pos (by omega)]
      have h3 : firstP P n = i := by
        unfold firstP
        rw [List.findIdx_eq hi]
        refine ⟨by simpa using h, fun j hj => ?_⟩
        rw [List.any_eq_false] at hc
        have := hc P[j] (by
          rw [List.mem_iff_getElem]
          exact ⟨j, by rw [List.length_take]; omega, by rw [List.getElem_take]⟩)
        simpa using this
      rw [h3]
  · rw [h2]
    unfold wantS
    rw [List.take_succ_eq_append_getElem hi, List.filter_append, List.map_append]
    simp [h]
theorem wantS_len (P : List PlaceR) (n i : Nat) : (wantS P n i).length ≤ i := by
  unfold wantS
  rw [List.length_map]
  have := List.length_filter_le (fun p : PlaceR => decide (p.level = (n : Int))) (P.take i)
  rw [List.length_take] at this
  omega

/-! ### It has no faults -/
theorem sum_le {xs : List Int} (h : ∀ x ∈ xs, 0 ≤ x) : ∀ {y : Int}, y ∈ xs → y ≤ xs.sum := by
  induction xs with
  | nil => intro y hy; cases hy
  | cons x xs ih =>
    intro y hy
    have hs : 0 ≤ xs.sum := by
      clear ih hy
      induction xs with
      | nil => simp
      | cons z zs ih2 =>
        have h1 := h z (by simp)
        have h2 := ih2 (fun a ha => h a (by rcases List.mem_cons.1 ha with rfl | ha <;> simp [*]))
        rw [List.sum_cons]
        omega
    rw [List.sum_cons]
    rcases List.mem_cons.1 hy with rfl | hy
    · omega
    · have h1 := ih (fun a ha => h a (List.mem_cons_of_mem _ ha)) hy
      have h2 := h x (List.mem_cons_self ..)
      omega
theorem sum_pos {xs : List Int} (h : ∀ x ∈ xs, 0 ≤ x) : 0 ≤ xs.sum := by
  induction xs with
  | nil => simp
  | cons x xs ih =>
    rw [List.sum_cons]
    have h1 := h x (List.mem_cons_self ..)
    have h2 := ih fun a ha => h a (List.mem_cons_of_mem _ ha)
    omega
theorem levC_pos {l : LevR} (ha : ∀ a ∈ l.areas, 1 ≤ a.holds) : 0 ≤ levC l := by
  unfold levC
  have h1 : 0 ≤ (l.blocks.map rowsC).sum := sum_pos fun x hx => by
    obtain ⟨b, _, rfl⟩ := List.mem_map.1 hx
    unfold rowsC
    refine sum_pos fun y hy => ?_
    obtain ⟨r, _, rfl⟩ := List.mem_map.1 hy
    omega
  have h2 : 0 ≤ (l.areas.map (·.holds)).sum := sum_pos fun x hx => by
    obtain ⟨a, ha2, rfl⟩ := List.mem_map.1 hx
    have := ha a ha2
    omega
  omega
theorem one_level {h h1 : HallR} {n : Nat} (hf : faultsS h = []) (hn : n < h.levels.length) (hl : h1.levels = [h.levels[n]]) (hs : h1.stage = h.stage) : faultsS h1 = [] := by
  have hf0 := hf
  obtain ⟨hs1, hc, hv⟩ := single_of hf
  have H := noFault hf
  have hlm : h.levels[n] ∈ h.levels := List.getElem_mem hn
  have hst : (coordB h.stage.x && coordB h.stage.y) = true := by
    unfold faultsS at hf0
    rw [if_neg (fun e => e hs1)] at hf0
    by_cases hst : ¬ (coordB h.stage.x && coordB h.stage.y) = true
    · rw [if_pos hst] at hf0
      cases hf0
    · simpa using hst
  have hs2 : singleS h1 = [] := by
    unfold singleS at hs1 ⊢
    rw [hl]
    have h1 := flat_nil hs1 (zip_get hn)
    dsimp only at h1
    obtain ⟨h2, h3⟩ := List.append_eq_nil_iff.1 h1
    obtain ⟨h4, h5⟩ := List.append_eq_nil_iff.1 h2
    simp only [List.zipIdx_cons, List.zipIdx_nil, List.flatMap_cons, List.flatMap_nil, List.append_nil]
    rw [h3, h5, List.append_nil, List.append_nil]
    unfold levelFault at h4 ⊢
    dsimp only at h4 ⊢
    split at h4
    · cases h4
    split at h4
    · cases h4
    rename_i q1 q2
    rw [if_neg (by simp), if_neg (by omega)]
    exact h4
  have hc2 : countS h1 ≤ 4000 := by
    rw [count_eq, hl, List.map_cons, List.map_nil, List.sum_cons, List.sum_nil]
    rw [count_eq] at hc
    have := sum_le (xs := h.levels.map levC) (fun x hx => by
      obtain ⟨l, hl, rfl⟩ := List.mem_map.1 hx
      exact levC_pos fun a ha => (H.one.areas l hl a ha).2.1) (List.mem_map.2 ⟨_, hlm, rfl⟩)
    omega
  unfold faultsS
  rw [if_neg (fun e => e hs2), hs, if_neg (by rw [hst]; simp), if_neg (by omega), hl, List.flatMap_cons, List.flatMap_nil, List.append_nil]
  exact flat_nil hv hlm
end Go.Proofs.Ytmcdhggnpfhlmaa
