/- hall: plain: with a gap at a seat without a mark there are no faults, and all other places stay. -/
import Derived.Test.YtmcdhggnpfhlmaaQHGA04

namespace Go.Proofs.Ytmcdhggnpfhlmaa
open Go.RowKit Go.IntWalk
set_option linter.unusedSimpArgs false
set_option linter.unusedVariables false

/-! ### Places by things -/
/-- A row, with what is seen from a point, or an area's places. -/
inductive Itm
  | row (v : PntR → Int) (n i k : Nat) (r : RowR)
  | area (ps : List PlaceR)
def rowGV (v : PntR → Int) (n i k : Nat) (r : RowR) (B : Nat) : List PlaceR := (seatsS r).map fun p =>
  ⟨kindS (markS r.marks p.1).kind, n, i, k, p.1, p.2, r.y, if (markS r.marks p.1).kind = 3 then max (v ⟨p.2, r.y⟩) 2 else v ⟨p.2, r.y⟩, withS r B p.1⟩
def itmG (B : Nat) : Itm → List PlaceR
  | .row v n i k r => rowGV v n i k r B
  | .area ps => ps
def itemsB (h : HallR) (l : LevR) (n : Nat) (b : BlkR × Nat) : List Itm := b.1.rows.zipIdx.map fun r => .row (viewS h.stage l) n b.2 r.2 r.1
def itemsA (h : HallR) (l : LevR) (n : Nat) : List Itm := l.areas.zipIdx.map fun a => .area (areaPlaces h l n a.2 a.1)
def itemsL (h : HallR) (ln : LevR × Nat) : List Itm := ln.1.blocks.zipIdx.flatMap (itemsB h ln.1 ln.2) ++ itemsA h ln.1 ln.2
def itemsS (h : HallR) : List Itm := h.levels.zipIdx.flatMap (itemsL h)

theorem growS_flat {α β : Type} (g : Nat → β → List PlaceR) (f : α → List β) : ∀ (xs : List α) (B : Nat), growS g (xs.flatMap f) B = growS (fun B x => growS g (f x) B) xs B
  | [], _ => rfl
  | x :: xs, B => by rw [List.flatMap_cons, growS_append, growS, growS_flat g f xs]
theorem growS_ext {α : Type} {g g' : Nat → α → List PlaceR} (h : ∀ B x, g B x = g' B x) (xs : List α) (B : Nat) : growS g xs B = growS g' xs B := by
  have : g = g' := funext fun B => funext fun x => h B x
  rw [this]
theorem places_items (h : HallR) : placesS h = growS itmG (itemsS h) 0 := by
  rw [places_grow]
  unfold itemsS
  rw [growS_flat]
  refine growS_ext (fun B x => ?_) _ _
  unfold itemsL levG
  rw [growS_append, growS_flat]
  have hb : ∀ B, growS (fun B y => growS itmG (itemsB h x.1 x.2 y) B) x.1.blocks.zipIdx B = growS (blkG h x.1 x.2) x.1.blocks.zipIdx B := fun B => growS_ext (fun B (y : BlkR × Nat) => growS_congr (g := rowG h x.1 x.2 y.2) (g' := itmG) (f := fun r => .row (viewS h.stage x.1) x.2 y.2 r.2 r.1) (fun B z => rfl) _ _) _ _
  rw [hb]
  congr 1
  exact (growS_congr (g := arG h x.1 x.2) (g' := itmG) (f := fun a => .area (areaPlaces h x.1 x.2 a.2 a.1)) (fun B z => rfl) _ _).symm

/-! ### One is changed -/
def modS {α : Type} (n : Nat) (f : α → α) (xs : List α) : List α := xs.zipIdx.map fun x => if x.2 = n then f x.1 else x.1
theorem modS_len {α : Type} (n : Nat) (f : α → α) (xs : List α) : (modS n f xs).length = xs.length := by simp [modS]
theorem modS_zip {α : Type} (n : Nat) (f : α → α) (xs : List α) : (modS n f xs).zipIdx = xs.zipIdx.map fun x => (if x.2 = n then f x.1 else x.1, x.2) := by
  apply List.ext_getElem
  · simp [modS]
  · intro i h1 h2
    simp [modS]
theorem modS_mem {α : Type} {n : Nat} {f : α → α} {xs : List α} {y : α} (h : y ∈ modS n f xs) : ∃ x ∈ xs, y = x ∨ y = f x := by
  obtain ⟨x, hx, rfl⟩ := List.mem_map.1 h
  refine ⟨x.1, zip_fm hx, ?_⟩
  split
  · exact Or.inr rfl
  · exact Or.inl rfl
theorem modS_map {α β : Type} (n : Nat) (f : α → α) (nm : α → β) (hf : ∀ x, nm (f x) = nm x) (xs : List α) : (modS n f xs).map nm = xs.map nm := by
  apply List.ext_getElem
  · simp [modS]
  · intro i h1 h2
    simp only [modS, List.getElem_map, List.getElem_zipIdx]
    split
    · exact hf _
    · rfl
theorem modS_set {α : Type} (n : Nat) (f : α → α) (xs : List α) (hn : n < xs.length) : modS n f xs = xs.set n (f xs[n]) := by
  apply List.ext_getElem
  · simp [modS]
  · intro i h1 h2
    simp only [modS, List.getElem_map, List.getElem_zipIdx, List.getElem_set, Nat.zero_add]
    by_cases e : n = i
    · subst e; simp
    · rw [if_neg (fun h => e h.symm), if_neg e]
theorem find_mod {α : Type} {n : Nat} {f : α → α} {nm : α → Bst} (hf : ∀ x, nm (f x) = nm x) (xs : List α) (s : Bst) : (modS n f xs).findIdx (fun x => decide (nm x = s)) = xs.findIdx fun x => decide (nm x = s) := by
  have h1 : ∀ ys : List α, ys.findIdx (fun x => decide (nm x = s)) = (ys.map nm).findIdx fun y => decide (y = s) := fun ys => by
    rw [List.findIdx_map]
    rfl
  rw [h1, h1, modS_map n f nm hf]

def gapR (s : Int) (r : RowR) : RowR := { r with marks := r.marks ++ [⟨1, s, 0⟩] }
def gapB (k : Nat) (s : Int) (b : BlkR) : BlkR := { b with rows := modS k (gapR s) b.rows }
def gapL (i k : Nat) (s : Int) (l : LevR) : LevR := { l with blocks := modS i (gapB k s) l.blocks }
def gapH (n i k : Nat) (s : Int) (h : HallR) : HallR := { h with levels := modS n (gapL i k s) h.levels }
def gapIt (n i k : Nat) (s : Int) : Itm → Itm
  | .row v n' i' k' r => .row v n' i' k' (if n' = n ∧ i' = i ∧ k' = k then gapR s r else r)
  | .area ps => .area ps

theorem itemsB_gap (h h2 : HallR) (l l2 : LevR) (hv : viewS h2.stage l2 = viewS h.stage l) (n i k m j : Nat) (s : Int) (b : BlkR) : itemsB h2 l2 m (if m = n ∧ j = i then gapB k s b else b, j) = (itemsB h l m (b, j)).map (gapIt n i k s) := by
  unfold itemsB
  dsimp only
  rw [hv, List.map_map]
  by_cases e : m = n ∧ j = i
  · rw [if_pos e]
    show (modS k (gapR s) b.rows).zipIdx.map _ = _
    rw [modS_zip, List.map_map]
    refine List.map_congr_left fun x _ => ?_
    simp only [Function.comp_apply, gapIt, e.1, e.2, true_and]
  · rw [if_neg e]
    refine List.map_congr_left fun x _ => ?_
    have : ¬ (m = n ∧ j = i ∧ x.2 = k) := fun h => e ⟨h.1, h.2.1⟩
    simp only [Function.comp_apply, gapIt, if_neg this]
theorem itemsA_gap (h h2 : HallR) (l l2 : LevR) (hv : viewS h2.stage l2 = viewS h.stage l) (hb : l2.blocks.length = l.blocks.length) (ha : l2.areas = l.areas) (n i k m : Nat) (s : Int) : itemsA h2 l2 m = (itemsA h l m).map (gapIt n i k s) := by
  unfold itemsA
  rw [ha, List.map_map]
  refine List.map_congr_left fun x _ => ?_
  show Itm.area _ = Itm.area _
  congr 1
  unfold areaPlaces
  rw [hv, hb]
theorem items_gap (n i k : Nat) (s : Int) (h : HallR) : itemsS (gapH n i k s h) = (itemsS h).map (gapIt n i k s) := by
  unfold itemsS
  show (modS n (gapL i k s) h.levels).zipIdx.flatMap _ = _
  rw [modS_zip, List.flatMap_map, List.map_flatMap]
  congr 1
  funext x
  obtain ⟨l, m⟩ := x
  dsimp only
  unfold itemsL
  dsimp only
  rw [List.map_append, List.map_flatMap]
  by_cases e : m = n
  · rw [if_pos e, itemsA_gap h (gapH n i k s h) l (gapL i k s l) rfl (modS_len ..) rfl n i k m s]
    congr 1
    show (modS i (gapB k s) l.blocks).zipIdx.flatMap _ = _
    rw [modS_zip, List.flatMap_map]
    congr 1
    funext y
    have := itemsB_gap h (gapH n i k s h) l (gapL i k s l) rfl n i k m y.2 s y.1
    rw [← this]
    simp only [e, true_and]
  · rw [if_neg e, itemsA_gap h (gapH n i k s h) l l rfl rfl rfl n i k m s]
    congr 2
    funext y
    have := itemsB_gap h (gapH n i k s h) l l rfl n i k m y.2 s y.1
    rw [← this, if_neg (fun h => e h.1)]

/-- Things in order. -/
def keyLt : Itm → Itm → Prop
  | .row _ n i k _, .row _ n' i' k' _ => n < n' ∨ (n = n' ∧ (i < i' ∨ (i = i' ∧ k < k')))
  | _, _ => True
def levIt (n : Nat) : Itm → Prop
  | .row _ n' _ _ _ => n' = n
  | .area _ => True
theorem keyLt_area {x : Itm} {ps : List PlaceR} : keyLt x (.area ps) ∧ keyLt (.area ps) x := by cases x <;> exact ⟨trivial, trivial⟩
theorem items_order (h : HallR) : (itemsS h).Pairwise keyLt := by
  unfold itemsS
  rw [List.pairwise_flatMap]
  refine ⟨fun l hl => ?_, (zip_lt h.levels).imp fun {l m} hlm x hx y hy => ?_⟩
  · unfold itemsL
    rw [List.pairwise_append]
    refine ⟨?_, ?_, fun a ha b hb => ?_⟩
    · rw [List.pairwise_flatMap]
      refine ⟨fun b hb => ?_, (zip_lt l.1.blocks).imp fun {b c} hbc x hx y hy => ?_⟩
      · unfold itemsB
        rw [List.pairwise_map]
        exact (zip_lt b.1.rows).imp fun {r s} hrs => Or.inr ⟨rfl, Or.inr ⟨rfl, hrs⟩⟩
      · obtain ⟨r, _, rfl⟩ := List.mem_map.1 hx
        obtain ⟨s, _, rfl⟩ := List.mem_map.1 hy
        exact Or.inr ⟨rfl, Or.inl hbc⟩
    · unfold itemsA
      rw [List.pairwise_map]
      exact (zip_lt l.1.areas).imp fun _ => trivial
    · obtain ⟨c, _, rfl⟩ := List.mem_map.1 hb
      exact keyLt_area.1
  · have hlev : ∀ (l : LevR × Nat) (x : Itm), x ∈ itemsL h l → levIt l.2 x := fun l x hx => by
      rcases List.mem_append.1 hx with hx | hx
      · obtain ⟨b, _, hx⟩ := List.mem_flatMap.1 hx
        obtain ⟨r, _, rfl⟩ := List.mem_map.1 hx
        rfl
      · obtain ⟨a, _, rfl⟩ := List.mem_map.1 hx
        trivial
    have h1 := hlev l x hx
    have h2 := hlev m y hy
    cases x with
    | area ps => exact keyLt_area.2
    | row v n i k r =>
      cases y with
      | area ps => exact keyLt_area.1
      | row v' n' i' k' r' =>
        have e1 : n = l.2 := h1
        have e2 : n' = m.2 := h2
        exact Or.inl (by omega)
theorem row_item {h : HallR} {v : PntR → Int} {n i k : Nat} {r : RowR} (hm : Itm.row v n i k r ∈ itemsS h) : ∃ (hn : n < h.levels.length) (hi : i < h.levels[n].blocks.length) (hk : k < h.levels[n].blocks[i].rows.length), r = h.levels[n].blocks[i].rows[k] := by
  unfold itemsS at hm
  obtain ⟨l, hl, hm⟩ := List.mem_flatMap.1 hm
  obtain ⟨n', hn, rfl⟩ := List.mem_iff_getElem.1 hl
  simp only [List.length_zipIdx] at hn
  simp only [List.getElem_zipIdx, Nat.zero_add] at hm
  rcases List.mem_append.1 hm with hm | hm
  · obtain ⟨b, hb, hm⟩ := List.mem_flatMap.1 hm
    obtain ⟨i', hi, rfl⟩ := List.mem_iff_getElem.1 hb
    simp only [List.length_zipIdx] at hi
    simp only [List.getElem_zipIdx, Nat.zero_add] at hm
    obtain ⟨q, hq, e⟩ := List.mem_map.1 hm
    obtain ⟨k', hk, rfl⟩ := List.mem_iff_getElem.1 hq
    simp only [List.length_zipIdx] at hk
    simp only [List.getElem_zipIdx, Nat.zero_add, Itm.row.injEq] at e
    obtain ⟨_, rfl, rfl, rfl, rfl⟩ := e
    exact ⟨hn, hi, hk, rfl⟩
  · obtain ⟨a, _, e⟩ := List.mem_map.1 hm
    cases e
theorem area_item {h : HallR} {ps : List PlaceR} (hm : Itm.area ps ∈ itemsS h) : ∀ p ∈ ps, p.row = -1 ∧ p.wth = -1 := by
  unfold itemsS at hm
  obtain ⟨l, hl, hm⟩ := List.mem_flatMap.1 hm
  rcases List.mem_append.1 hm with hm | hm
  · obtain ⟨b, hb, hm⟩ := List.mem_flatMap.1 hm
    obtain ⟨q, hq, e⟩ := List.mem_map.1 hm
    cases e
  · obtain ⟨a, _, e⟩ := List.mem_map.1 hm
    cases e
    intro p hp
    unfold areaPlaces at hp
    obtain ⟨s, _, rfl⟩ := List.mem_map.1 hp
    exact ⟨rfl, rfl⟩

theorem growS_split {α : Type} {g : Nat → α → List PlaceR} : ∀ {xs : List α} {B t : Nat}, t < (growS g xs B).length → ∃ X x Y j, xs = X ++ x :: Y ∧ t = (growS g X B).length + j ∧ j < (g (B + (growS g X B).length) x).length
  | [], B, t, h => absurd h (Nat.not_lt_zero _)
  | x :: xs, B, t, h => by
    rw [growS, List.length_append] at h
    by_cases ht : t < (g B x).length
    · exact ⟨[], x, xs, t, rfl, by simp [growS], by simpa [growS] using ht⟩
    · obtain ⟨X, y, Y, j, e, e2, e3⟩ := growS_split (g := g) (xs := xs) (B := B + (g B x).length) (t := t - (g B x).length) (by omega)
      refine ⟨x :: X, y, Y, j, by rw [e]; rfl, ?_, ?_⟩
      · rw [growS, List.length_append]
        omega
      · rw [growS, List.length_append, ← Nat.add_assoc]
        exact e3

/-! ### The numbers of the companions -/
def decP (t : Nat) (p : PlaceR) : PlaceR := { p with wth := if (t : Int) < p.wth then p.wth - 1 else p.wth }
def NoWth (xs : List Itm) : Prop := ∀ ps, Itm.area ps ∈ xs → ∀ p ∈ ps, p.wth = -1
theorem placeOf_le (r : RowR) (s : Int) : placeOf r s ≤ (seatsS r).length := List.findIdx_le_length
theorem withS_range (r : RowR) (B : Nat) (s : Int) : withS r B s = -1 ∨ ∃ k : Nat, withS r B s = ((B + k : Nat) : Int) ∧ k ≤ (seatsS r).length := by
  unfold withS
  dsimp only
  split
  · exact Or.inr ⟨_, rfl, placeOf_le _ _⟩
  split
  · split
    · exact Or.inr ⟨_, rfl, placeOf_le _ _⟩
    · exact Or.inl rfl
  · exact Or.inl rfl
theorem wth_le : ∀ {xs : List Itm} {B : Nat}, NoWth xs → ∀ p ∈ growS itmG xs B, p.wth ≤ ((B + (growS itmG xs B).length : Nat) : Int)
  | [], B, _, p, hp => by cases hp
  | x :: xs, B, hn, p, hp => by
    rw [growS, List.length_append]
    rw [growS, List.mem_append] at hp
    rcases hp with hp | hp
    · cases x with
      | area ps =>
        have := hn ps (List.mem_cons_self ..) p hp
        omega
      | row v n i k r =>
        have hl : (itmG B (.row v n i k r)).length = (seatsS r).length := List.length_map ..
        obtain ⟨q, hq, rfl⟩ := List.mem_map.1 hp
        dsimp only
        rcases withS_range r B q.1 with e | ⟨c, e, hc⟩ <;> rw [e] <;> omega
    · have := wth_le (xs := xs) (B := B + (itmG B x).length) (fun ps hps => hn ps (List.mem_cons_of_mem _ hps)) p hp
      omega
theorem withS_dec (r : RowR) {t B : Nat} (ht : t ≤ B) (s : Int) : (if (t : Int) < withS r (B + 1) s then withS r (B + 1) s - 1 else withS r (B + 1) s) = withS r B s := by
  unfold withS
  dsimp only
  split
  · rw [if_pos (by omega)]
    omega
  split
  · split
    · rw [if_pos (by omega)]
      omega
    · rw [if_neg (by omega)]
  · rw [if_neg (by omega)]
theorem dec_later {t : Nat} : ∀ {xs : List Itm} {B : Nat}, t ≤ B → NoWth xs → (growS itmG xs (B + 1)).map (decP t) = growS itmG xs B
  | [], B, _, _ => rfl
  | x :: xs, B, ht, hn => by
    have h1 : (itmG (B + 1) x).map (decP t) = itmG B x := by
      cases x with
      | area ps =>
        show ps.map (decP t) = ps
        conv => rhs; rw [← List.map_id ps]
        refine List.map_congr_left fun p hp => ?_
        have := hn ps (List.mem_cons_self ..) p hp
        unfold decP
        rw [this, if_neg (by omega), ← this]
        rfl
      | row v n i k r =>
        show (rowGV v n i k r (B + 1)).map (decP t) = rowGV v n i k r B
        unfold rowGV
        rw [List.map_map]
        refine List.map_congr_left fun p hp => ?_
        show decP t _ = _
        unfold decP
        dsimp only
        rw [withS_dec r ht]
    have h2 : (itmG (B + 1) x).length = (itmG B x).length := by rw [← h1, List.length_map]
    rw [growS, growS, List.map_append, h1, h2, Nat.add_right_comm, dec_later (by omega) fun ps hps => hn ps (List.mem_cons_of_mem _ hps)]
theorem dec_early {t : Nat} {xs : List PlaceR} (h : ∀ p ∈ xs, p.wth ≤ (t : Int)) : xs.map (decP t) = xs := by
  conv => rhs; rw [← List.map_id xs]
  refine List.map_congr_left fun p hp => ?_
  unfold decP
  have := h p hp
  rw [if_neg (by omega)]
  rfl

/-! ### The row itself -/
theorem mark_gap (ms : List MarkR) (s x : Int) : markS (ms ++ [⟨1, s, 0⟩]) x = if x = s ∧ ∀ m ∈ ms, m.seat ≠ s then ⟨1, s, 0⟩ else markS ms x := by
  unfold markS
  rw [List.find?_append]
  cases hf : ms.find? fun m => decide (m.seat = x) with
  | some m =>
    rw [if_neg]
    · rfl
    · rintro ⟨rfl, h⟩
      have h1 := List.find?_some hf
      exact h m (List.mem_of_find?_eq_some hf) (by simpa using h1)
  | none =>
    rw [List.find?_eq_none] at hf
    by_cases e : x = s
    · subst e
      rw [if_pos ⟨rfl, fun m hm => by simpa using hf m hm⟩]
      simp
    · rw [if_neg (fun h => e h.1)]
      have : ¬ s = x := fun h => e h.symm
      simp [this]
theorem seats_sub (s : Int) (r : RowR) : ∀ p ∈ seatsS (gapR s r), p ∈ seatsS r := by
  intro p hp
  unfold seatsS at hp ⊢
  obtain ⟨h1, h2⟩ := List.mem_filter.1 hp
  refine List.mem_filter.2 ⟨h1, ?_⟩
  have e : (gapR s r).marks = r.marks ++ [⟨1, s, 0⟩] := rfl
  rw [e, mark_gap] at h2
  split at h2
  · simp at h2
  · exact h2
theorem filter_erase : ∀ {xs : List (Int × Int)}, xs.Pairwise (fun a b => a.1 < b.1) → ∀ (j : Nat) (hj : j < xs.length), xs.filter (fun p => !decide (p.1 = xs[j].1)) = xs.eraseIdx j
  | [], _, j, hj => absurd hj (Nat.not_lt_zero _)
  | x :: xs, hp, 0, hj => by
    rw [List.pairwise_cons] at hp
    simp only [List.getElem_cons_zero, List.eraseIdx_cons_zero]
    rw [List.filter_cons_of_neg (by simp), List.filter_eq_self]
    intro y hy
    have := hp.1 y hy
    simp only [Bool.not_eq_true', decide_eq_false_iff_not]
    omega
  | x :: xs, hp, j + 1, hj => by
    rw [List.pairwise_cons] at hp
    have hj' : j < xs.length := by simpa using hj
    simp only [List.getElem_cons_succ, List.eraseIdx_cons_succ]
    have h1 := hp.1 xs[j] (List.getElem_mem hj')
    rw [List.filter_cons_of_pos (by simp only [Bool.not_eq_true', decide_eq_false_iff_not]; omega), filter_erase hp.2 j hj']
theorem seats_gap {r : RowR} (hok : RowOk r) {j : Nat} (hj : j < (seatsS r).length) (hno : ∀ m ∈ r.marks, m.seat ≠ (seatsS r)[j].1) : seatsS (gapR (seatsS r)[j].1 r) = (seatsS r).eraseIdx j := by
  rw [← filter_erase ((seats_order hok).imp fun h => h.1) j hj]
  generalize (seatsS r)[j].1 = s at *
  unfold seatsS
  rw [List.filter_filter]
  show (List.map _ _).filter _ = _
  congr 1
  funext p
  have e : (gapR s r).marks = r.marks ++ [⟨1, s, 0⟩] := rfl
  rw [e, mark_gap]
  by_cases hp : p.1 = s
  · rw [if_pos ⟨hp, hno⟩]
    simp [hp]
  · rw [if_neg (fun h => hp h.1)]
    simp [hp]
theorem find_at : ∀ {xs : List (Int × Int)}, xs.Pairwise (fun a b => a.1 < b.1) → ∀ (a : Nat) (ha : a < xs.length), (xs.findIdx fun p => decide (p.1 = xs[a].1)) = a
  | [], _, a, ha => absurd ha (Nat.not_lt_zero _)
  | x :: xs, hp, 0, ha => by simp [List.findIdx_cons]
  | x :: xs, hp, a + 1, ha => by
    rw [List.pairwise_cons] at hp
    have ha' : a < xs.length := by simpa using ha
    have h1 := hp.1 xs[a] (List.getElem_mem ha')
    simp only [List.getElem_cons_succ]
    rw [List.findIdx_cons]
    have : ¬ x.1 = xs[a].1 := by omega
    simp only [this, decide_false, cond_false]
    rw [find_at hp.2 a ha']
theorem place_gap {r : RowR} (hok : RowOk r) {j : Nat} (hj : j < (seatsS r).length) (hno : ∀ m ∈ r.marks, m.seat ≠ (seatsS r)[j].1) {a : Nat} (ha : a < (seatsS r).length) (hne : (seatsS r)[a].1 ≠ (seatsS r)[j].1) (B : Nat) :
    ((B + placeOf (gapR (seatsS r)[j].1 r) (seatsS r)[a].1 : Nat) : Int) = if ((B + j : Nat) : Int) < ((B + placeOf r (seatsS r)[a].1 : Nat) : Int) then ((B + placeOf r (seatsS r)[a].1 : Nat) : Int) - 1 else ((B + placeOf r (seatsS r)[a].1 : Nat) : Int) := by
  have hp := (seats_order hok).imp fun {p q} h => h.1
  have h1 : placeOf r (seatsS r)[a].1 = a := find_at hp a ha
  have haj : a ≠ j := fun e => hne (by subst e; rfl)
  have hp2 : ((seatsS r).eraseIdx j).Pairwise (fun p q => p.1 < q.1) := hp.sublist (List.eraseIdx_sublist ..)
  have hl : ((seatsS r).eraseIdx j).length = (seatsS r).length - 1 := by rw [List.length_eraseIdx, if_pos hj]
  have h2 : placeOf (gapR (seatsS r)[j].1 r) (seatsS r)[a].1 = if j < a then a - 1 else a := by
    unfold placeOf
    rw [seats_gap hok hj hno]
    by_cases hlt : j < a
    · rw [if_pos hlt]
      have e := find_at hp2 (a - 1) (by omega)
      rw [List.getElem_eraseIdx, dif_neg (by omega)] at e
      have e2 : a - 1 + 1 = a := by omega
      simp only [e2] at e
      exact e
    · rw [if_neg hlt]
      have e := find_at hp2 a (by omega)
      rw [List.getElem_eraseIdx, dif_pos (by omega)] at e
      exact e
  rw [h1, h2]
  by_cases hlt : j < a
  · rw [if_pos hlt, if_pos (by omega)]
    omega
  · rw [if_neg hlt, if_neg (by omega)]
theorem find_ext {α : Type} {p q : α → Bool} : ∀ {xs : List α}, (∀ x ∈ xs, p x = q x) → xs.find? p = xs.find? q
  | [], _ => rfl
  | x :: xs, h => by rw [List.find?_cons, List.find?_cons, h x (List.mem_cons_self ..), find_ext fun y hy => h y (List.mem_cons_of_mem _ hy)]
theorem with_gap {r : RowR} (hok : RowOk r) (hw : Wheels r) {j : Nat} (hj : j < (seatsS r).length) (hno : ∀ m ∈ r.marks, m.seat ≠ (seatsS r)[j].1) {x : Int} (hx : x ≠ (seatsS r)[j].1) (hx2 : ∃ (a : Nat) (ha : a < (seatsS r).length), (seatsS r)[a].1 = x) (B : Nat) :
    withS (gapR (seatsS r)[j].1 r) B x = if ((B + j : Nat) : Int) < withS r B x then withS r B x - 1 else withS r B x := by
  have hm : ∀ y, y ≠ (seatsS r)[j].1 → markS (gapR (seatsS r)[j].1 r).marks y = markS r.marks y := fun y hy => by
    have e : (gapR (seatsS r)[j].1 r).marks = r.marks ++ [⟨1, (seatsS r)[j].1, 0⟩] := rfl
    rw [e, mark_gap, if_neg (fun h => hy h.1)]
  have hk0 : (markS r.marks (seatsS r)[j].1).kind = 0 := by
    unfold markS
    rw [List.find?_eq_none.2 (fun m hm => by simpa using hno m hm)]
    rfl
  unfold withS
  dsimp only
  rw [hm x hx]
  by_cases h4 : (markS r.marks x).kind = 4
  · rw [if_pos h4, if_pos h4]
    obtain ⟨a, ha, rfl⟩ := hx2
    obtain ⟨b, hb, e, hk⟩ := hw a ha h4
    rw [e]
    refine place_gap hok hj hno hb (fun e2 => ?_) B
    rw [e2, hk0] at hk
    cases hk
  rw [if_neg h4, if_neg h4]
  by_cases h2 : (markS r.marks x).kind = 2
  · rw [if_pos h2, if_pos h2]
    have hs : (seatsS (gapR (seatsS r)[j].1 r)).find? (fun q => decide ((markS (gapR (seatsS r)[j].1 r).marks q.1).kind = 4) && decide ((markS (gapR (seatsS r)[j].1 r).marks q.1).wth = x)) = (seatsS r).find? fun q => decide ((markS r.marks q.1).kind = 4) && decide ((markS r.marks q.1).wth = x) := by
      rw [seats_gap hok hj hno, ← filter_erase ((seats_order hok).imp fun h => h.1) j hj, find_ext (q := fun q => decide ((markS r.marks q.1).kind = 4) && decide ((markS r.marks q.1).wth = x)), List.find?_filter]
      · refine find_ext fun q hq => ?_
        by_cases e : q.1 = (seatsS r)[j].1
        · rw [e, hk0]
          simp
        · simp [e]
      · intro q hq
        have := (List.mem_filter.1 hq).2
        rw [hm q.1 (by simpa using this)]
    rw [hs]
    cases hf : (seatsS r).find? fun q => decide ((markS r.marks q.1).kind = 4) && decide ((markS r.marks q.1).wth = x) with
    | none =>
      dsimp only
      rw [if_neg (by omega)]
    | some q =>
      dsimp only
      have h1 := List.find?_some hf
      obtain ⟨b, hb, rfl⟩ := List.mem_iff_getElem.1 (List.mem_of_find?_eq_some hf)
      refine place_gap hok hj hno hb (fun e2 => ?_) B
      rw [e2, hk0] at h1
      simp at h1
  · rw [if_neg h2, if_neg h2, if_neg (by omega)]
theorem row_gap {r : RowR} (hok : RowOk r) (hw : Wheels r) {j : Nat} (hj : j < (seatsS r).length) (hno : ∀ m ∈ r.marks, m.seat ≠ (seatsS r)[j].1) (v : PntR → Int) (n i k B : Nat) :
    rowGV v n i k (gapR (seatsS r)[j].1 r) B = ((rowGV v n i k r B).eraseIdx j).map (decP (B + j)) := by
  unfold rowGV
  rw [List.eraseIdx_eq_take_drop_succ, ← List.map_take, ← List.map_drop, ← List.map_append, ← List.eraseIdx_eq_take_drop_succ, seats_gap hok hj hno, List.map_map]
  refine List.map_congr_left fun p hp => ?_
  have hp2 := hp
  rw [← filter_erase ((seats_order hok).imp fun h => h.1) j hj] at hp2
  obtain ⟨h1, h2⟩ := List.mem_filter.1 hp2
  have hne : p.1 ≠ (seatsS r)[j].1 := by simpa using h2
  obtain ⟨a, ha, e⟩ := List.mem_iff_getElem.1 h1
  have hm : markS (gapR (seatsS r)[j].1 r).marks p.1 = markS r.marks p.1 := by
    have e : (gapR (seatsS r)[j].1 r).marks = r.marks ++ [⟨1, (seatsS r)[j].1, 0⟩] := rfl
    rw [e, mark_gap, if_neg (fun h => hne h.1)]
  show _ = decP _ _
  unfold decP
  dsimp only
  rw [hm, with_gap hok hw hj hno hne ⟨a, ha, by rw [e]⟩ B]
  rfl

/-! ### All places -/
theorem gapIt_self {n i k : Nat} {s : Int} {v : PntR → Int} {r : RowR} {X : List Itm} (h : ∀ x ∈ X, keyLt x (.row v n i k r) ∨ keyLt (.row v n i k r) x) : X.map (gapIt n i k s) = X := by
  conv => rhs; rw [← List.map_id X]
  refine List.map_congr_left fun x hx => ?_
  cases x with
  | area ps => rfl
  | row v' n' i' k' r' =>
    show Itm.row _ _ _ _ (if _ then _ else _) = _
    rw [if_neg]
    · rfl
    · rintro ⟨rfl, rfl, rfl⟩
      have := h _ hx
      unfold keyLt at this
      omega
theorem erase_at {α : Type} {A M C : List α} {t j : Nat} (ht : t = A.length + j) (hj : j < M.length) : (A ++ (M ++ C)).eraseIdx t = A ++ (M.eraseIdx j ++ C) := by
  rw [ht, List.eraseIdx_append_of_length_le (by omega), Nat.add_sub_cancel_left, List.eraseIdx_append_of_lt_length hj]

theorem rowGV_get {v : PntR → Int} {n i k : Nat} {r : RowR} {B j : Nat} (hj : j < (rowGV v n i k r B).length) (hj2 : j < (seatsS r).length) :
    (rowGV v n i k r B)[j].level = n ∧ (rowGV v n i k r B)[j].block = i ∧ (rowGV v n i k r B)[j].row = k ∧ (rowGV v n i k r B)[j].seat = (seatsS r)[j].1 := by
  have e : (rowGV v n i k r B)[j] = ⟨kindS (markS r.marks (seatsS r)[j].1).kind, n, i, k, (seatsS r)[j].1, (seatsS r)[j].2, r.y, if (markS r.marks (seatsS r)[j].1).kind = 3 then max (v ⟨(seatsS r)[j].2, r.y⟩) 2 else v ⟨(seatsS r)[j].2, r.y⟩, withS r B (seatsS r)[j].1⟩ := List.getElem_map ..
  rw [e]
  exact ⟨rfl, rfl, rfl, rfl⟩

/-- What is known of a seat. -/
structure SeatAt (h : HallR) (t : Nat) (p : PlaceR) (n i k : Nat) (r : RowR) : Prop where
  hn : ∃ (hn : n < h.levels.length) (hi : i < h.levels[n].blocks.length) (hk : k < h.levels[n].blocks[i].rows.length), r = h.levels[n].blocks[i].rows[k]
  lev : p.level = n
  blk : p.block = i
  row : p.row = k
  lo : r.fr ≤ p.seat
  hi : p.seat ≤ r.to
  gap : (∀ m ∈ r.marks, m.seat ≠ p.seat) → placesS (gapH n i k p.seat h) = ((placesS h).eraseIdx t).map (decP t)
theorem seat_at {h : HallR} (hs : NoSingle h) {t : Nat} (ht : t < (placesS h).length) (hr : 0 ≤ (placesS h)[t].row) : ∃ n i k r, SeatAt h t (placesS h)[t] n i k r := by
  have ht2 := ht
  rw [places_items] at ht2
  obtain ⟨X, x, Y, j, e, e2, e3⟩ := growS_split ht2
  have hno : NoWth (itemsS h) := fun ps hps p hp => (area_item hps p hp).2
  have hord := items_order h
  have hpl : placesS h = growS itmG X 0 ++ (itmG (growS itmG X 0).length x ++ growS itmG Y ((growS itmG X 0).length + (itmG (growS itmG X 0).length x).length)) := by
    rw [places_items, e, growS_append, Nat.zero_add, growS]
  rw [Nat.zero_add] at e3
  have hmx : x ∈ itemsS h := by rw [e]; simp
  have hget : (placesS h)[t] = (itmG (growS itmG X 0).length x)[j] := by
    have h1 : (placesS h)[t]? = (itmG (growS itmG X 0).length x)[j]? := by
      rw [hpl, e2, List.getElem?_append_right (by omega), Nat.add_sub_cancel_left, List.getElem?_append_left e3]
    rw [List.getElem?_eq_getElem ht, List.getElem?_eq_getElem e3] at h1
    simpa using h1
  cases x with
  | area ps =>
    have := (area_item hmx _ (List.getElem_mem e3)).1
    rw [hget] at hr
    have h2 : (itmG (growS itmG X 0).length (.area ps))[j].row = -1 := this
    omega
  | row v n i k r =>
    obtain ⟨hn, hi, hk, hre⟩ := row_item hmx
    obtain ⟨hok, hw⟩ := hs.rows _ (List.getElem_mem hn) _ (List.getElem_mem hi) _ (List.getElem_mem hk)
    rw [← hre] at hok hw
    have hj : j < (seatsS r).length := by
      have : (itmG (growS itmG X 0).length (.row v n i k r)).length = (seatsS r).length := List.length_map ..
      omega
    have hp : (placesS h)[t].level = n ∧ (placesS h)[t].block = i ∧ (placesS h)[t].row = k ∧ (placesS h)[t].seat = (seatsS r)[j].1 := by
      rw [hget]
      exact rowGV_get e3 hj
    obtain ⟨p1, p2, p3, p4⟩ := hp
    have hrg := seat_range hok (List.getElem_mem hj)
    refine ⟨n, i, k, r, ⟨⟨hn, hi, hk, hre⟩, p1, p2, p3, by rw [p4]; exact hrg.1, by rw [p4]; exact hrg.2.1, fun hnm => ?_⟩⟩
    rw [p4] at hnm ⊢
    rw [places_items, items_gap, e, List.map_append, List.map_cons]
    rw [e, List.pairwise_append] at hord
    obtain ⟨_, o2, o3⟩ := hord
    rw [List.pairwise_cons] at o2
    rw [gapIt_self (v := v) (r := r) (fun x hx => Or.inl (o3 x hx _ (List.mem_cons_self ..))), gapIt_self (v := v) (r := r) (fun x hx => Or.inr (o2.1 x hx))]
    have hg : gapIt n i k (seatsS r)[j].1 (.row v n i k r) = .row v n i k (gapR (seatsS r)[j].1 r) := by
      show Itm.row _ _ _ _ (if _ then _ else _) = _
      rw [if_pos ⟨rfl, rfl, rfl⟩]
    rw [hg, growS_append, Nat.zero_add, growS, hpl, erase_at e2 e3, List.map_append, List.map_append]
    have hnX : NoWth X := fun ps hps => hno ps (by rw [e]; exact List.mem_append_left _ hps)
    have hnY : NoWth Y := fun ps hps => hno ps (by rw [e]; exact List.mem_append_right _ (List.mem_cons_of_mem _ hps))
    rw [dec_early (t := t) (fun p hp => by have := wth_le hnX p hp; omega)]
    congr 1
    have hrow : itmG (growS itmG X 0).length (.row v n i k (gapR (seatsS r)[j].1 r)) = ((itmG (growS itmG X 0).length (.row v n i k r)).eraseIdx j).map (decP t) := by
      rw [e2]
      exact row_gap hok hw hj hnm v n i k _
    rw [hrow]
    congr 1
    have hl : (List.map (decP t) ((itmG (growS itmG X 0).length (.row v n i k r)).eraseIdx j)).length = (itmG (growS itmG X 0).length (.row v n i k r)).length - 1 := by
      rw [List.length_map, List.length_eraseIdx, if_pos e3]
    rw [hl]
    have hB : (growS itmG X 0).length + (itmG (growS itmG X 0).length (.row v n i k r)).length = (growS itmG X 0).length + ((itmG (growS itmG X 0).length (.row v n i k r)).length - 1) + 1 := by omega
    rw [hB]
    exact (dec_later (by omega) hnY).symm
end Go.Proofs.Ytmcdhggnpfhlmaa
