/- hall: plain: other names, offsets and addresses make no difference. -/
import Derived.Test.YtmcdhggnpfhlmaaQHGA03

namespace Go.Proofs.Ytmcdhggnpfhlmaa
open Go.RowKit Go.IntWalk
set_option linter.unusedSimpArgs false
set_option linter.unusedVariables false

/-! A plan with a text ahead of all names, without offsets and addresses. -/
def mR (p : Bst) (r : RowR) : RowR := ⟨p ++ r.name, r.x, r.y, r.fr, r.to, r.step, none, 0, 0, r.marks, 0⟩
def mB (p : Bst) (b : BlkR) : BlkR := ⟨p ++ b.name, none, 0, 0, b.rows.map (mR p), 0⟩
def mA (p : Bst) (a : AreaR) : AreaR := ⟨p ++ a.name, a.box, a.holds, 0⟩
def mL (p : Bst) (l : LevR) : LevR := ⟨p ++ l.name, l.height, none, 0, 0, l.blocks.map (mB p), none, 0, 0, l.areas.map (mA p), none, 0, 0, l.aisles, none, 0, 0, l.pillars, none, 0, 0, l.doors, 0⟩
def mH (p : Bst) (h : HallR) : HallR := ⟨[], h.stage, none, 0, 0, h.levels.map (mL p)⟩
def errs (f : List FaultR) : List Int := f.map (·.err)

theorem find_name {α : Type} {f : α → α} {nm : α → Bst} {p : Bst} (hf : ∀ x, nm (f x) = p ++ nm x) (xs : List α) (s : Bst) : (xs.map f).findIdx (fun x => decide (nm x = p ++ s)) = xs.findIdx fun x => decide (nm x = s) := by
  rw [List.findIdx_map]
  congr 1
  funext x
  simp [hf]
theorem errs_append (a b : List FaultR) : errs (a ++ b) = errs a ++ errs b := List.map_append
theorem errs_flat {α : Type} (xs : List α) (f : α → List FaultR) : errs (xs.flatMap f) = xs.flatMap fun x => errs (f x) := List.map_flatMap
theorem zip_map {α β : Type} (xs : List α) (f : α → β) : (xs.map f).zipIdx = xs.zipIdx.map fun x => (f x.1, x.2) := by
  rw [List.zipIdx_map]
  rfl

theorem row_errs (p : Bst) (rows : List RowR) (k : Nat) (r : RowR) : errs (rowFault (rows.map (mR p)) k (mR p r)) = errs (rowFault rows k r) := by
  have h1 : (rows.map (mR p)).findIdx (fun x => decide (x.name = (mR p r).name)) = rows.findIdx fun x => decide (x.name = r.name) := find_name (f := mR p) (nm := fun x : RowR => x.name) (fun _ => rfl) rows r.name
  unfold rowFault
  rw [h1]
  dsimp only
  show errs (if _ then _ else if r.fr < 1 ∨ r.to < r.fr ∨ 10000 < r.to ∨ r.step < 1 ∨ ¬ (coordB r.x = true) ∨ ¬ (coordB r.y = true) then _ else if r.fr < r.to ∧ (10000 < r.step ∨ ¬ (coordB (r.x + (r.to - r.fr) * r.step) = true)) then _ else if 60 ≤ r.to - r.fr ∨ 60 < r.marks.length then _ else if marksS r = 0 then [] else [⟨marksS r, _, -1⟩]) = _
  repeat' split
  all_goals rfl
theorem block_errs (p : Bst) (bs : List BlkR) (i : Nat) (b : BlkR) : errs (blockFault (bs.map (mB p)) i (mB p b)) = errs (blockFault bs i b) := by
  have h1 : (bs.map (mB p)).findIdx (fun x => decide (x.name = (mB p b).name)) = bs.findIdx fun x => decide (x.name = b.name) := find_name (f := mB p) (nm := fun x : BlkR => x.name) (fun _ => rfl) bs b.name
  have h2 : (mB p b).rows.length = b.rows.length := List.length_map ..
  unfold blockFault
  rw [h1, h2]
  dsimp only
  repeat' split
  all_goals rfl
theorem area_errs (p : Bst) (l : LevR) (i : Nat) (a : AreaR) : errs (areaFault (mL p l) i (mA p a)) = errs (areaFault l i a) := by
  have h1 : (mL p l).blocks.findIdx (fun x => decide (x.name = (mA p a).name)) = l.blocks.findIdx fun x => decide (x.name = a.name) := find_name (f := mB p) (nm := fun x : BlkR => x.name) (fun _ => rfl) l.blocks a.name
  have h2 : (mL p l).areas.findIdx (fun x => decide (x.name = (mA p a).name)) = l.areas.findIdx fun x => decide (x.name = a.name) := find_name (f := mA p) (nm := fun x : AreaR => x.name) (fun _ => rfl) l.areas a.name
  have h3 : (mL p l).blocks.length = l.blocks.length := List.length_map ..
  unfold areaFault
  rw [h1, h2, h3]
  dsimp only
  show errs (if _ then _ else if _ then _ else if ¬ (boxB a.box = true) ∨ a.holds < 1 ∨ 4000 < a.holds then _ else _) = _
  repeat' split
  all_goals rfl
theorem level_errs (p : Bst) (ls : List LevR) (n : Nat) (l : LevR) : errs (levelFault (ls.map (mL p)) n (mL p l)) = errs (levelFault ls n l) := by
  have h1 : (ls.map (mL p)).findIdx (fun x => decide (x.name = (mL p l).name)) = ls.findIdx fun x => decide (x.name = l.name) := find_name (f := mL p) (nm := fun x : LevR => x.name) (fun _ => rfl) ls l.name
  have h2 : (mL p l).blocks.length = l.blocks.length := List.length_map ..
  have h3 : (mL p l).areas.length = l.areas.length := List.length_map ..
  unfold levelFault
  rw [h1, h2, h3]
  dsimp only
  show errs (if _ then _ else if 8 ≤ n ∨ 40 < l.blocks.length + l.areas.length ∨ 40 < l.aisles.length ∨ 40 < l.pillars.length ∨ 40 < l.doors.length then _ else if !coordB l.height || ((l.aisles ++ l.pillars).any fun b => !boxB b) || (l.doors.any fun p => !(coordB p.x && coordB p.y)) then _ else _) = _
  repeat' split
  all_goals rfl
theorem single_errs (p : Bst) (h : HallR) : errs (singleS (mH p h)) = errs (singleS h) := by
  unfold singleS
  show errs ((h.levels.map (mL p)).zipIdx.flatMap _) = _
  rw [zip_map, List.flatMap_map, errs_flat, errs_flat]
  congr 1
  funext x
  obtain ⟨l, n⟩ := x
  dsimp only
  rw [errs_append, errs_append, errs_append, errs_append]
  congr 1
  · congr 1
    · exact level_errs p h.levels n l
    · show errs ((l.blocks.map (mB p)).zipIdx.flatMap _) = _
      rw [zip_map, List.flatMap_map, errs_flat, errs_flat]
      congr 1
      funext y
      obtain ⟨b, i⟩ := y
      dsimp only
      rw [errs_append, errs_append]
      congr 1
      · exact block_errs p l.blocks i b
      · show errs ((b.rows.map (mR p)).zipIdx.flatMap _) = _
        rw [zip_map, List.flatMap_map, errs_flat, errs_flat]
        congr 1
        funext z
        exact row_errs p b.rows z.2 z.1
  · show errs ((l.areas.map (mA p)).zipIdx.flatMap _) = _
    rw [zip_map, List.flatMap_map, errs_flat, errs_flat]
    congr 1
    funext y
    exact area_errs p l y.2 y.1

theorem rows_named (p : Bst) (l : LevR) : allRows (mL p l) = (allRows l).map (mR p) := by
  unfold allRows
  show (l.blocks.map (mB p)).flatMap _ = _
  rw [List.flatMap_map, List.map_flatMap]
  rfl
theorem errs_map {α : Type} (xs : List α) (e : Int) (f g : α → Int) : errs (xs.map fun x => ⟨e, f x, g x⟩) = xs.map fun _ => e := by
  unfold errs
  rw [List.map_map]
  rfl
theorem errs_mapL {α : Type} (xs : List α) (e : Int) (f g : α → Int) : errs (xs.map fun x => ⟨e, f x, g x⟩) = List.replicate xs.length e := by
  rw [errs_map, List.map_const']
theorem filter_len {α β : Type} (xs : List α) (f : α → β) (p : β → Bool) (q : α → Bool) (h : ∀ x, p (f x) = q x) : ((xs.map f).filter p).length = (xs.filter q).length := by
  rw [List.filter_map, List.length_map]
  congr 2
  funext x
  exact h x
theorem several_errs (p : Bst) (re : List Bool) (l : LevR) : errs (severalR re (mL p l)) = errs (severalR re l) := by
  unfold severalR
  rw [rows_named, errs_append, errs_append]
  congr 1
  · rw [zip_map, List.flatMap_map, errs_flat, errs_flat]
    congr 1
    funext x
    obtain ⟨r, k⟩ := x
    dsimp only
    rw [← List.map_take]
    unfold rowFaults
    rw [errs_append, errs_append, errs_append, errs_append, errs_mapL, errs_mapL, filter_len ((allRows l).take k) (mR p) _ (fun x => shareB r x) (fun x => rfl)]
    show _ ++ errs (if blockedB l r = true then _ else _) ++ errs (if besideB re l r = true then _ else _) = _
    repeat' split
    all_goals rfl
  · show errs ((l.areas.map (mA p)).zipIdx.flatMap _) = _
    rw [zip_map, List.flatMap_map, errs_flat, errs_flat]
    congr 1
    funext x
    obtain ⟨a, k⟩ := x
    dsimp only
    show errs (areaFaults re (mL p l) ((l.areas.map (mA p)).take k) (mA p a)) = _
    rw [← List.map_take]
    unfold areaFaults
    rw [rows_named, errs_append, errs_append, errs_append, errs_append, errs_mapL, errs_mapL, errs_mapL, errs_mapL, filter_len (allRows l) (mR p) _ (fun r => inAreaB a r) (fun x => rfl), filter_len (l.areas.take k) (mA p) _ (fun b => meetB a.box b.box) (fun x => rfl)]
    show _ ++ _ ++ errs (if openB re l (fun b => meetB a.box b) = true then _ else _) = _
    repeat' split
    all_goals rfl
theorem count_named (p : Bst) (h : HallR) : countS (mH p h) = countS h := by
  unfold countS
  show ((h.levels.map (mL p)).map _).sum = _
  rw [List.map_map]
  congr 2
  funext l
  show ((((l.blocks.map (mB p)).map _).sum : Int) + ((l.areas.map (mA p)).map _).sum) = _
  rw [List.map_map, List.map_map]
  congr 1
  · congr 2
    funext b
    show ((b.rows.map (mR p)).map _).sum = _
    rw [List.map_map]
    rfl
theorem errs_nil {f g : List FaultR} (h : errs f = errs g) : f = [] ↔ g = [] := by
  unfold errs at h
  constructor
  · rintro rfl
    exact List.map_eq_nil_iff.1 h.symm
  · rintro rfl
    exact List.map_eq_nil_iff.1 h
theorem faults_errs (p : Bst) (h : HallR) : errs (faultsS (mH p h)) = errs (faultsS h) := by
  have h1 := single_errs p h
  have h2 := errs_nil h1
  by_cases hs : singleS h = []
  · have e1 : faultsS h = if ¬ (coordB h.stage.x && coordB h.stage.y) = true then [⟨2, -1, -1⟩] else if 4000 < countS h then [⟨3, -1, -1⟩] else h.levels.flatMap severalS := by
      unfold faultsS
      rw [if_neg (fun e => e hs)]
    have e2 : faultsS (mH p h) = if ¬ (coordB h.stage.x && coordB h.stage.y) = true then [⟨2, -1, -1⟩] else if 4000 < countS h then [⟨3, -1, -1⟩] else (mH p h).levels.flatMap severalS := by
      unfold faultsS
      rw [if_neg (fun e => e (h2.2 hs)), count_named]
      rfl
    rw [e1, e2]
    split
    · rfl
    split
    · rfl
    · show errs ((h.levels.map (mL p)).flatMap _) = _
      rw [List.flatMap_map, errs_flat, errs_flat]
      congr 1
      funext l
      exact several_errs p _ l
  · have e1 : faultsS h = singleS h := by unfold faultsS; rw [if_pos hs]
    have e2 : faultsS (mH p h) = singleS (mH p h) := by unfold faultsS; rw [if_pos (fun e => hs (h2.1 e))]
    rw [e1, e2]
    exact h1

theorem row_named (p : Bst) (h h1 : HallR) (hs : h1.stage = h.stage) (l : LevR) (n i B : Nat) (x : RowR × Nat) : rowG h1 (mL p l) n i B (mR p x.1, x.2) = rowG h l n i B x := by
  unfold rowG rowPlaces
  show (seatsS x.1).map _ = _
  refine List.map_congr_left fun q _ => ?_
  unfold seatPlace
  rw [hs]
  rfl
theorem growS_congr {α β : Type} {g : Nat → α → List PlaceR} {g' : Nat → β → List PlaceR} {f : α → β} (h : ∀ B x, g' B (f x) = g B x) : ∀ (xs : List α) (B : Nat), growS g' (xs.map f) B = growS g xs B
  | [], _ => rfl
  | x :: xs, B => by rw [List.map_cons, growS, growS, h, growS_congr h xs]
theorem places_named (p : Bst) (h : HallR) : placesS (mH p h) = placesS h := by
  rw [places_grow, places_grow]
  show growS _ (h.levels.map (mL p)).zipIdx 0 = _
  rw [zip_map]
  refine growS_congr (fun B x => ?_) _ _
  obtain ⟨l, n⟩ := x
  unfold levG
  dsimp only
  have hb : ∀ B, growS (blkG (mH p h) (mL p l) n) (mL p l).blocks.zipIdx B = growS (blkG h l n) l.blocks.zipIdx B := fun B => by
    show growS _ (l.blocks.map (mB p)).zipIdx B = _
    rw [zip_map]
    refine growS_congr (fun B x => ?_) _ _
    unfold blkG
    dsimp only
    show growS _ (x.1.rows.map (mR p)).zipIdx B = _
    rw [zip_map]
    exact growS_congr (fun B y => row_named p h (mH p h) rfl l n x.2 B y) _ _
  rw [hb]
  congr 1
  show growS _ (l.areas.map (mA p)).zipIdx _ = _
  rw [zip_map]
  refine growS_congr (fun B x => ?_) _ _
  unfold arG areaPlaces
  show (List.range x.1.holds.toNat).map _ = _
  have hl : (mL p l).blocks.length = l.blocks.length := List.length_map ..
  rw [hl]
  rfl
theorem build_named {h h2 : HallR} {p : Bst} (e : mH [] h2 = mH p h) : errs (faultsS h2) = errs (faultsS h) ∧ placesS h2 = placesS h := by
  rw [← faults_errs [] h2, ← places_named [] h2, e, faults_errs, places_named]
  exact ⟨rfl, rfl⟩
end Go.Proofs.Ytmcdhggnpfhlmaa
