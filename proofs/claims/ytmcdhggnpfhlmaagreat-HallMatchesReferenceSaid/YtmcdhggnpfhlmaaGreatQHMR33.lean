/- hall: plain: what a plan without faults is like: its places without their companions are a list by levels, blocks and rows; they are in order, at different points, and clear of what is built; hall: the reference: plain: faults of single things, one after another; hall: the reference: Build: plain: with what a place goes, found from the last place on; hall: the reference: rows. -/
import Derived.Test.YtmcdhggnpfhlmaaGreatQHMR15
import Derived.Test.YtmcdhggnpfhlmaaGreatQHMR21
import Derived.Test.YtmcdhggnpfhlmaaGreatQHMR31
import Derived.Test.YtmcdhggnpfhlmaaGreatQHMR32

set_option linter.unusedVariables false
set_option linter.unusedSimpArgs false
namespace Go.Proofs.YtmcdhggnpfhlmaaGreat
open Go.RowKit Go.IntWalk
set_option linter.unusedSimpArgs false
set_option linter.unusedVariables false

/-- A place without its companion. -/
def bare (p : PlaceR) : PlaceR := { p with wth := 0 }


/-- A plan without faults. -/
structure NoFault (h : HallR) : Prop where
 one : NoSingle h
 count : countS h ≤ 4000
 apart : ∀ l ∈ h.levels, (allRows l).Pairwise fun a b => shareB b a = false
 clear : ∀ l ∈ h.levels, ∀ r ∈ allRows l, blockedB l r = false ∧ besideB (reachS l.aisles l.doors) l r = true
 area : ∀ l ∈ h.levels, ∀ a ∈ l.areas, (∀ r ∈ allRows l, inAreaB a r = false) ∧ openB (reachS l.aisles l.doors) l (fun b => meetB a.box b) = true

theorem single_of {h : HallR} (hf : faultsS h = []) : singleS h = [] ∧ countS h ≤ 4000 ∧ h.levels.flatMap severalS = [] := by
 have hs : singleS h = [] := by
  apply Classical.byContradiction
  intro hn
  unfold faultsS at hf
  rw [if_pos hn] at hf
  exact hn hf
 unfold faultsS at hf
 rw [if_neg (fun e => e hs)] at hf
 by_cases hst : ¬ (coordB h.stage.x && coordB h.stage.y) = true
 ·
  rw [if_pos hst] at hf
  cases hf
 rw [if_neg hst] at hf
 by_cases hc : 4000 < countS h
 ·
  rw [if_pos hc] at hf
  cases hf
 rw [if_neg hc] at hf
 exact ⟨hs, by omega, hf⟩




theorem zip_fm {α : Type} {xs : List α} {p : α × Nat} (h : p ∈ xs.zipIdx) : p.1 ∈ xs := by
 obtain ⟨i, hi, rfl⟩ := List.mem_iff_getElem.1 h
 simp




/-- No two seats are at one point. -/
def Apart (a b : PlaceR) : Prop := 0 ≤ a.row → 0 ≤ b.row → ¬ (a.level = b.level ∧ a.x = b.x ∧ a.y = b.y)

/-- What HallPlaces asks of the places. -/
structure PlcLaw (h : HallR) (P : List PlaceR) : Prop where
 lev : ∀ p ∈ P, ∃ (n : Nat) (hn : n < h.levels.length), p.level = n ∧ (0 ≤ p.row → (0 ≤ p.x ∧ p.x ≤ 10000 ∧ 0 ≤ p.y ∧ p.y ≤ 10000) ∧ (∀ a ∈ h.levels[n].areas, insideB a.box p.x p.y = false) ∧ (∀ b ∈ h.levels[n].pillars, insideB b p.x p.y = false) ∧ ∀ b ∈ h.levels[n].aisles, insideB b p.x p.y = false)
 ord : P.Pairwise fun a b => lessP a b = true
 pts : P.Pairwise Apart

end Go.Proofs.YtmcdhggnpfhlmaaGreat

namespace Go.Proofs.YtmcdhggnpfhlmaaGreat
open Go.RowKit Go.IntWalk
set_option linter.unusedSimpArgs false
set_option linter.unusedVariables false

/-- No fault, or one. -/
def OneF (l : List FaultR) : Prop := l = [] ∨ ∃ x, l = [x] ∧ x.err ≠ 0
theorem OneF.add {l : List FaultR} (h : OneF l) : fltL (hdF l) = l := by
 rcases h with rfl | ⟨x, rfl, hx⟩
 ·
  rfl
 ·
  show (if x.err = 0 then [] else [x]) = [x]
  rw [if_neg hx]
theorem oneF_one {e a o : Int} (h : e ≠ 0) : OneF [⟨e, a, o⟩] := Or.inr ⟨_, rfl, h⟩
theorem oneF_nil : OneF [] := Or.inl rfl
theorem oneF_ite {c : Prop} [Decidable c] {x y : List FaultR} (hx : OneF x) (hy : ¬ c → OneF y) : OneF (if c then x else y) := by
 by_cases h : c
 ·
  rw [if_pos h]; exact hx
 ·
  rw [if_neg h]; exact hy h
theorem level_one (ls : List LevR) (n : Nat) (l : LevR) : OneF (levelFault ls n l) := by
 unfold levelFault
 exact oneF_ite (oneF_one (by decide)) fun _ => oneF_ite (oneF_one (by decide)) fun _ => oneF_ite (oneF_one (by decide)) fun _ => oneF_nil
theorem block_one (bs : List BlkR) (n : Nat) (b : BlkR) : OneF (blockFault bs n b) := by
 unfold blockFault
 exact oneF_ite (oneF_one (by decide)) fun _ => oneF_ite (oneF_one (by decide)) fun _ => oneF_nil
theorem area_one (l : LevR) (n : Nat) (a : AreaR) : OneF (areaFault l n a) := by
 unfold areaFault
 exact oneF_ite (oneF_one (by decide)) fun _ => oneF_ite (oneF_one (by decide)) fun _ => oneF_ite (oneF_one (by decide)) fun _ => oneF_nil
theorem row_one (rows : List RowR) (n : Nat) (r : RowR) : OneF (rowFault rows n r) := by
 unfold rowFault
 refine oneF_ite (oneF_one (by decide)) fun _ => oneF_ite (oneF_one (by decide)) fun _ => oneF_ite (oneF_one (by decide)) fun _ => oneF_ite (oneF_one (by decide)) fun _ => ?_
 by_cases h : marksS r = 0
 ·
  rw [if_pos h]; exact oneF_nil
 ·
  rw [if_neg h]; exact oneF_one h
/-- What single has behind i rows of a block, behind i blocks, areas, levels. -/
def sRow (b : BlkR) (i : Nat) : List FaultR := (b.rows.zipIdx.take i).flatMap fun p => rowFault b.rows p.2 p.1
def sBlk (l : LevR) (i : Nat) : List FaultR := (l.blocks.zipIdx.take i).flatMap fun p => blockFault l.blocks p.2 p.1 ++ p.1.rows.zipIdx.flatMap fun q => rowFault p.1.rows q.2 q.1
def sArea (l : LevR) (i : Nat) : List FaultR := (l.areas.zipIdx.take i).flatMap fun p => areaFault l p.2 p.1
def sLev (h : HallR) (i : Nat) : List FaultR := (h.levels.zipIdx.take i).flatMap fun p => levelFault h.levels p.2 p.1 ++ sBlk p.1 p.1.blocks.length ++ sArea p.1 p.1.areas.length
theorem zip_take_next {α : Type} {β : Type} {xs : List α} {i : Nat} (hi : i < xs.length) (f : α × Nat → List β) : (xs.zipIdx.take (i + 1)).flatMap f = (xs.zipIdx.take i).flatMap f ++ f (xs[i], i) := by
 rw [List.take_succ_eq_append_getElem (by simpa using hi), List.flatMap_append]
 simp
theorem zip_take_all {α : Type} {β : Type} {xs : List α} (f : α × Nat → List β) : (xs.zipIdx.take xs.length).flatMap f = xs.zipIdx.flatMap f := by
 rw [List.take_of_length_le (by simp)]
theorem sRow_next {b : BlkR} {i : Nat} (hi : i < b.rows.length) : sRow b (i + 1) = sRow b i ++ rowFault b.rows i b.rows[i] := zip_take_next hi _
theorem sBlk_next {l : LevR} {i : Nat} (hi : i < l.blocks.length) : sBlk l (i + 1) = sBlk l i ++ (blockFault l.blocks i l.blocks[i] ++ sRow l.blocks[i] l.blocks[i].rows.length) := by
 unfold sRow
 rw [zip_take_all]
 exact zip_take_next hi _
theorem sArea_next {l : LevR} {i : Nat} (hi : i < l.areas.length) : sArea l (i + 1) = sArea l i ++ areaFault l i l.areas[i] := zip_take_next hi _
theorem sLev_next {h : HallR} {i : Nat} (hi : i < h.levels.length) : sLev h (i + 1) = sLev h i ++ (levelFault h.levels i h.levels[i] ++ sBlk h.levels[i] h.levels[i].blocks.length ++ sArea h.levels[i] h.levels[i].areas.length) := zip_take_next hi _
theorem sLev_all (h : HallR) : sLev h h.levels.length = singleS h := by
 unfold sLev singleS sBlk sArea
 rw [zip_take_all]
 congr 1
 funext p
 rw [zip_take_all, zip_take_all]
theorem OneF.len {l : List FaultR} (h : OneF l) : l.length ≤ 1 := by
 rcases h with rfl | ⟨x, rfl, _⟩ <;> simp
theorem flat_bound {α : Type} {β : Type} {f : α → List β} {c : Nat} : ∀ {xs : List α}, (∀ x ∈ xs, (f x).length ≤ c) → (xs.flatMap f).length ≤ xs.length * c
 | [], _ => by simp
 | x :: xs, h => by
  rw [List.flatMap_cons, List.length_append, List.length_cons, Nat.succ_mul]
  have h1 := h x (List.mem_cons_self ..)
  have h2 := flat_bound (xs := xs) fun y hy => h y (List.mem_cons_of_mem _ hy)
  omega
theorem sRow_len (b : BlkR) (i : Nat) : (sRow b i).length ≤ b.rows.length := by
 have := flat_bound (f := fun p : RowR × Nat => rowFault b.rows p.2 p.1) (c := 1) (xs := b.rows.zipIdx.take i) fun p _ => (row_one _ _ _).len
 have h2 : (b.rows.zipIdx.take i).length ≤ b.rows.length := by simp; omega
 unfold sRow
 omega
theorem sArea_len (l : LevR) (i : Nat) : (sArea l i).length ≤ l.areas.length := by
 have := flat_bound (f := fun p : AreaR × Nat => areaFault l p.2 p.1) (c := 1) (xs := l.areas.zipIdx.take i) fun p _ => (area_one _ _ _).len
 have h2 : (l.areas.zipIdx.take i).length ≤ l.areas.length := by simp; omega
 unfold sArea
 omega
theorem sBlk_len (l : LevR) (i : Nat) (h : ∀ b ∈ l.blocks, b.rows.length ≤ 8) : (sBlk l i).length ≤ l.blocks.length * 9 := by
 have := flat_bound (f := fun p : BlkR × Nat => blockFault l.blocks p.2 p.1 ++ p.1.rows.zipIdx.flatMap fun q => rowFault p.1.rows q.2 q.1) (c := 9) (xs := l.blocks.zipIdx.take i) fun p hp => by
  have h1 := (block_one l.blocks p.2 p.1).len
  have h2 := sRow_len p.1 p.1.rows.length
  have h3 := h p.1 (zip_fm (List.mem_of_mem_take hp))
  unfold sRow at h2
  rw [zip_take_all] at h2
  rw [List.length_append]
  omega
 have h2 : (l.blocks.zipIdx.take i).length ≤ l.blocks.length := by simp; omega
 have h3 : (l.blocks.zipIdx.take i).length * 9 ≤ l.blocks.length * 9 := Nat.mul_le_mul_right _ h2
 unfold sBlk
 omega
end Go.Proofs.YtmcdhggnpfhlmaaGreat

namespace Go.Proofs.YtmcdhggnpfhlmaaGreat
open Go.RowKit Go.IntWalk
set_option linter.unusedSimpArgs false
set_option linter.unusedVariables false

/-- Two places of a row go together. -/
def pairB (r : RowR) (p q : Int × Int) : Bool :=
 (decide ((markS r.marks p.1).kind = 4) && decide ((markS r.marks p.1).wth = q.1)) || ((decide ((markS r.marks p.1).kind = 2) && decide ((markS r.marks q.1).kind = 4)) && decide ((markS r.marks q.1).wth = p.1))
/-- What a place goes with, when the places from c on are looked at. -/
def withQ (r : RowR) (first : Nat) (p : Int × Int) (c : Nat) : Int :=
 match ((seatsS r).drop c).findIdx? (pairB r p) with
 | some j => ((first + (c + j) : Nat) : Int)
 | none => -1
theorem withQ_end (r : RowR) (first : Nat) (p : Int × Int) : withQ r first p (seatsS r).length = -1 := by
 unfold withQ
 rw [List.drop_length]
 rfl
theorem withQ_next {r : RowR} {first : Nat} {p : Int × Int} {c : Nat} (hc : c < (seatsS r).length) : withQ r first p c = if pairB r p (seatsS r)[c] then ((first + c : Nat) : Int) else withQ r first p (c + 1) := by
 unfold withQ
 rw [List.drop_eq_getElem_cons hc, List.findIdx?_cons]
 by_cases h : pairB r p (seatsS r)[c] = true
 ·
  rw [if_pos h, if_pos h]
  rfl
 ·
  rw [if_neg h, if_neg h]
  cases hf : List.findIdx? (pairB r p) ((seatsS r).drop (c + 1)) with
  | none => rfl
  | some j =>
   simp only [Option.map_some]
   congr 2
   omega
theorem seat_inj {r : RowR} {x y : Nat} (hx : x < (seatsS r).length) (hy : y < (seatsS r).length) (e : (seatsS r)[x].1 = (seatsS r)[y].1) : x = y := by
 have h1 := place_of hx
 have h2 := place_of hy
 rw [e] at h1
 omega
theorem withQ_all {r : RowR} {first : Nat} (hw : Wheels r) {a : Nat} (ha : a < (seatsS r).length) : withQ r first (seatsS r)[a] 0 = withS r first (seatsS r)[a].1 := by
 unfold withQ withS
 rw [List.drop_zero]
 dsimp only
 by_cases h4 : (markS r.marks (seatsS r)[a].1).kind = 4
 ·
  rw [if_pos h4]
  obtain ⟨b, hb, e1, e2⟩ := hw a ha h4
  have hf : (seatsS r).findIdx? (pairB r (seatsS r)[a]) = some b := by
   rw [List.findIdx?_eq_some_iff_getElem]
   refine ⟨hb, ?_, fun j hj => ?_⟩
   ·
    unfold pairB
    simp [h4, e1]
   ·
    unfold pairB
    have : ¬ (seatsS r)[b].1 = (seatsS r)[j].1 := fun e => by
     have := seat_inj hb (by omega) e
     omega
    simp [h4, e1, this]
  rw [hf]
  dsimp only
  rw [e1, place_of hb]
  simp
 ·
  rw [if_neg h4]
  by_cases h2 : (markS r.marks (seatsS r)[a].1).kind = 2
  ·
   rw [if_pos h2]
   have hp : pairB r (seatsS r)[a] = fun q => decide ((markS r.marks q.1).kind = 4) && decide ((markS r.marks q.1).wth = (seatsS r)[a].1) := by
    funext q
    unfold pairB
    simp [h2]
   rw [hp]
   cases hf : (seatsS r).findIdx? fun q => decide ((markS r.marks q.1).kind = 4) && decide ((markS r.marks q.1).wth = (seatsS r)[a].1) with
   | none =>
    rw [List.findIdx?_eq_none_iff] at hf
    have : (seatsS r).find? (fun q => decide ((markS r.marks q.1).kind = 4) && decide ((markS r.marks q.1).wth = (seatsS r)[a].1)) = none := by
     rw [List.find?_eq_none]
     intro x hx
     rw [hf x hx]
     decide
    rw [this]
   | some j =>
    rw [List.findIdx?_eq_some_iff_getElem] at hf
    obtain ⟨hj, e1, e2⟩ := hf
    have : (seatsS r).find? (fun q => decide ((markS r.marks q.1).kind = 4) && decide ((markS r.marks q.1).wth = (seatsS r)[a].1)) = some (seatsS r)[j] := by
     rw [List.find?_eq_some_iff_getElem]
     refine ⟨e1, j, hj, rfl, fun k hk => ?_⟩
     have := e2 k hk
     rw [Bool.not_eq_true] at this
     rw [this]
     rfl
    rw [this]
    dsimp only
    rw [place_of hj]
    simp
  ·
   rw [if_neg h2]
   have hf : (seatsS r).findIdx? (pairB r (seatsS r)[a]) = none := by
    rw [List.findIdx?_eq_none_iff]
    intro x _
    unfold pairB
    simp [h4, h2]
   rw [hf]

/-- A row's places when those before a are through, and a is through from c on. -/
def rowQ (h : HallR) (l : LevR) (n i k : Nat) (r : RowR) (first a c : Nat) : List PlaceR :=
 (seatsS r).mapIdx fun j p => { seatPlace h l n i k r p with wth := if j < a then withS r first p.1 else if j = a then withQ r first p c else -1 }
theorem rowQ_len (h : HallR) (l : LevR) (n i k : Nat) (r : RowR) (first a c : Nat) : (rowQ h l n i k r first a c).length = (seatsS r).length := by simp [rowQ]
theorem rowQ_at {h : HallR} {l : LevR} {n i k : Nat} {r : RowR} {first a c j : Nat} (hj : j < (seatsS r).length) (hj2 : j < (rowQ h l n i k r first a c).length) : (rowQ h l n i k r first a c)[j]'hj2 = { seatPlace h l n i k r (seatsS r)[j] with wth := if j < a then withS r first (seatsS r)[j].1 else if j = a then withQ r first (seatsS r)[j] c else -1 } := by
 simp [rowQ]
theorem rowQ_start (h : HallR) (l : LevR) (n i k : Nat) (r : RowR) (first : Nat) : rowQ h l n i k r first 0 (seatsS r).length = (seatsS r).map (seatPlace h l n i k r) := by
 apply List.ext_getElem
 ·
  simp [rowQ_len]
 intro j h1 h2
 rw [rowQ_len] at h1
 rw [rowQ_at h1, List.getElem_map, if_neg (by omega)]
 by_cases e : j = 0
 ·
  rw [if_pos e, withQ_end]
  rfl
 ·
  rw [if_neg e]
  rfl
theorem rowQ_round {h : HallR} {l : LevR} {n i k : Nat} {r : RowR} {first a : Nat} (hw : Wheels r) (ha : a < (seatsS r).length) : rowQ h l n i k r first a 0 = rowQ h l n i k r first (a + 1) (seatsS r).length := by
 apply List.ext_getElem
 ·
  simp [rowQ_len]
 intro j h1 h2
 rw [rowQ_len] at h1
 rw [rowQ_at h1, rowQ_at h1]
 congr 1
 by_cases e : j < a
 ·
  rw [if_pos e, if_pos (by omega)]
 ·
  rw [if_neg e]
  by_cases e2 : j = a
  ·
   subst e2
   rw [if_pos rfl, if_pos (by omega), withQ_all hw ha]
  ·
   rw [if_neg e2, if_neg (by omega)]
   by_cases e3 : j = a + 1
   ·
    rw [if_pos e3, withQ_end]
   ·
    rw [if_neg e3]
theorem rowQ_done {h : HallR} {l : LevR} {n i k : Nat} {r : RowR} {first c : Nat} : rowQ h l n i k r first (seatsS r).length c = rowPlaces h l n i k r first := by
 apply List.ext_getElem
 ·
  simp [rowQ_len, rowPlaces]
 intro j h1 h2
 rw [rowQ_len] at h1
 rw [rowQ_at h1, if_pos h1]
 simp [rowPlaces]
theorem rowQ_no {h : HallR} {l : LevR} {n i k : Nat} {r : RowR} {first a c : Nat} (ha : a < (seatsS r).length) (hc : c < (seatsS r).length) (hp : pairB r (seatsS r)[a] (seatsS r)[c] = false) : rowQ h l n i k r first a c = rowQ h l n i k r first a (c + 1) := by
 apply List.ext_getElem
 ·
  simp [rowQ_len]
 intro j h1 h2
 rw [rowQ_len] at h1
 rw [rowQ_at h1, rowQ_at h1]
 by_cases e2 : j = a
 ·
  subst e2
  rw [withQ_next hc, hp]
  rfl
 ·
  simp only [if_neg e2]
theorem rowQ_yes {h : HallR} {l : LevR} {n i k : Nat} {r : RowR} {first a c : Nat} (ha : a < (seatsS r).length) (hc : c < (seatsS r).length) (hp : pairB r (seatsS r)[a] (seatsS r)[c] = true) :
  rowQ h l n i k r first a c = (rowQ h l n i k r first a (c + 1)).set a { seatPlace h l n i k r (seatsS r)[a] with wth := ((first + c : Nat) : Int) } := by
 apply List.ext_getElem
 ·
  simp [rowQ_len]
 intro j h1 h2
 rw [rowQ_len] at h1
 rw [rowQ_at h1, List.getElem_set]
 by_cases e2 : a = j
 ·
  subst e2
  rw [if_pos rfl, if_neg (by omega), if_pos rfl, withQ_next hc, hp]
  rfl
 ·
  rw [if_neg e2, rowQ_at h1]
  simp only [if_neg (fun e : j = a => e2 e.symm)]
end Go.Proofs.YtmcdhggnpfhlmaaGreat

namespace Go.Proofs.YtmcdhggnpfhlmaaGreat
open Go.RowKit Go.IntWalk
set_option linter.unusedSimpArgs false
set_option linter.unusedVariables false

theorem rows_next {l : LevR} {i : Nat} (h : i < l.blocks.length) : (l.blocks.take (i + 1)).flatMap (·.rows) = (l.blocks.take i).flatMap (·.rows) ++ l.blocks[i].rows := by
 rw [List.take_succ_eq_append_getElem h, List.flatMap_append]
 simp
theorem rows_pre {l : LevR} {i : Nat} (h : i ≤ l.blocks.length) : ((l.blocks.take i).flatMap (·.rows)).length ≤ (allRows l).length := by
 have : allRows l = (l.blocks.take i).flatMap (·.rows) ++ (l.blocks.drop i).flatMap (·.rows) := by
  unfold allRows
  rw [← List.flatMap_append, List.take_append_drop]
 rw [this, List.length_append]
 omega

set_option maxRecDepth 100000 in
set_option maxHeartbeats 16000000 in
theorem rrows_any (w : World) (l : LevR) (hl : l.In w) (h0 : ∀ b ∈ l.blocks, b.ra = none → b.rc = 0) (hn : (allRows l).length ≤ 900000) :
  Calls Tryz.prog 88 #[.agg #[.string (bs l.name), .int .i64 l.height, .slice l.ba l.bn l.bc, .slice l.aa l.an l.ac, .slice l.sa l.sn l.sc, .slice l.pa l.pn l.pc, .slice l.da l.dn l.dc, .int .i64 l.at']] w
   fun e w' => ∃ v, e = .returned v ∧ Below w.heap.size w w' ∧ w'.ownsRow w.heap.size 49 8 v (allRows l).length (flat RowE (allRows l)) := by
 have HL := Lib.hid hl
 have HBL := Lib.hid hl.blocks.1
 have hbn := hl.bn
 have H0 := Lib.hid h0
 have HN := Lib.hid hn
 clear hl h0 hn
 refine enter_fr (N := 21) [.agg #[.string (bs l.name), .int .i64 l.height, .slice l.ba l.bn l.bc, .slice l.aa l.an l.ac, .slice l.sa l.sn l.sc, .slice l.pa l.pn l.pc, .slice l.da l.dn l.dc, .int .i64 l.at']] (Tryz.func88) rfl Tryz.ntmps88 (by rfl) (fun a hF => ?_);replace hF := hF.kp [0] rfl;refine wp_seq_k (fun K hK => ?_);refine region_seq (l := [0, 1]) (by kernel_rfl) ?_;refine seq_one ?_;revert hF;refine qe1 fun a hF => ?_
 have HX : Hid (LevIn (w.alloc (.cells #[.string (bs l.name), .int .i64 l.height, .slice l.ba l.bn l.bc, .slice l.aa l.an l.ac, .slice l.sa l.sn l.sc, .slice l.pa l.pn l.pc, .slice l.da l.dn l.dc, .int .i64 l.at'] 32)) w.heap.size l) := World.alloc_heap_new w _
 have HB1 : Hid (Below w.heap.size w (w.alloc (.cells #[.string (bs l.name), .int .i64 l.height, .slice l.ba l.bn l.bc, .slice l.aa l.an l.ac, .slice l.sa l.sn l.sc, .slice l.pa l.pn l.pc, .slice l.da l.dn l.dc, .int .i64 l.at'] 32))) := Joins.below_alloc1 w _
 generalize w.alloc (.cells #[.string (bs l.name), .int .i64 l.height, .slice l.ba l.bn l.bc, .slice l.aa l.an l.ac, .slice l.sa l.sn l.sc, .slice l.pa l.pn l.pc, .slice l.da l.dn l.dc, .int .i64 l.at'] 32) = w1 at *
 obtain ⟨gl, hgl⟩ : ∃ g, g = w.heap.size := ⟨_, rfl⟩
 rw [← hgl] at hF HX
 clear hgl
 revert hF;refine zre 1 [2] [1] fun a hF => ?_;refine hK _ _ ?_;clear hK;revert hF;refine zrs [2] [1, 3] fun a hF => ?_;refine wp_seq_k (fun KA hKA => ?_);revert hF;refine zrs [2] [1, 3, 4] fun a hF => ?_
 refine wp_block ?_
 refine loop_fr (fun n a' w' => ∃ (i : Nat) (v : Value), i + n = l.bn ∧ FrF 21 [] [(1, .pointer (some ⟨gl, 0, none⟩)), (3, v), (4, .int .i64 i)] a' ∧ Hid (Below w1.heap.size w1 w') ∧ Hid (w'.ownsRow w1.heap.size 49 8 v ((l.blocks.take i).flatMap (·.rows)).length (flat RowE ((l.blocks.take i).flatMap (·.rows))))) l.bn ⟨0, _, by omega, hF, Below.refl _ _, nil_row⟩ ?_
 clear hF
 rintro rk a wr ⟨i, v, hik, hF, HB, HO⟩ KB hKB
 refine wp_seq_k (fun K hK => ?_)
 obtain ⟨c0, c1, c2, c3, c4, c5, c6, c7⟩ := (HX.out.down HB.out).cells
 by_cases hlt : i < l.bn
 rotate_left
 ·
  have hlti : ¬ (i : Int) < (l.bn : Nat) := by omega
  revert hF;refine zrs [1, 4, 4, 4, 5] [1, 3, 4, 9] fun a hF => ?_
  clear c0 c1 c2 c3 c4 c5 c6 c7
  refine cond_no hF rfl ?_
  refine wp_exit ?_
  refine hKA _ _ ?_;clear hKA
  have hie : i = l.blocks.length := by rw [HBL.out]; omega
  rw [hie, List.take_length] at HO
  revert hF;refine zrs [1, 2] [2] fun a hF => ?_;refine wp_ret ?_;(try simp only [then_ret, block_ret, goto_ret]);revert hF;refine zq ?_
  exact ⟨v, rfl, HB1.out.trans (HB.out.mono HB1.out.size), own_mono HO.out HB1.out.size⟩
 have hlti : (i : Int) < (l.bn : Nat) := by omega
 revert hF;refine zrs [1, 4, 4, 4, 5] [1, 3, 4, 9] fun a hF => ?_
 clear c0 c1 c2 c3 c4 c5 c6 c7
 refine cond_yes hF rfl ?_
 refine wp_skip ?_
 refine hK _ _ ?_;clear hK;replace hF := hF.kp [1, 3, 4] rfl
 clear hKA
 have hil : i < l.blocks.length := by rw [HBL.out]; exact hlt
 refine seq_cut (fun a' w' => ∃ v : Value, FrF 21 [] [(1, .pointer (some ⟨gl, 0, none⟩)), (3, v), (4, .int .i64 i)] a' ∧ Hid (Below w1.heap.size w1 w') ∧ Hid (w'.ownsRow w1.heap.size 49 8 v ((l.blocks.take (i + 1)).flatMap (·.rows)).length (flat RowE ((l.blocks.take (i + 1)).flatMap (·.rows))))) (fun KC hKC => ?_) ?_
 rotate_left
 ·
  clear hF HB HO
  rintro a w' ⟨v, hF, HB, HO⟩
  have hws : IntKind.i64.wrap ((i : Int) + 1) = ((i + 1 : Nat) : Int) := wrap_succ (by omega)
  revert hF;refine zrg [1, 4, 2] [1, 3, 4] fun a hF => ?_
  exact hKB (l.bn - (i + 1)) _ _ (by omega) ⟨i + 1, v, by omega, hF, HB, HO⟩
 clear hKB hik
 refine wp_block ?_
 have hpre : ((l.blocks.take i).flatMap (·.rows)).length + l.blocks[i].rows.length ≤ 900000 := by
  have h1 := rows_pre (l := l) (i := i + 1) hil
  rw [rows_next hil, List.length_append] at h1
  have := HN.out
  omega
 rw [rows_next hil] at hKC
 obtain ⟨c0, c1, c2, c3, c4, c5, c6, c7⟩ := (HX.out.down HB.out).cells
 obtain ⟨b0, o, hba, d0, d1, d2⟩ := blk_at (HL.out.below (HB1.out.trans (HB.out.mono HB1.out.size))).blocks i hlt hil
 rw [hba] at c2
 clear hba
 have hbr := HL.out.blk l.blocks[i] (List.getElem_mem hil)
 have hb0 := H0.out l.blocks[i] (List.getElem_mem hil)
 have HBR := Lib.hid (hbr.1.below (HB1.out.trans (HB.out.mono HB1.out.size)))
 have HRN := Lib.hid hbr.1.1
 clear hbr
 generalize l.blocks[i] = b at *
 have HU : Hid (Rcs RowE wr (.slice b.ra b.rn b.rc) b.rows) := ⟨b.ra, b.rc, by rw [HRN.out], by rw [HRN.out]; exact HBR.out, hb0⟩
 obtain ⟨v', w4, hAPP, ho, hg, _⟩ := append_recs (E := RowE) 50 49 50 Tryz.underlying50 info_row rfl (by decide) HO.out HU.out (by omega) HB.out.size
 have HB4 : Hid (Below w1.heap.size w1 w4) := HB.out.grown hg HB.out.size (fun k hk => (HO.out.lt k hk).1)
 have HO4 := Lib.hid ho
 clear ho hg HB HO
 revert hF;refine zrp [1, 4, 4, 1, 5, 4, 4] [7, 8] fun a hF => ?_;refine seq_one ?_;refine op_append rfl rfl rfl rfl rfl hF rfl rfl rfl hAPP (fun a hF => ?_);clear hAPP;revert hF;refine zre 8 [2] [1, 3, 4] fun a hF => ?_
 refine hKC _ _ ⟨_, hF, HB4, ?_⟩
 rw [List.length_append]
 exact HO4
end Go.Proofs.YtmcdhggnpfhlmaaGreat
