/- hall: plain: what HallWays asks: the reached aisles are in each closed set, more doors reach more, and a reached aisle is beside each place. -/
import Derived.Test.YtmcdhggnpfhlmaaQHCB05
import Derived.Test.YtmcdhggnpfhlmaaQHGA00

namespace Go.Proofs.Ytmcdhggnpfhlmaa
open Go.RowKit Go.IntWalk
set_option linter.unusedSimpArgs false
set_option linter.unusedVariables false

theorem reachS_bx {A : List BoxR} {D : List PntR} {i : Nat} (hi : i < A.length) : bx (reachS A D) i = true ↔ Rch A D i := by
  unfold bx reachS
  simp [hi]

/-- What is asked of a set at one aisle and one door, at one aisle and another one. -/
def doorC (S : List Bool) (A : List BoxR) (i : Nat) (d : PntR) : Bool := bx S i || !(match A[i]? with | some a => insideB a d.x d.y | none => false)
def meetC (S : List Bool) (A : List BoxR) (i k : Nat) : Bool := !bx S i || bx S k || !(match A[i]?, A[k]? with | some a, some b => meetB a b | _, _ => false)
/-- .. at the first i aisles. -/
def closedI (S : List Bool) (A : List BoxR) (D : List PntR) (i : Nat) : Bool := decide (A.length ≤ S.length) && (List.range i).all fun j => D.all (doorC S A j) && (List.range A.length).all (meetC S A j)
theorem closed_zero (S : List Bool) (A : List BoxR) (D : List PntR) : closedI S A D 0 = decide (A.length ≤ S.length) := by simp [closedI]
theorem closed_next (S : List Bool) (A : List BoxR) (D : List PntR) (i : Nat) : closedI S A D (i + 1) = (closedI S A D i && (D.all (doorC S A i) && (List.range A.length).all (meetC S A i))) := by
  unfold closedI
  rw [List.range_succ, List.all_append, Bool.and_assoc]
  simp
theorem rch_closed {A : List BoxR} {D : List PntR} {S : List Bool} (h : closedI S A D A.length = true) {i : Nat} (hr : Rch A D i) : bx S i = true := by
  unfold closedI at h
  rw [Bool.and_eq_true, List.all_eq_true] at h
  have H : ∀ j, j < A.length → (∀ d ∈ D, doorC S A j d = true) ∧ ∀ k, k < A.length → meetC S A j k = true := fun j hj => by
    have := h.2 j (List.mem_range.2 hj)
    rw [Bool.and_eq_true, List.all_eq_true, List.all_eq_true] at this
    exact ⟨this.1, fun k hk => this.2 k (List.mem_range.2 hk)⟩
  induction hr with
  | door i hi hd =>
    unfold doorB at hd
    obtain ⟨d, hd, he⟩ := List.any_eq_true.1 hd
    have := (H i hi).1 d hd
    unfold doorC at this
    rw [List.getElem?_eq_getElem hi] at this
    simpa [he] using this
  | step i k hi hk _ hm ih =>
    have := (H k hk).2 i hi
    unfold meetC at this
    rw [List.getElem?_eq_getElem hi, List.getElem?_eq_getElem hk] at this
    simpa [hm, ih] using this
theorem rch_more {A : List BoxR} {D E : List PntR} (hs : ∀ d ∈ D, d ∈ E) {i : Nat} (h : Rch A D i) : Rch A E i := by
  induction h with
  | door i hi hd =>
    refine .door i hi ?_
    unfold doorB at *
    rw [List.any_eq_true] at *
    obtain ⟨d, h1, h2⟩ := hd
    exact ⟨d, hs d h1, h2⟩
  | step i k hi hk _ hm ih => exact .step i k hi hk ih hm

/-- Is a reached aisle beside an area, a row? The first k aisles. -/
def areaN (R : List Bool) (A : List BoxR) (a : BoxR) (k : Nat) : Bool := (List.range k).any fun j => bx R j && (match A[j]? with | some b => meetB a b | none => false)
def rowN (R : List Bool) (A : List BoxR) (r : RowR) (k : Nat) : Bool := (List.range k).any fun j => bx R j && (match A[j]? with | some b => insideB b (leftS r) r.y || insideB b (rightS r) r.y | none => false)
theorem areaN_next (R : List Bool) (A : List BoxR) (a : BoxR) {k : Nat} (hk : k < A.length) : areaN R A a (k + 1) = (areaN R A a k || (bx R k && meetB a A[k])) := by
  unfold areaN
  rw [List.range_succ, List.any_append]
  simp [hk]
theorem rowN_next (R : List Bool) (A : List BoxR) (r : RowR) {k : Nat} (hk : k < A.length) : rowN R A r (k + 1) = (rowN R A r k || (bx R k && (insideB A[k] (leftS r) r.y || insideB A[k] (rightS r) r.y))) := by
  unfold rowN
  rw [List.range_succ, List.any_append]
  simp [hk]
theorem open_some {l : LevR} {is : BoxR → Bool} (h : openB (reachS l.aisles l.doors) l is = true) : ∃ (k : Nat) (hk : k < l.aisles.length), bx (reachS l.aisles l.doors) k = true ∧ is l.aisles[k] = true := by
  unfold openB at h
  obtain ⟨p, hp, he⟩ := List.any_eq_true.1 h
  obtain ⟨k, hk, rfl⟩ := List.mem_iff_getElem.1 hp
  rw [Bool.and_eq_true] at he
  rw [List.length_zip] at hk
  rw [List.getElem_zip] at he
  refine ⟨k, by omega, ?_, he.2⟩
  have h2 : k < (reachS l.aisles l.doors).length := by omega
  unfold bx
  simpa [h2] using he.1
theorem areaN_all {R : List Bool} {A : List BoxR} {a : BoxR} {k : Nat} (hk : k < A.length) (h1 : bx R k = true) (h2 : meetB a A[k] = true) : areaN R A a A.length = true := by
  unfold areaN
  rw [List.any_eq_true]
  exact ⟨k, List.mem_range.2 hk, by rw [List.getElem?_eq_getElem hk]; simp [h1, h2]⟩
theorem rowN_all {R : List Bool} {A : List BoxR} {r : RowR} {k : Nat} (hk : k < A.length) (h1 : bx R k = true) (h2 : (insideB A[k] (leftS r) r.y || insideB A[k] (rightS r) r.y) = true) : rowN R A r A.length = true := by
  unfold rowN
  rw [List.any_eq_true]
  exact ⟨k, List.mem_range.2 hk, by rw [List.getElem?_eq_getElem hk]; simp [h1, h2]⟩

/-- Where a place stands. -/
structure WayP (l : LevR) (p : PlaceR) : Prop where
  ar : p.row < 0 → ∃ (j : Nat) (hj : j < l.areas.length), p.block = ((l.blocks.length + j : Nat) : Int) ∧ areaN (reachS l.aisles l.doors) l.aisles l.areas[j].box l.aisles.length = true
  ro : 0 ≤ p.row → ∃ (i : Nat) (hi : i < l.blocks.length) (k : Nat) (hk : k < l.blocks[i].rows.length), p.block = (i : Int) ∧ p.row = (k : Int) ∧ RowOk l.blocks[i].rows[k] ∧ rowN (reachS l.aisles l.doors) l.aisles l.blocks[i].rows[k] l.aisles.length = true
theorem ways_place {h : HallR} {l : LevR} (hf : faultsS h = []) (hl : h.levels = [l]) : ∀ p ∈ placesS h, WayP l p := by
  have H := noFault hf
  have hlm : l ∈ h.levels := by rw [hl]; exact List.mem_cons_self ..
  intro p0 hp0
  have hp : bare p0 ∈ (placesS h).map bare := List.mem_map.2 ⟨p0, hp0, rfl⟩
  rw [places_bare, hl] at hp
  simp only [List.zipIdx_cons, List.zipIdx_nil, List.flatMap_cons, List.flatMap_nil, List.append_nil] at hp
  unfold levB at hp
  rcases List.mem_append.1 hp with hp | hp
  · obtain ⟨b, hb, hp⟩ := List.mem_flatMap.1 hp
    obtain ⟨r, hr, hp⟩ := List.mem_flatMap.1 hp
    obtain ⟨q, hq, h1, h2, h3, h4, h5, h6⟩ := mem_rowB hp
    obtain ⟨i, hi, rfl⟩ := List.mem_iff_getElem.1 hb
    simp only [List.length_zipIdx] at hi
    simp only [List.getElem_zipIdx, Nat.zero_add] at hr h2
    obtain ⟨k, hk, rfl⟩ := List.mem_iff_getElem.1 hr
    simp only [List.length_zipIdx] at hk
    simp only [List.getElem_zipIdx, Nat.zero_add] at h3 hq
    have hbm : l.blocks[i] ∈ l.blocks := List.getElem_mem hi
    have hrm0 : l.blocks[i].rows[k] ∈ l.blocks[i].rows := List.getElem_mem hk
    have hrm : l.blocks[i].rows[k] ∈ allRows l := List.mem_flatMap.2 ⟨_, hbm, hrm0⟩
    have hok := (H.one.rows _ hlm _ hbm _ hrm0).1
    have hbe := (H.clear _ hlm _ hrm).2
    unfold besideB at hbe
    obtain ⟨m, hm, e1, e2⟩ := open_some hbe
    refine ⟨fun h0 => ?_, fun _ => ⟨i, hi, k, hk, h2, h3, hok, rowN_all hm e1 e2⟩⟩
    have : p0.row = (k : Int) := h3
    omega
  · obtain ⟨a, ha, hp⟩ := List.mem_flatMap.1 hp
    obtain ⟨h1, h2, h3⟩ := mem_areaB hp
    obtain ⟨j, hj, rfl⟩ := List.mem_iff_getElem.1 ha
    simp only [List.length_zipIdx] at hj
    simp only [List.getElem_zipIdx, Nat.zero_add] at h2
    have ham : l.areas[j] ∈ l.areas := List.getElem_mem hj
    obtain ⟨m, hm, e1, e2⟩ := open_some (H.area _ hlm _ ham).2
    refine ⟨fun _ => ⟨j, hj, h2, areaN_all hm e1 e2⟩, fun h0 => ?_⟩
    have : p0.row = -1 := h3
    omega
end Go.Proofs.Ytmcdhggnpfhlmaa
