/- slices.SortFunc at a row of pairs, by their second numbers: plain laws of the row. -/
import Derived.Test.YtaomlhhlefpdeaaW0
import Derived.Maps.AppendAt
import Derived.Shelf.SlSortCmp.InsertionK
namespace Go.Proofs.Ytaomlhhlefpdeaa
open Go.Sort Go.Proofs

/-- A pair whose second number is a place. -/
abbrev PX := {p : Int × Int // 0 ≤ p.2 ∧ p.2 ≤ 4000}

instance instPX : Inhabited PX := ⟨⟨(0, 0), by decide⟩⟩

def encX (x : PX) : List Value := [.int .i64 x.1.1, .int .i64 x.1.2]

def cfX (x y : PX) : Int := x.1.2 - y.1.2

theorem flat_pcells (d : Array PX) : flatK encX 2 d = (pcells (d.toList.map Subtype.val)).toArray := by
  apply Array.ext
  · simp [pcells_length]
  · intro k h1 h2
    have hk : k < d.size * 2 := by simpa using h1
    have hd : k / 2 < d.size := by omega
    have hh := get_flatK encX 2 d k hk
    rw [getElem!_pos _ k h1] at hh
    rw [hh, getElem!_pos d (k / 2) hd]
    obtain ⟨g1, g2⟩ := pcells_get (d.toList.map Subtype.val) (k / 2) (by simpa using hd)
    have e1 : gs (d.toList.map Subtype.val) (k / 2) = (d[k / 2]'hd).1.1 := by unfold gs; simp [List.getD, hd]
    have e2 : gv (d.toList.map Subtype.val) (k / 2) = (d[k / 2]'hd).1.2 := by unfold gv; simp [List.getD, hd]
    rw [e1] at g1; rw [e2] at g2
    rw [List.getElem_toArray]
    rcases Nat.mod_two_eq_zero_or_one k with a | a
    · rw [show k / 2 * 2 = k from by omega] at g1
      rw [a]
      exact ((List.getElem?_eq_some_iff.1 g1).2).symm
    · rw [show k / 2 * 2 + 1 = k from by omega] at g2
      rw [a]
      exact ((List.getElem?_eq_some_iff.1 g2).2).symm

/-- The pairs of a list that all have places. -/
theorem exists_px (L : List (Int × Int)) (h : ∀ x ∈ L, 0 ≤ x.2 ∧ x.2 ≤ 4000) : ∃ d : Array PX, d.toList.map Subtype.val = L := by
  induction L with
  | nil => exact ⟨#[], rfl⟩
  | cons x L ih =>
    obtain ⟨d, hd⟩ := ih (fun y hy => h y (by simp [hy]))
    exact ⟨(⟨x, h x (by simp)⟩ :: d.toList).toArray, by simp [hd]⟩

theorem holds_row {w : World} {b : Nat} {cur : Array Value} {T n : Nat} {d : Array PX} (hg : w.heap[b]? = some (.cells cur T (0, 0))) (hd : d.size = n)
    (ht : cur.toList.take (n * 2) = pcells (d.toList.map Subtype.val)) : HoldsK encX 2 w b 0 d := by
  unfold HoldsK
  rw [flat_pcells]
  intro j hj
  have hl : (pcells (d.toList.map Subtype.val)).length = n * 2 := by rw [pcells_length]; simp [hd]
  have hj2 : j < n * 2 := by rw [← hl]; simpa using hj
  refine ⟨?_, by simp [World.frozen?, hg]⟩
  have : (cur.toList.take (n * 2))[j]? = (pcells (d.toList.map Subtype.val))[j]? := by rw [ht]
  rw [List.getElem?_take, if_pos hj2, Array.getElem?_toList] at this
  simp only [World.cell?, hg, Nat.zero_add]
  rw [show (Option.some (id (pcells (List.map Subtype.val d.toList)).toArray[j]!)) = (pcells (d.toList.map Subtype.val))[j]? from by
    rw [getElem!_pos _ j (by simpa using hj)]
    simp only [id, List.getElem_toArray]
    rw [List.getElem?_eq_getElem]]
  exact this

theorem perm_of_in {d d' : Array PX} (h : PermIn 0 d.size d d') : d'.toList.Perm d.toList := by
  have := h.2.2
  have e : d'.toList.take d.size = d'.toList := List.take_of_length_le (by simp [h.1])
  simpa [e] using this

theorem sorted_of_in {d d' : Array PX} (hs : d'.size = d.size) (h : SortedIn (ltOf cfX) 0 d.size d') : (d'.toList.map Subtype.val).Pairwise (fun a b => a.2 ≤ b.2) := by
  rw [List.pairwise_map, List.pairwise_iff_getElem]
  intro i j hi hj hij
  have := h i j (Nat.zero_le _) hij (by simpa [hs] using hj)
  simp only [Array.length_toList] at hi hj
  rw [getElem!_pos d' j hj, getElem!_pos d' i hi] at this
  unfold ltOf cfX at this
  simp at this
  simp only [Array.getElem_toList]
  omega

theorem swo_cfX : SWO (ltOf cfX) :=
  ⟨fun x => by unfold ltOf cfX; simp, fun x y z h1 h2 => by unfold ltOf cfX at *; simp at *; omega, fun x y z h1 h2 => by unfold ltOf cfX at *; simp at *; omega⟩

theorem sortWorld_grown (w : World) (b n : Nat) (d : Array PX) (os : Array Obj) : w.grownBy (sortWorldK encX 2 w b 0 n d os) (some b) := by
  refine ⟨rfl, rfl, rfl, size_sortWorldK_c encX 2 w b 0 n d os, fun k hk hne => ?_⟩
  have hkb : k ≠ b := fun e => hne (by rw [e])
  unfold sortWorldK grow putRowK putRow mapBlock
  show ((w.heap.modify b _) ++ os)[k]? = _
  rw [Array.getElem?_append_left (by simpa using hk), Array.getElem?_modify, if_neg (by omega)]

theorem sortWorld_block {w : World} {b n m : Nat} {d : Array PX} (os : Array Obj) {cur : Array Value} {T : Nat} (hg : w.heap[b]? = some (.cells cur T (0, 0))) (hd : d.size = n) (hc : n * 2 ≤ cur.size) :
    ∃ cur' : Array Value, (sortWorldK encX 2 w b 0 m d os).heap[b]? = some (.cells cur' T (0, 0)) ∧ cur'.size = cur.size ∧ cur'.toList.take (n * 2) = pcells (d.toList.map Subtype.val) := by
  have hb : b < w.heap.size := (Array.getElem?_eq_some_iff.1 hg).1
  refine ⟨putCells id 0 (flatK encX 2 d) cur, ?_, by simp [putCells], ?_⟩
  · unfold sortWorldK grow putRowK putRow mapBlock
    show ((w.heap.modify b _) ++ os)[b]? = _
    rw [Array.getElem?_append_left (by simpa using hb), Array.getElem?_modify, if_pos rfl, hg]
    rfl
  · rw [flat_pcells]
    have hl : (pcells (d.toList.map Subtype.val)).length = n * 2 := by rw [pcells_length]; simp [hd]
    apply List.ext_getElem?
    intro j
    rw [List.getElem?_take, Array.getElem?_toList]
    split
    · rename_i hj
      simp only [putCells, Array.getElem?_mapIdx, Nat.zero_add, Nat.zero_le, true_and, Nat.sub_zero, List.size_toArray, hl, hj, if_true]
      rw [Array.getElem?_eq_getElem (by omega), Option.map_some, getElem!_pos _ j (by simp [hl, hj])]
      simp only [id, List.getElem_toArray]
      rw [List.getElem?_eq_getElem]
    · rename_i hj
      rw [List.getElem?_eq_none (by omega)]
end Go.Proofs.Ytaomlhhlefpdeaa
