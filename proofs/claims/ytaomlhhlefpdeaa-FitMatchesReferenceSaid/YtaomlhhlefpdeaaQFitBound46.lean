/- A row in order, gone through; and the rows behind a sort; slices.SortFunc at a row of pairs, by their second numbers: plain laws of the row. -/
import Derived.Test.YtaomlhhlefpdeaaQFitBound14
import Derived.Test.YtaomlhhlefpdeaaQFitBound45
import Derived.Maps.AppendAt
import Derived.Shelf.SlSortCmp.InsertionK

namespace Go.Proofs.Ytaomlhhlefpdeaa
open Go.RowKit

theorem owns_pairs {w : World} {B n : Nat} {v : Value} {L : List (Int × Int)} (h : w.ownsRow B 39 2 v n (pcells L)) : ∃ ao cap, v = .slice ao n cap ∧ Pairs w ao n L := by
  have hl : L.length = n := by
    have := h.1
    rw [pcells_length] at this; omega
  rcases h.2 with ⟨rfl, rfl⟩ | ⟨g, cap, cur, rfl, hBg, hg, hnc, hcm, hcs, htake⟩
  · exact ⟨none, 0, rfl, hl, fun k hk => absurd hk (by omega)⟩
  · refine ⟨_, cap, rfl, hl, fun k hk => ⟨g, 0, rfl, ?_, ?_⟩⟩
    all_goals
      obtain ⟨g1, g2⟩ := pcells_get L k (by omega)
      simp only [World.cell?, hg, Nat.zero_add]
    · rw [← htake, List.getElem?_take, if_pos (by omega), Array.getElem?_toList] at g1
      exact g1
    · rw [← htake, List.getElem?_take, if_pos (by omega), Array.getElem?_toList] at g2
      exact g2

/-- A row is put in another order, in place. -/
theorem Rows2.sorted {w w1 : World} {B g : Nat} {Q : List (List (Int × Int))} (h : Rows2 w B g Q) (r : Nat) (hr : r < Q.length) (v : Value) (L : List (Int × Int)) (hv : w.cell? ⟨g, r, none⟩ = some v)
    (hl : L.length = (qx Q r).length) (hown : w1.ownsRow B 39 2 v (qx Q r).length (pcells L)) (hgrow : w.grownBy w1 v.ownBlock) : Rows2 w1 B g (Q.set r L) := by
  obtain ⟨h0, vs, h1, h2, h3⟩ := h
  have hvr : vs[r]? = some v := by simp only [World.cell?, h1] at hv; exact hv
  have hg1 : w1.heap[g]? = some (.cells vs 28 (0, 0)) := by
    rw [hgrow.block g (lt_of_block h1) (fun e => ?_)]
    · exact h1
    · obtain ⟨u, e1, ho⟩ := h2 r hr
      rw [hvr] at e1
      obtain rfl : v = u := by simpa using e1
      have := (ho.lt g e.symm).1
      omega
  refine ⟨h0, vs, hg1, fun s hs => ?_, fun s t u u' hs ht hst e1 e2 => ?_⟩
  · rw [List.length_set] at hs
    by_cases hrs : r = s
    · subst hrs
      rw [qx_set _ _ _ _ hr, if_pos rfl]
      exact ⟨v, hvr, by rw [hl]; exact hown⟩
    · rw [qx_set _ _ _ _ hr, if_neg hrs]
      obtain ⟨u, e, ho⟩ := h2 s hs
      exact ⟨u, e, ho.kept hgrow (h3 s r u v hs hr (fun e => hrs e.symm) e hvr)⟩
  · rw [List.length_set] at hs ht
    exact h3 s t u u' hs ht hst e1 e2

theorem chain_append (single : Bool) (B : List (Int × Int)) : ∀ (A : List (Int × Int)) (a : Int), chain single a (A ++ B) = (chain single a A).bind fun e => chain single e B := by
  intro A
  induction A with
  | nil => intro a; rfl
  | cons x A ih =>
    intro a
    rw [List.cons_append, chain, chain]
    split
    · rfl
    · exact ih _

theorem chain_one (single : Bool) (e : Int) (x : Int × Int) : chain single e [x] = if x.2 < e ∨ (single = true ∧ x.2 = e + 1) then none else some (x.2 + x.1) := by
  rw [chain, chain]

theorem take_pair (L : List (Int × Int)) (i : Nat) (hi : i < L.length) : L.take (i + 1) = L.take i ++ [(gs L i, gv L i)] := by
  have e : L[i] = (gs L i, gv L i) := by unfold gs gv; simp [List.getD, hi]
  rw [← e, List.take_append_getElem]

theorem pair_mem (L : List (Int × Int)) (i : Nat) (hi : i < L.length) : (gs L i, gv L i) ∈ L := by
  have e : L[i] = (gs L i, gv L i) := by unfold gs gv; simp [List.getD, hi]
  rw [← e]
  exact List.getElem_mem hi

theorem chain_none (single : Bool) (L : List (Int × Int)) (i : Nat) (h : chain single 0 (L.take i) = none) : chain single 0 L = none := by
  rw [← List.take_append_drop i L, chain_append, h]; rfl

/-- One more of the row: where it ends now. -/
theorem chain_step (single : Bool) (L : List (Int × Int)) (i : Nat) (hi : i < L.length) (a : Int) (h : chain single 0 (L.take i) = some a) :
    chain single 0 (L.take (i + 1)) = if gv L i < a ∨ (single = true ∧ gv L i = a + 1) then none else some (gv L i + gs L i) := by
  rw [take_pair L i hi, chain_append, h, Option.bind_some, chain_one]

theorem rowOk_none {single : Bool} {n : Int} {L : List (Int × Int)} (h : chain single 0 L = none) : rowOk single n L = false := by
  unfold rowOk; rw [h]

theorem rowOk_some {single : Bool} {n a : Int} {L : List (Int × Int)} (h : chain single 0 L = some a) : rowOk single n L = !(single && (decide (0 < a) && decide (a = n - 1))) := by
  unfold rowOk; rw [h]
end Go.Proofs.Ytaomlhhlefpdeaa

namespace Go.Proofs.Ytaomlhhlefpdeaa
open Go.Sort Go.Proofs

/-- A pair whose second number is a place. -/
abbrev PX := {p : Int × Int // 0 ≤ p.2 ∧ p.2 ≤ 4000}

instance instPX : Inhabited PX := ⟨⟨(0, 0), by decide⟩⟩

def encX (x : PX) : List Value := [.int .i64 x.1.1, .int .i64 x.1.2]

def cfX (x y : PX) : Int := x.1.2 - y.1.2

theorem flat_pcells (d : Array PX) : flatK encX 2 d = (pcells (d.toList.map Subtype.val)).toArray := by
  apply Array.ext
  · simp [pcells_length]
  · intro k h1 h2
    have hk : k < d.size * 2 := by simpa using h1
    have hd : k / 2 < d.size := by omega
    have hh := get_flatK encX 2 d k hk
    rw [getElem!_pos _ k h1] at hh
    rw [hh, getElem!_pos d (k / 2) hd]
    obtain ⟨g1, g2⟩ := pcells_get (d.toList.map Subtype.val) (k / 2) (by simpa using hd)
    have e1 : gs (d.toList.map Subtype.val) (k / 2) = (d[k / 2]'hd).1.1 := by unfold gs; simp [List.getD, hd]
    have e2 : gv (d.toList.map Subtype.val) (k / 2) = (d[k / 2]'hd).1.2 := by unfold gv; simp [List.getD, hd]
    rw [e1] at g1; rw [e2] at g2
    rw [List.getElem_toArray]
    rcases Nat.mod_two_eq_zero_or_one k with a | a
    · rw [show k / 2 * 2 = k from by omega] at g1
      rw [a]
      exact ((List.getElem?_eq_some_iff.1 g1).2).symm
    · rw [show k / 2 * 2 + 1 = k from by omega] at g2
      rw [a]
      exact ((List.getElem?_eq_some_iff.1 g2).2).symm

/-- The pairs of a list that all have places. -/
theorem exists_px (L : List (Int × Int)) (h : ∀ x ∈ L, 0 ≤ x.2 ∧ x.2 ≤ 4000) : ∃ d : Array PX, d.toList.map Subtype.val = L := by
  induction L with
  | nil => exact ⟨#[], rfl⟩
  | cons x L ih =>
    obtain ⟨d, hd⟩ := ih (fun y hy => h y (by simp [hy]))
    exact ⟨(⟨x, h x (by simp)⟩ :: d.toList).toArray, by simp [hd]⟩

theorem holds_row {w : World} {b : Nat} {cur : Array Value} {T n : Nat} {d : Array PX} (hg : w.heap[b]? = some (.cells cur T (0, 0))) (hd : d.size = n)
    (ht : cur.toList.take (n * 2) = pcells (d.toList.map Subtype.val)) : HoldsK encX 2 w b 0 d := by
  unfold HoldsK
  rw [flat_pcells]
  intro j hj
  have hl : (pcells (d.toList.map Subtype.val)).length = n * 2 := by rw [pcells_length]; simp [hd]
  have hj2 : j < n * 2 := by rw [← hl]; simpa using hj
  refine ⟨?_, by simp [World.frozen?, hg]⟩
  have : (cur.toList.take (n * 2))[j]? = (pcells (d.toList.map Subtype.val))[j]? := by rw [ht]
  rw [List.getElem?_take, if_pos hj2, Array.getElem?_toList] at this
  simp only [World.cell?, hg, Nat.zero_add]
  rw [show (Option.some (id (pcells (List.map Subtype.val d.toList)).toArray[j]!)) = (pcells (d.toList.map Subtype.val))[j]? from by
    rw [getElem!_pos _ j (by simpa using hj)]
    simp only [id, List.getElem_toArray]
    rw [List.getElem?_eq_getElem]]
  exact this

theorem perm_of_in {d d' : Array PX} (h : PermIn 0 d.size d d') : d'.toList.Perm d.toList := by
  have := h.2.2
  have e : d'.toList.take d.size = d'.toList := List.take_of_length_le (by simp [h.1])
  simpa [e] using this

theorem sorted_of_in {d d' : Array PX} (hs : d'.size = d.size) (h : SortedIn (ltOf cfX) 0 d.size d') : (d'.toList.map Subtype.val).Pairwise (fun a b => a.2 ≤ b.2) := by
  rw [List.pairwise_map, List.pairwise_iff_getElem]
  intro i j hi hj hij
  have := h i j (Nat.zero_le _) hij (by simpa [hs] using hj)
  simp only [Array.length_toList] at hi hj
  rw [getElem!_pos d' j hj, getElem!_pos d' i hi] at this
  unfold ltOf cfX at this
  simp at this
  simp only [Array.getElem_toList]
  omega

theorem swo_cfX : SWO (ltOf cfX) :=
  ⟨fun x => by unfold ltOf cfX; simp, fun x y z h1 h2 => by unfold ltOf cfX at *; simp at *; omega, fun x y z h1 h2 => by unfold ltOf cfX at *; simp at *; omega⟩

theorem sortWorld_grown (w : World) (b n : Nat) (d : Array PX) (os : Array Obj) : w.grownBy (sortWorldK encX 2 w b 0 n d os) (some b) := by
  refine ⟨rfl, rfl, rfl, size_sortWorldK_c encX 2 w b 0 n d os, fun k hk hne => ?_⟩
  have hkb : k ≠ b := fun e => hne (by rw [e])
  unfold sortWorldK grow putRowK putRow mapBlock
  show ((w.heap.modify b _) ++ os)[k]? = _
  rw [Array.getElem?_append_left (by simpa using hk), Array.getElem?_modify, if_neg (by omega)]

theorem sortWorld_block {w : World} {b n m : Nat} {d : Array PX} (os : Array Obj) {cur : Array Value} {T : Nat} (hg : w.heap[b]? = some (.cells cur T (0, 0))) (hd : d.size = n) (hc : n * 2 ≤ cur.size) :
    ∃ cur' : Array Value, (sortWorldK encX 2 w b 0 m d os).heap[b]? = some (.cells cur' T (0, 0)) ∧ cur'.size = cur.size ∧ cur'.toList.take (n * 2) = pcells (d.toList.map Subtype.val) := by
  have hb : b < w.heap.size := (Array.getElem?_eq_some_iff.1 hg).1
  refine ⟨putCells id 0 (flatK encX 2 d) cur, ?_, by simp [putCells], ?_⟩
  · unfold sortWorldK grow putRowK putRow mapBlock
    show ((w.heap.modify b _) ++ os)[b]? = _
    rw [Array.getElem?_append_left (by simpa using hb), Array.getElem?_modify, if_pos rfl, hg]
    rfl
  · rw [flat_pcells]
    have hl : (pcells (d.toList.map Subtype.val)).length = n * 2 := by rw [pcells_length]; simp [hd]
    apply List.ext_getElem?
    intro j
    rw [List.getElem?_take, Array.getElem?_toList]
    split
    · rename_i hj
      simp only [putCells, Array.getElem?_mapIdx, Nat.zero_add, Nat.zero_le, true_and, Nat.sub_zero, List.size_toArray, hl, hj, if_true]
      rw [Array.getElem?_eq_getElem (by omega), Option.map_some, getElem!_pos _ j (by simp [hl, hj])]
      simp only [id, List.getElem_toArray]
      rw [List.getElem?_eq_getElem]
    · rename_i hj
      rw [List.getElem?_eq_none (by omega)]
end Go.Proofs.Ytaomlhhlefpdeaa
