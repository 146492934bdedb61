/- hall: plain: what a plan without faults is like: its places without their companions are a list by levels, blocks and rows; they are in order, at different points, and clear of what is built. -/
import Derived.Test.YtmcdhggnpfhlmaaQHCB25
import Derived.Test.YtmcdhggnpfhlmaaQHCB31

namespace Go.Proofs.Ytmcdhggnpfhlmaa
open Go.RowKit Go.IntWalk
set_option linter.unusedSimpArgs false
set_option linter.unusedVariables false

/-- A place without its companion. -/
def bare (p : PlaceR) : PlaceR := { p with wth := 0 }
def rowB (h : HallR) (l : LevR) (n i k : Nat) (r : RowR) : List PlaceR := (seatsS r).map fun p => bare (seatPlace h l n i k r p)
def levB (h : HallR) (l : LevR) (n : Nat) : List PlaceR :=
  (l.blocks.zipIdx.flatMap fun b => b.1.rows.zipIdx.flatMap fun r => rowB h l n b.2 r.2 r.1) ++ l.areas.zipIdx.flatMap fun a => (areaPlaces h l n a.2 a.1).map bare

theorem fold_bare {α : Type} (f : List PlaceR → α → List PlaceR) (g : α → List PlaceR) (hf : ∀ o x, (f o x).map bare = o.map bare ++ g x) : ∀ (xs : List α) (o : List PlaceR), (xs.foldl f o).map bare = o.map bare ++ xs.flatMap g
  | [], o => by simp
  | x :: xs, o => by rw [List.foldl_cons, fold_bare f g hf xs, hf, List.flatMap_cons, List.append_assoc]
theorem level_bare (h : HallR) (l : LevR) (n : Nat) (o : List PlaceR) : (putLevel h o (l, n)).map bare = o.map bare ++ levB h l n := by
  unfold putLevel levB
  rw [fold_bare (putArea h l n) (fun a => (areaPlaces h l n a.2 a.1).map bare) (fun o x => by unfold putArea; rw [List.map_append]), fold_bare (putBlk h l n) (fun b => b.1.rows.zipIdx.flatMap fun r => rowB h l n b.2 r.2 r.1) (fun o x => ?_), List.append_assoc]
  unfold putBlk
  rw [fold_bare (putRow h l n x.2) (fun r => rowB h l n x.2 r.2 r.1) (fun o x => ?_)]
  unfold putRow
  rw [List.map_append]
  congr 1
  unfold rowPlaces rowB
  rw [List.map_map]
  rfl
theorem places_bare (h : HallR) : (placesS h).map bare = h.levels.zipIdx.flatMap fun l => levB h l.1 l.2 := by
  unfold placesS
  rw [fold_bare (putLevel h) (fun l => levB h l.1 l.2) (fun o x => level_bare h x.1 x.2 o)]
  simp

/-- A plan without faults. -/
structure NoFault (h : HallR) : Prop where
  one : NoSingle h
  count : countS h ≤ 4000
  apart : ∀ l ∈ h.levels, (allRows l).Pairwise fun a b => shareB b a = false
  clear : ∀ l ∈ h.levels, ∀ r ∈ allRows l, blockedB l r = false ∧ besideB (reachS l.aisles l.doors) l r = true
  area : ∀ l ∈ h.levels, ∀ a ∈ l.areas, (∀ r ∈ allRows l, inAreaB a r = false) ∧ openB (reachS l.aisles l.doors) l (fun b => meetB a.box b) = true

theorem single_of {h : HallR} (hf : faultsS h = []) : singleS h = [] ∧ countS h ≤ 4000 ∧ h.levels.flatMap severalS = [] := by
  have hs : singleS h = [] := by
    apply Classical.byContradiction
    intro hn
    unfold faultsS at hf
    rw [if_pos hn] at hf
    exact hn hf
  unfold faultsS at hf
  rw [if_neg (fun e => e hs)] at hf
  by_cases hst : ¬ (coordB h.stage.x && coordB h.stage.y) = true
  · rw [if_pos hst] at hf
    cases hf
  rw [if_neg hst] at hf
  by_cases hc : 4000 < countS h
  · rw [if_pos hc] at hf
    cases hf
  rw [if_neg hc] at hf
  exact ⟨hs, by omega, hf⟩

theorem zip_get {α : Type} {xs : List α} {i : Nat} (hi : i < xs.length) : (xs[i], i) ∈ xs.zipIdx := List.mem_iff_getElem.2 ⟨i, by simpa using hi, by simp⟩

theorem noFault {h : HallR} (hf : faultsS h = []) : NoFault h := by
  obtain ⟨hs, hc, hv⟩ := single_of hf
  refine ⟨noSingle hs, hc, fun l hl => ?_, fun l hl r hr => ?_, fun l hl a ha => ?_⟩
  · have h1 := flat_nil hv hl
    unfold severalS severalR at h1
    have h2 := (List.append_eq_nil_iff.1 h1).1
    rw [List.pairwise_iff_getElem]
    intro i j hi hj hij
    have h3 := flat_nil h2 (zip_get hj)
    dsimp only at h3
    unfold rowFaults at h3
    have h4 := List.map_eq_nil_iff.1 (List.append_eq_nil_iff.1 (List.append_eq_nil_iff.1 h3).1).1
    have h5 := List.filter_eq_nil_iff.1 h4 (allRows l)[i] (by
      rw [List.mem_iff_getElem]
      exact ⟨i, by rw [List.length_take]; omega, by rw [List.getElem_take]⟩)
    simpa using h5
  · have h1 := flat_nil hv hl
    unfold severalS severalR at h1
    have h2 := (List.append_eq_nil_iff.1 h1).1
    obtain ⟨i, hi⟩ := zip_mem hr
    have h3 := flat_nil h2 hi
    dsimp only at h3
    unfold rowFaults at h3
    obtain ⟨h4, h5⟩ := List.append_eq_nil_iff.1 h3
    obtain ⟨_, h6⟩ := List.append_eq_nil_iff.1 h4
    refine ⟨?_, ?_⟩
    · cases e : blockedB l r with
      | false => rfl
      | true => rw [e] at h6; cases h6
    · cases e : besideB (reachS l.aisles l.doors) l r with
      | true => rfl
      | false => rw [e] at h5; cases h5
  · have h1 := flat_nil hv hl
    unfold severalS severalR at h1
    have h2 := (List.append_eq_nil_iff.1 h1).2
    obtain ⟨i, hi⟩ := zip_mem ha
    have h3 := flat_nil h2 hi
    dsimp only at h3
    unfold areaFaults at h3
    obtain ⟨h4, h5⟩ := List.append_eq_nil_iff.1 h3
    obtain ⟨h6, _⟩ := List.append_eq_nil_iff.1 h4
    refine ⟨fun r hr => ?_, ?_⟩
    · have := List.filter_eq_nil_iff.1 (List.map_eq_nil_iff.1 h6) r hr
      simpa using this
    · cases e : openB (reachS l.aisles l.doors) l (fun b => meetB a.box b) with
      | true => rfl
      | false => rw [e] at h5; cases h5

/-- The seats of a row are in order, and their points, too. -/
theorem seats_order {r : RowR} (hok : RowOk r) : (seatsS r).Pairwise fun p q => p.1 < q.1 ∧ p.2 < q.2 := by
  unfold seatsS
  refine List.Pairwise.filter _ ?_
  rw [List.pairwise_map]
  refine List.Pairwise.imp (fun {a b} hab => ?_) List.pairwise_lt_range
  have hst := hok.st
  refine ⟨by show r.fr + _ < r.fr + _; omega, ?_⟩
  show r.x + (a : Int) * r.step < r.x + (b : Int) * r.step
  have h1 : (a : Int) * r.step < (b : Int) * r.step := Int.mul_lt_mul_of_pos_right (by omega) (by omega)
  omega

theorem zip_fst {α : Type} {R : α → α → Prop} {xs : List α} (h : xs.Pairwise R) : xs.zipIdx.Pairwise fun a b => R a.1 b.1 := by
  rw [List.pairwise_iff_getElem] at h ⊢
  intro i j hi hj hij
  simp only [List.getElem_zipIdx]
  exact h i j (by simpa using hi) (by simpa using hj) hij
theorem zip_lt {α : Type} (xs : List α) : xs.zipIdx.Pairwise fun a b => a.2 < b.2 := by
  rw [List.pairwise_iff_getElem]
  intro i j hi hj hij
  simp only [List.getElem_zipIdx]
  omega
theorem zip_fm {α : Type} {xs : List α} {p : α × Nat} (h : p ∈ xs.zipIdx) : p.1 ∈ xs := by
  obtain ⟨i, hi, rfl⟩ := List.mem_iff_getElem.1 h
  simp

/-- Of two places the first comes ahead. -/
theorem lessP_lev {a b : PlaceR} (h : a.level < b.level) : lessP a b = true := by
  unfold lessP
  rw [if_pos (by omega)]
  simpa using h
theorem lessP_blk {a b : PlaceR} (h1 : a.level = b.level) (h : a.block < b.block) : lessP a b = true := by
  unfold lessP
  rw [if_neg (by omega), if_pos (by omega)]
  simpa using h
theorem lessP_row {a b : PlaceR} (h1 : a.level = b.level) (h2 : a.block = b.block) (h : a.row < b.row) : lessP a b = true := by
  unfold lessP
  rw [if_neg (by omega), if_neg (by omega), if_pos (by omega)]
  simpa using h
theorem lessP_seat {a b : PlaceR} (h1 : a.level = b.level) (h2 : a.block = b.block) (h3 : a.row = b.row) (h : a.seat < b.seat) : lessP a b = true := by
  unfold lessP
  rw [if_neg (by omega), if_neg (by omega), if_neg (by omega)]
  simpa using h

theorem mem_rowB {h : HallR} {l : LevR} {n i k : Nat} {r : RowR} {p : PlaceR} (hp : p ∈ rowB h l n i k r) : ∃ q ∈ seatsS r, p.level = n ∧ p.block = i ∧ p.row = k ∧ p.seat = q.1 ∧ p.x = q.2 ∧ p.y = r.y := by
  unfold rowB at hp
  obtain ⟨q, hq, rfl⟩ := List.mem_map.1 hp
  exact ⟨q, hq, rfl, rfl, rfl, rfl, rfl, rfl⟩
theorem mem_areaB {h : HallR} {l : LevR} {n i : Nat} {a : AreaR} {p : PlaceR} (hp : p ∈ (areaPlaces h l n i a).map bare) : p.level = n ∧ p.block = ((l.blocks.length + i : Nat) : Int) ∧ p.row = -1 := by
  obtain ⟨q, hq, rfl⟩ := List.mem_map.1 hp
  unfold areaPlaces at hq
  obtain ⟨s, hs, rfl⟩ := List.mem_map.1 hq
  exact ⟨rfl, rfl, rfl⟩
theorem mem_levB {h : HallR} {l : LevR} {n : Nat} {p : PlaceR} (hp : p ∈ levB h l n) : p.level = n := by
  unfold levB at hp
  rcases List.mem_append.1 hp with hp | hp
  · obtain ⟨b, hb, hp⟩ := List.mem_flatMap.1 hp
    obtain ⟨r, hr, hp⟩ := List.mem_flatMap.1 hp
    obtain ⟨q, _, h1, _⟩ := mem_rowB hp
    exact h1
  · obtain ⟨a, ha, hp⟩ := List.mem_flatMap.1 hp
    exact (mem_areaB hp).1

theorem rowB_order {h : HallR} {l : LevR} {n i k : Nat} {r : RowR} (hok : RowOk r) : (rowB h l n i k r).Pairwise fun a b => lessP a b = true := by
  unfold rowB
  rw [List.pairwise_map]
  exact (seats_order hok).imp fun {p q} hab => by
    refine lessP_seat ?_ ?_ ?_ ?_
    · rfl
    · rfl
    · rfl
    · exact hab.1
theorem levB_order {h : HallR} {l : LevR} {n : Nat} (hr : ∀ b ∈ l.blocks, ∀ r ∈ b.rows, RowOk r) : (levB h l n).Pairwise fun a b => lessP a b = true := by
  unfold levB
  rw [List.pairwise_append]
  refine ⟨?_, ?_, fun a ha b hb => ?_⟩
  · rw [List.pairwise_flatMap]
    refine ⟨fun b hb => ?_, (zip_lt l.blocks).imp fun {b c} hbc p hp q hq => ?_⟩
    · rw [List.pairwise_flatMap]
      refine ⟨fun r hr2 => rowB_order (hr _ (zip_fm hb) _ (zip_fm hr2)), (zip_lt b.1.rows).imp fun {r s} hrs p hp q hq => ?_⟩
      obtain ⟨_, _, h1, h2, h3, _⟩ := mem_rowB hp
      obtain ⟨_, _, g1, g2, g3, _⟩ := mem_rowB hq
      exact lessP_row (by rw [h1, g1]) (by rw [h2, g2]) (by rw [h3, g3]; omega)
    · obtain ⟨r, _, hp⟩ := List.mem_flatMap.1 hp
      obtain ⟨s, _, hq⟩ := List.mem_flatMap.1 hq
      obtain ⟨_, _, h1, h2, h3, _⟩ := mem_rowB hp
      obtain ⟨_, _, g1, g2, g3, _⟩ := mem_rowB hq
      exact lessP_blk (by rw [h1, g1]) (by rw [h2, g2]; omega)
  · rw [List.pairwise_flatMap]
    refine ⟨fun a ha => ?_, (zip_lt l.areas).imp fun {b c} hbc p hp q hq => ?_⟩
    · unfold areaPlaces
      rw [List.pairwise_map, List.pairwise_map]
      exact List.pairwise_lt_range.imp fun {s t} hst => by
        refine lessP_seat ?_ ?_ ?_ ?_
        · rfl
        · rfl
        · rfl
        · show (s : Int) + 1 < (t : Int) + 1
          omega
    · obtain ⟨h1, h2, _⟩ := mem_areaB hp
      obtain ⟨g1, g2, _⟩ := mem_areaB hq
      exact lessP_blk (by rw [h1, g1]) (by rw [h2, g2]; omega)
  · obtain ⟨c, hc, ha⟩ := List.mem_flatMap.1 ha
    obtain ⟨r, _, ha⟩ := List.mem_flatMap.1 ha
    obtain ⟨d, _, hb⟩ := List.mem_flatMap.1 hb
    obtain ⟨_, _, h1, h2, h3, _⟩ := mem_rowB ha
    obtain ⟨g1, g2, _⟩ := mem_areaB hb
    obtain ⟨i, hi, rfl⟩ := List.mem_iff_getElem.1 hc
    simp only [List.getElem_zipIdx] at h2
    simp only [List.length_zipIdx] at hi
    exact lessP_blk (by rw [h1, g1]) (by rw [h2, g2]; omega)

/-- No two seats are at one point. -/
def Apart (a b : PlaceR) : Prop := 0 ≤ a.row → 0 ≤ b.row → ¬ (a.level = b.level ∧ a.x = b.x ∧ a.y = b.y)
theorem share_no {a b : RowR} (h : shareB b a = false) {p q : Int × Int} (hp : p ∈ seatsS a) (hq : q ∈ seatsS b) : ¬ (p.2 = q.2 ∧ a.y = b.y) := by
  rintro ⟨h1, h2⟩
  unfold shareB at h
  rw [List.any_eq_false] at h
  have := h q hq
  simp only [List.any_eq_true, Bool.and_eq_true, decide_eq_true_eq, not_exists, not_and] at this
  exact this p hp h1.symm h2.symm
theorem levB_apart {h : HallR} {l : LevR} {n : Nat} (hr : ∀ b ∈ l.blocks, ∀ r ∈ b.rows, RowOk r) (hs : (allRows l).Pairwise fun a b => shareB b a = false) : (levB h l n).Pairwise Apart := by
  unfold levB
  unfold allRows at hs
  rw [List.pairwise_flatMap] at hs
  rw [List.pairwise_append]
  refine ⟨?_, ?_, fun a ha b hb => ?_⟩
  · rw [List.pairwise_flatMap]
    refine ⟨fun b hb => ?_, (zip_fst hs.2).imp fun {b c} hbc p hp q hq => ?_⟩
    · rw [List.pairwise_flatMap]
      refine ⟨fun r hr2 => ?_, (zip_fst (hs.1 _ (zip_fm hb))).imp fun {r s} hrs p hp q hq => ?_⟩
      · unfold rowB
        rw [List.pairwise_map]
        refine (seats_order (hr _ (zip_fm hb) _ (zip_fm hr2))).imp fun {p q} hpq _ _ he => ?_
        have : p.2 = q.2 := he.2.1
        omega
      · obtain ⟨u, hu, _, _, _, _, h5, h6⟩ := mem_rowB hp
        obtain ⟨v, hv, _, _, _, _, g5, g6⟩ := mem_rowB hq
        intro _ _ he
        exact share_no hrs hu hv ⟨by rw [← h5, ← g5]; exact he.2.1, by rw [← h6, ← g6]; exact he.2.2⟩
    · obtain ⟨r, hr2, hp⟩ := List.mem_flatMap.1 hp
      obtain ⟨s, hs2, hq⟩ := List.mem_flatMap.1 hq
      obtain ⟨u, hu, _, _, _, _, h5, h6⟩ := mem_rowB hp
      obtain ⟨v, hv, _, _, _, _, g5, g6⟩ := mem_rowB hq
      intro _ _ he
      exact share_no (hbc _ (zip_fm hr2) _ (zip_fm hs2)) hu hv ⟨by rw [← h5, ← g5]; exact he.2.1, by rw [← h6, ← g6]; exact he.2.2⟩
  · rw [List.pairwise_flatMap]
    refine ⟨fun a ha => ?_, (zip_lt l.areas).imp fun {b c} hbc p hp q hq => ?_⟩
    · refine List.pairwise_iff_getElem.2 fun i j hi hj _ hr0 => ?_
      have := (mem_areaB (List.getElem_mem hi)).2.2
      omega
    · intro hr0
      have := (mem_areaB hp).2.2
      omega
  · intro _ hr0
    obtain ⟨d, _, hb⟩ := List.mem_flatMap.1 hb
    have := (mem_areaB hb).2.2
    omega

/-- What HallPlaces asks of the places. -/
structure PlcLaw (h : HallR) (P : List PlaceR) : Prop where
  lev : ∀ p ∈ P, ∃ (n : Nat) (hn : n < h.levels.length), p.level = n ∧ (0 ≤ p.row → (0 ≤ p.x ∧ p.x ≤ 10000 ∧ 0 ≤ p.y ∧ p.y ≤ 10000) ∧ (∀ a ∈ h.levels[n].areas, insideB a.box p.x p.y = false) ∧ (∀ b ∈ h.levels[n].pillars, insideB b p.x p.y = false) ∧ ∀ b ∈ h.levels[n].aisles, insideB b p.x p.y = false)
  ord : P.Pairwise fun a b => lessP a b = true
  pts : P.Pairwise Apart
theorem PlcLaw.of_bare {h : HallR} {P : List PlaceR} (hp : PlcLaw h (P.map bare)) : PlcLaw h P :=
  ⟨fun p hp2 => hp.lev (bare p) (List.mem_map.2 ⟨p, hp2, rfl⟩), by have := hp.ord; rw [List.pairwise_map] at this; exact this, by have := hp.pts; rw [List.pairwise_map] at this; exact this⟩

theorem places_law0 {h : HallR} (hf : faultsS h = []) : PlcLaw h (placesS h) := by
  have H := noFault hf
  refine PlcLaw.of_bare ?_
  rw [places_bare]
  refine ⟨fun p hp => ?_, ?_, ?_⟩
  · obtain ⟨ln, hl, hp⟩ := List.mem_flatMap.1 hp
    obtain ⟨n, hn, rfl⟩ := List.mem_iff_getElem.1 hl
    simp only [List.length_zipIdx] at hn
    simp only [List.getElem_zipIdx, Nat.zero_add] at hp
    have hlm : h.levels[n] ∈ h.levels := List.getElem_mem hn
    refine ⟨n, hn, mem_levB hp, fun hr0 => ?_⟩
    unfold levB at hp
    rcases List.mem_append.1 hp with hp | hp
    · obtain ⟨b, hb, hp⟩ := List.mem_flatMap.1 hp
      obtain ⟨r, hr, hp⟩ := List.mem_flatMap.1 hp
      obtain ⟨q, hq, h1, h2, h3, h4, h5, h6⟩ := mem_rowB hp
      have hrm : r.1 ∈ allRows h.levels[n] := List.mem_flatMap.2 ⟨b.1, zip_fm hb, zip_fm hr⟩
      have hok := (H.one.rows _ hlm _ (zip_fm hb) _ (zip_fm hr)).1
      have hbl := (H.clear _ hlm _ hrm).1
      unfold blockedB at hbl
      rw [List.any_eq_false] at hbl
      have hb1 := hbl q hq
      simp only [Bool.or_eq_true, not_or, Bool.not_eq_true] at hb1
      rw [h5, h6]
      refine ⟨?_, fun a ha => ?_, fun b hb => List.any_eq_false.1 hb1.1 b hb |> fun e => by simpa using e, fun b hb => List.any_eq_false.1 hb1.2 b hb |> fun e => by simpa using e⟩
      · have := seat_range hok hq
        have := hok.cy
        omega
      · have := (H.area _ hlm a ha).1 _ hrm
        unfold inAreaB at this
        rw [List.any_eq_false] at this
        simpa using this q hq
    · obtain ⟨a, ha, hp⟩ := List.mem_flatMap.1 hp
      have := (mem_areaB hp).2.2
      omega
  · rw [List.pairwise_flatMap]
    refine ⟨fun l hl => levB_order fun b hb r hr => (H.one.rows _ (zip_fm hl) b hb r hr).1, (zip_lt h.levels).imp fun {l m} hlm p hp q hq => lessP_lev ?_⟩
    rw [mem_levB hp, mem_levB hq]
    omega
  · rw [List.pairwise_flatMap]
    refine ⟨fun l hl => levB_apart (fun b hb r hr => (H.one.rows _ (zip_fm hl) b hb r hr).1) (H.apart _ (zip_fm hl)), (zip_lt h.levels).imp fun {l m} hlm p hp q hq _ _ he => ?_⟩
    have h1 := he.1
    rw [mem_levB hp, mem_levB hq] at h1
    omega
end Go.Proofs.Ytmcdhggnpfhlmaa
