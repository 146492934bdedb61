/- hall: places: a row's places as a list; with what each goes: plain. -/
import Derived.Test.YtmcdhggnpfhlmaaQHCB26
import Derived.Test.YtmcdhggnpfhlmaaQHCB27

namespace Go.Proofs.Ytmcdhggnpfhlmaa
open Go.RowKit Go.IntWalk Go.Maps Go.WideMaps
set_option linter.unusedSimpArgs false
set_option linter.unusedVariables false

theorem seats_nodup (r : RowR) : ((seatsS r).map (·.1)).Nodup := by
  unfold seatsS
  rw [List.filter_map, List.map_map]
  refine List.Pairwise.map _ (fun a b (h : a ≠ b) => ?_) ((List.nodup_range).filter _)
  intro e
  have : r.fr + (a : Int) = r.fr + (b : Int) := e
  exact h (by omega)

/-- Where a number stands in a list of seats, from base on. -/
def atF2 (base : Nat) (l : List (Int × Int)) (j : Int) : Int := if j ∈ l.map (·.1) then ((base + l.findIdx fun p => decide (p.1 = j) : Nat) : Int) else 0
theorem atF2_nil (base : Nat) : atF2 base [] = fun _ => 0 := by
  funext j
  simp [atF2]
theorem atF2_next {base : Nat} {l : List (Int × Int)} {q : Int × Int} (h : q.1 ∉ l.map (·.1)) : atF2 base (l ++ [q]) = fun j => if j = q.1 then ((base + l.length : Nat) : Int) else atF2 base l j := by
  funext j
  unfold atF2
  rw [List.findIdx_append, List.map_append]
  by_cases e : j = q.1
  · have hn : l.findIdx (fun p => decide (p.1 = j)) = l.length := by
      rw [List.findIdx_eq_length]
      intro p hp
      have : p.1 ≠ j := fun h2 => h (by rw [← e, ← h2]; exact List.mem_map_of_mem hp)
      simpa using this
    have hf : List.findIdx (fun p : Int × Int => decide (p.1 = j)) [q] = 0 := by
      rw [List.findIdx_cons]
      simp [e]
    rw [if_pos e, if_pos (by simp [e]), hn, hf]
    simp
  · rw [if_neg e]
    by_cases hm : j ∈ l.map (·.1)
    · rw [if_pos (List.mem_append_left _ hm), if_pos hm]
      have hlt : l.findIdx (fun p => decide (p.1 = j)) < l.length := by
        rw [List.findIdx_lt_length]
        obtain ⟨p, hp, e2⟩ := List.mem_map.1 hm
        exact ⟨p, hp, by simp [e2]⟩
      rw [if_pos hlt]
    · rw [if_neg hm, if_neg]
      rw [List.mem_append]
      rintro (h2 | h2)
      · exact hm h2
      · exact e (by simpa using h2)
theorem seat_new {r : RowR} {l : List (Int × Int)} {q : Int × Int} (h : (l ++ [q]) <+: seatsS r) : q.1 ∉ l.map (·.1) := by
  have hn := (List.Sublist.nodup (h.sublist.map (·.1)) (seats_nodup r))
  rw [List.map_append, List.nodup_append] at hn
  intro hm
  exact hn.2.2 q.1 hm q.1 (by simp) rfl
theorem atF2_seat {base : Nat} {r : RowR} {a : Nat} (ha : a < (seatsS r).length) : atF2 base (seatsS r) (seatsS r)[a].1 = ((base + a : Nat) : Int) := by
  unfold atF2
  rw [if_pos (List.mem_map_of_mem (List.getElem_mem ha))]
  have : (seatsS r).findIdx (fun p => decide (p.1 = (seatsS r)[a].1)) = a := by
    rw [List.findIdx_eq ha]
    refine ⟨by simp, fun j hj => ?_⟩
    have hn := List.pairwise_iff_getElem.1 (seats_nodup r) j a (by simp; omega) (by simpa using ha) hj
    simp only [List.getElem_map] at hn
    simpa using hn
  rw [this]
theorem place_of {r : RowR} {a : Nat} (ha : a < (seatsS r).length) : placeOf r (seatsS r)[a].1 = a := by
  unfold placeOf
  rw [List.findIdx_eq ha]
  refine ⟨by simp, fun j hj => ?_⟩
  have hn := List.pairwise_iff_getElem.1 (seats_nodup r) j a (by simp; omega) (by simpa using ha) hj
  simp only [List.getElem_map] at hn
  simpa using hn

/-- The row's places are made. -/
theorem first_any (w0 : World) (h : HallR) (l : LevR) (r : RowR) (n i k gn gi gk gr gh g3 gm M : Nat) (w : World) (out : List PlaceR) (hp : Plc1 w0 h r n i k gn gi gk gr gh g3 gm M w out 0 (fun _ => 0))
    (hh : h.In w0) (hl : h.levels[n]? = some l) (hpn : l.pn ≤ 100000) (hr : r.In w0) (hok : RowOk r) (ho : out.length ≤ 800000) :
    Calls Try.prog 26 #[.agg #[.string (bs r.name), .int .i64 r.x, .int .i64 r.y, .int .i64 r.fr, .int .i64 r.to, .int .i64 r.step, .slice r.ma r.mn r.mc, .int .i64 r.at'], .func (.func 64) #[] #[.pointer (some ⟨gn, 0, none⟩), .pointer (some ⟨gi, 0, none⟩), .pointer (some ⟨gk, 0, none⟩), .pointer (some ⟨gr, 0, none⟩), .pointer (some ⟨gh, 0, none⟩), .pointer (some ⟨g3, 0, none⟩), .pointer (some ⟨gm, 0, none⟩)]] w
      fun e w' => e = .returned (.tuple #[]) ∧ Plc1 w0 h r n i k gn gi gk gr gh g3 gm M w' (out ++ (seatsS r).map (seatPlace h l n i k r)) (seatsS r).length (atF2 out.length (seatsS r)) ∧ KUpd (PlT M g3) w w' := by
  refine seats_any w r hok 64 [.pointer (some ⟨gn, 0, none⟩), .pointer (some ⟨gi, 0, none⟩), .pointer (some ⟨gk, 0, none⟩), .pointer (some ⟨gr, 0, none⟩), .pointer (some ⟨gh, 0, none⟩), .pointer (some ⟨g3, 0, none⟩), .pointer (some ⟨gm, 0, none⟩)] (by kernel_rfl)
    (fun lst wx => Plc1 w0 h r n i k gn gi gk gr gh g3 gm M wx (out ++ lst.map (seatPlace h l n i k r)) lst.length (atF2 out.length lst) ∧ KUpd (PlT M g3) w wx) ?_ ?_ ?_ ⟨by rw [atF2_nil, List.map_nil, List.append_nil]; exact hp, KUpd.refl _ _⟩
  · rintro lst wx ⟨hs, _⟩
    exact hr.below hs.below
  · rintro lst wx w' ⟨hs, hk⟩ hb
    exact ⟨hs.down hb, hk.trans (KUpd.of_below hb)⟩
  · rintro lst p hpre wx ⟨hs, hk⟩
    have hpm : p ∈ seatsS r := hpre.subset (by simp)
    obtain ⟨h1, h2, _, _⟩ := seat_range hok hpm
    have hll : lst.length + 1 ≤ 60 := by
      have := hpre.length_le
      have := seats_len hok
      rw [List.length_append] at *
      simp at *
      omega
    have hfr := hok.fr
    have hto := hok.to
    refine (places1_any w0 h l r n i k gn gi gk gr gh g3 gm M wx _ _ _ p.1 p.2 hs hh hl hpn hr (wf_i64 (by omega) (by omega)) (by rw [List.length_append, List.length_map]; omega) (by omega)).mono ?_
    rintro e w' ⟨rfl, h5, h6⟩
    obtain ⟨es, c, hM⟩ := hs.map.blk
    obtain ⟨v, hv, _⟩ := hs.out.row
    refine ⟨rfl, ⟨?_, hk.trans h6⟩, fun b arr x hb => h6.block b _ hb (by
      rintro (rfl | rfl | ⟨A, y, e⟩)
      · rw [hM] at hb; cases hb
      · rw [hv] at hb; cases hb
      · cases e)⟩
    rw [atF2_next (seat_new hpre), List.map_append, List.length_append, ← List.append_assoc]
    rw [List.length_append, List.length_map] at h5
    exact h5

/-! ### With what each place goes -/
def bsd (r : RowR) (s : Int) (q : Int × Int) : Bool := decide ((markS r.marks q.1).kind = 4) && decide ((markS r.marks q.1).wth = s)
/-- .. when some seats are through. -/
def withP (r : RowR) (first : Nat) (lst : List (Int × Int)) (s : Int) : Int :=
  if (markS r.marks s).kind = 4 then (if s ∈ lst.map (·.1) then ((first + placeOf r (markS r.marks s).wth : Nat) : Int) else -1)
  else if (markS r.marks s).kind = 2 then
    match lst.find? (bsd r s) with
    | some q => ((first + placeOf r q.1 : Nat) : Int)
    | none => -1
  else -1
theorem withP_all {r : RowR} {first : Nat} {s : Int} (h : s ∈ (seatsS r).map (·.1)) : withP r first (seatsS r) s = withS r first s := by
  unfold withP withS
  simp only [if_pos h]
  rfl
theorem withP_nil (r : RowR) (first : Nat) (s : Int) : withP r first [] s = -1 := by
  unfold withP
  simp
/-- A seat that is no companion's changes nothing. -/
theorem withP_skip {r : RowR} {first : Nat} {lst : List (Int × Int)} {q : Int × Int} (hk : (markS r.marks q.1).kind ≠ 4) (s : Int) : withP r first (lst ++ [q]) s = withP r first lst s := by
  unfold withP
  by_cases h4 : (markS r.marks s).kind = 4
  · rw [if_pos h4, if_pos h4]
    have hne : s ≠ q.1 := fun e => hk (by rw [← e]; exact h4)
    have : s ∈ (lst ++ [q]).map (·.1) ↔ s ∈ lst.map (·.1) := by
      rw [List.map_append, List.mem_append]
      simp [hne]
    by_cases hm : s ∈ lst.map (·.1)
    · rw [if_pos hm, if_pos (this.2 hm)]
    · rw [if_neg hm, if_neg (fun h => hm (this.1 h))]
  · rw [if_neg h4, if_neg h4]
    have hb : bsd r s q = false := by simp [bsd, hk]
    rw [List.find?_append]
    have : List.find? (bsd r s) [q] = none := by simp [List.find?_cons, hb]
    rw [this, Option.or_none]
/-- .. and one that is, its own place and its wheelchair's. -/
theorem withP_other {r : RowR} {first : Nat} {lst : List (Int × Int)} {q : Int × Int} {s : Int} (h1 : s ≠ q.1) (h2 : (markS r.marks q.1).wth ≠ s) : withP r first (lst ++ [q]) s = withP r first lst s := by
  unfold withP
  have : s ∈ (lst ++ [q]).map (·.1) ↔ s ∈ lst.map (·.1) := by
    rw [List.map_append, List.mem_append]
    simp [h1]
  have hb : bsd r s q = false := by simp [bsd, h2]
  rw [List.find?_append]
  have hn : List.find? (bsd r s) [q] = none := by simp [List.find?_cons, hb]
  rw [hn, Option.or_none]
  by_cases hm : s ∈ lst.map (·.1)
  · simp only [if_pos hm, if_pos (this.2 hm)]
  · simp only [if_neg hm, if_neg (fun h => hm (this.1 h))]
theorem withP_own {r : RowR} {first : Nat} {lst : List (Int × Int)} {q : Int × Int} (hk : (markS r.marks q.1).kind = 4) : withP r first (lst ++ [q]) q.1 = ((first + placeOf r (markS r.marks q.1).wth : Nat) : Int) := by
  unfold withP
  rw [if_pos hk, if_pos (by simp)]
theorem withP_wheel {r : RowR} {first : Nat} {lst : List (Int × Int)} {q : Int × Int} (hk : (markS r.marks q.1).kind = 4) (hw : (markS r.marks (markS r.marks q.1).wth).kind = 2) :
    withP r first (lst ++ [q]) (markS r.marks q.1).wth = if withP r first lst (markS r.marks q.1).wth < 0 then ((first + placeOf r q.1 : Nat) : Int) else withP r first lst (markS r.marks q.1).wth := by
  unfold withP
  have h24 : ((2 : Int) = 4) = False := by simp
  rw [List.find?_append]
  simp only [hw, h24, if_false, if_true]
  cases hf : lst.find? (bsd r (markS r.marks q.1).wth) with
  | some p =>
    simp only [Option.some_or]
    rw [if_neg (by omega)]
  | none =>
    have hb : bsd r (markS r.marks q.1).wth q = true := by simp [bsd, hk]
    simp [hb]

/-- The list when some seats are through. -/
def rowP (h : HallR) (l : LevR) (n i k : Nat) (r : RowR) (first : Nat) (lst : List (Int × Int)) : List PlaceR := (seatsS r).map fun p => { seatPlace h l n i k r p with wth := withP r first lst p.1 }
theorem rowP_nil (h : HallR) (l : LevR) (n i k : Nat) (r : RowR) (first : Nat) : rowP h l n i k r first [] = (seatsS r).map (seatPlace h l n i k r) := by
  unfold rowP
  refine List.map_congr_left fun p _ => ?_
  rw [withP_nil]
  rfl
theorem rowP_all (h : HallR) (l : LevR) (n i k : Nat) (r : RowR) (first : Nat) : rowP h l n i k r first (seatsS r) = rowPlaces h l n i k r first := by
  unfold rowP rowPlaces
  refine List.map_congr_left fun p hp => ?_
  rw [withP_all (List.mem_map_of_mem hp)]
theorem rowP_len (h : HallR) (l : LevR) (n i k : Nat) (r : RowR) (first : Nat) (lst : List (Int × Int)) : (rowP h l n i k r first lst).length = (seatsS r).length := by simp [rowP]
theorem rowP_skip {h : HallR} {l : LevR} {n i k : Nat} {r : RowR} {first : Nat} {lst : List (Int × Int)} {q : Int × Int} (hk : (markS r.marks q.1).kind ≠ 4) : rowP h l n i k r first (lst ++ [q]) = rowP h l n i k r first lst := by
  unfold rowP
  exact List.map_congr_left fun p _ => by rw [withP_skip hk]
theorem rowP_at {h : HallR} {l : LevR} {n i k : Nat} {r : RowR} {first : Nat} {lst : List (Int × Int)} {a : Nat} (ha : a < (seatsS r).length) (ha2 : a < (rowP h l n i k r first lst).length) : (rowP h l n i k r first lst)[a]'ha2 = { seatPlace h l n i k r ((seatsS r)[a]'ha) with wth := withP r first lst ((seatsS r)[a]'ha).1 } := by
  simp [rowP]

/-- A companion's seat: its place is stored into; then, where nothing stands, its wheelchair's. -/
theorem rowP_take {h : HallR} {l : LevR} {n i k : Nat} {r : RowR} {first : Nat} {lst : List (Int × Int)} {a b : Nat} (ha : a < (seatsS r).length) (hb : b < (seatsS r).length) (hk : (markS r.marks (seatsS r)[a].1).kind = 4) (hw : (markS r.marks (seatsS r)[a].1).wth = (seatsS r)[b].1) (hk2 : (markS r.marks (seatsS r)[b].1).kind = 2) :
    rowP h l n i k r first (lst ++ [(seatsS r)[a]]) = ((rowP h l n i k r first lst).set a { seatPlace h l n i k r (seatsS r)[a] with wth := ((first + b : Nat) : Int) }).set b
      { seatPlace h l n i k r (seatsS r)[b] with wth := if withP r first lst (seatsS r)[b].1 < 0 then ((first + a : Nat) : Int) else withP r first lst (seatsS r)[b].1 } := by
  have hab : a ≠ b := by
    rintro rfl
    rw [hk] at hk2
    cases hk2
  apply List.ext_getElem
  · simp [rowP_len]
  intro c h1 h2
  have hc : c < (seatsS r).length := by rw [rowP_len] at h1; exact h1
  rw [rowP_at hc, List.getElem_set]
  by_cases hcb : b = c
  · subst hcb
    rw [if_pos rfl]
    have := withP_wheel (first := first) (lst := lst) hk (by rw [hw]; exact hk2)
    rw [hw, place_of ha] at this
    rw [this]
  · rw [if_neg hcb, List.getElem_set]
    by_cases hca : a = c
    · subst hca
      rw [if_pos rfl, withP_own hk, hw, place_of hb]
    · rw [if_neg hca, rowP_at hc]
      have hn := seats_nodup r
      have key : ∀ {x y : Nat} (hx : x < (seatsS r).length) (hy : y < (seatsS r).length), (seatsS r)[x].1 = (seatsS r)[y].1 → x = y := fun {x y} hx hy e => by
        have h1 := place_of hx
        have h2 := place_of hy
        rw [e] at h1
        omega
      rw [withP_other (fun e => hca (key hc ha e).symm) (fun e => hcb (key hb hc (hw.symm.trans e)))]
end Go.Proofs.Ytmcdhggnpfhlmaa
