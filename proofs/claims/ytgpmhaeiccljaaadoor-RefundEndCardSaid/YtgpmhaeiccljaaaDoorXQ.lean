/- refund, plain: what an operation takes of each name, and the sums of RefundEnd. -/
import Derived.Test.YtgpmhaeiccljaaaDoorXP
import Derived.Test.YtgpmhaeiccljaaaDoorBools
namespace Go.Proofs.YtgpmhaeiccljaaaDoor
open Go.RowKit Go.IntWalk

theorem of_nonneg {L : List MeanT} (h : Good L) (u : Name) : 0 ≤ ofS L u := by
  rcases has_name h u with ⟨e, _⟩ | ⟨i, _, _, e, hp⟩ <;> omega

theorem take_ofU {L t : List MeanT} (h : Good L) (hp : PartOf L t) (u : Name) : ofS (takeS L t) u = ofS L u - ofS t u ∧ 0 ≤ ofS t u ∧ ofS t u ≤ ofS L u := by
  rcases has_name h u with ⟨e, hno⟩ | ⟨i, hi, e, e2, _⟩
  · have e1 : ofS t u = 0 := of_none fun j hj ej => by
      obtain ⟨i, hi, e3, _⟩ := hp.here j hj
      exact hno i hi (by rw [e3, ej])
    have e2 : ofS (takeS L t) u = 0 := of_none fun j hj ej => by
      have hm : nm (takeS L t) j ∈ (takeS L t).map (·.1) := by rw [nm_eq _ _ hj]; exact List.mem_map_of_mem (List.getElem_mem hj)
      have hm2 := (some_sub (L.map (·.1)) (L.map fun m => m.2 - ofS t m.1)).subset hm
      rw [ej] at hm2
      obtain ⟨m, hm3, hm4⟩ := List.mem_map.mp hm2
      obtain ⟨i, hi, rfl⟩ := List.getElem_of_mem hm3
      exact hno i hi (by rw [nm_eq _ _ hi]; exact hm4)
    omega
  · have hr := hp.range h i hi
    have ho := take_of h t (fun j hj => by have := hp.range h j hj; omega) i hi
    rw [e] at ho hr
    omega

/-- What an operation does to a name. -/
structure StepP (L L' BK : List MeanT) (lost er : Int) (t u : Name) : Prop where
  sum : ofS L u = ofS L' u + ofS BK u + (if er = 0 ∧ t = u then lost else 0)
  lo : 0 ≤ ofS BK u
  lo' : 0 ≤ ofS L' u
  lost0 : 0 ≤ lost
  bound : lost ≤ 1000000000
  gone : er = 0 → t = u → ofS L' u = 0
  err : er ≠ 0 → BK = [] ∧ lost = 0

theorem do_step {L : List MeanT} (h : Good L) (x : Int) (t u : Name) (hu : u ≠ []) : StepP L (doLeft L x t) (doBack L x t) (doLost L t) (doErr L x t) t u := by
  have hnn := of_nonneg (do_good h x t) u
  by_cases ht : t = []
  · have e1 : doBack L x t = (mpartS L x).1 := by unfold doBack; rw [if_pos ht]
    have e2 : doLost L t = 0 := by unfold doLost; rw [if_pos ht]
    have e3 : doErr L x t = (mpartS L x).2 := by unfold doErr; rw [if_pos ht]
    have e4 : doLeft L x t = backS L x := by unfold doLeft; rw [if_pos ht]
    have htu : t ≠ u := fun e => hu (by rw [← e, ht])
    have hp := mpart_partOf (a := x) h
    have ht := take_ofU h hp u
    rw [e4] at hnn
    rw [e1, e2, e3, e4]
    by_cases he : (mpartS L x).2 = 0
    · refine ⟨?_, ht.2.1, hnn, by omega, by omega, fun _ e => absurd e htu, fun hne => absurd he hne⟩
      rw [if_neg (fun h => htu h.2), back_ok he]
      omega
    · have hem : (mpartS L x).1 = [] := by
        by_cases h0 : x < 0
        · rw [part_neg h0]
        · by_cases h1 : totS L < x
          · rw [part_big (by omega) h1]
          · exact absurd (part_fit (by omega) (by omega)) he
      refine ⟨?_, ht.2.1, hnn, by omega, by omega, fun e _ => absurd e he, fun _ => ⟨hem, rfl⟩⟩
      rw [if_neg (fun h => htu h.2), back_err he, hem]
      show _ = _ + 0 + 0
      omega
  · have e1 : doBack L x t = [] := by unfold doBack; rw [if_neg ht]
    have e2 : doLost L t = (lostS L t).1 := by unfold doLost; rw [if_neg ht]
    have e3 : doErr L x t = (lostS L t).2 := by unfold doErr; rw [if_neg ht]
    have e4 : doLeft L x t = chgS L t := by unfold doLeft; rw [if_neg ht]
    rw [e4] at hnn
    rw [e1, e2, e3, e4]
    have h0 : ofS ([] : List MeanT) u = 0 := rfl
    rcases has_name h t with ⟨hz, _⟩ | ⟨i, hi, hne, hof, hpos⟩
    · have el : lostS L t = (0, 11) := by unfold lostS; rw [if_pos hz]
      have ec : chgS L t = L := by unfold chgS; rw [if_pos hz]
      rw [el, ec]
      rw [ec] at hnn
      exact ⟨by rw [if_neg (fun h => absurd h.1 (by decide))]; omega, by omega, hnn, by decide, by decide, fun e => absurd e (by decide), fun _ => ⟨rfl, rfl⟩⟩
    · have el : lostS L t = (am L i, 0) := by unfold lostS; rw [if_neg (by omega), hof]
      have ec : chgS L t = takeS L [(nm L i, am L i)] := by unfold chgS; rw [if_neg (by omega), hof, hne]
      have hle := h.le i hi
      have ht := take_ofU h (one_partOf h i hi) u
      rw [el, ec]
      rw [ec] at hnn
      have e5 : ofS [(nm L i, am L i)] u = if nm L i = u then am L i else 0 := rfl
      rw [e5] at ht
      by_cases htu : t = u
      · have : nm L i = u := by rw [hne, htu]
        rw [if_pos this] at ht
        have hu2 : ofS L u = am L i := by rw [← htu, hof]
        exact ⟨by rw [if_pos ⟨rfl, htu⟩]; show _ = _ + 0 + am L i; omega, by omega, hnn, by show 0 ≤ am L i; omega, by show am L i ≤ _; omega, fun _ _ => by omega, fun h => absurd rfl h⟩
      · have : nm L i ≠ u := by rw [hne]; exact htu
        rw [if_neg this] at ht
        exact ⟨by rw [if_neg (fun h => htu h.2)]; omega, by omega, hnn, by show 0 ≤ am L i; omega, by show am L i ≤ _; omega, fun _ e => absurd e htu, fun h => absurd rfl h⟩

/-- The sums and the marks while the means are gone through: those before k are of what is left now. -/
structure SumInv (l L L' : List MeanT) (k : Nat) (S : List Int) (C : List Bool) : Prop where
  slen : S.length = l.length
  clen : C.length = l.length
  sum : ∀ q, q < l.length → ix S q = am l q - ofS (if q < k then L' else L) (nm l q)
  mark : ∀ q, q < l.length → bx C q = true → ofS (if q < k then L' else L) (nm l q) = 0

theorem SumInv.start {l L L' : List MeanT} {S : List Int} {C : List Bool} (h : SumInv l L L' 0 S C) : SumInv l L L 0 S C := by
  refine ⟨h.slen, h.clen, fun q hq => ?_, fun q hq hc => ?_⟩
  · have := h.sum q hq; rw [if_neg (by omega)] at this ⊢; exact this
  · have := h.mark q hq hc; rw [if_neg (by omega)] at this ⊢; exact this

theorem SumInv.begin {l L L2 L' : List MeanT} {S : List Int} {C : List Bool} (h : SumInv l L L2 0 S C) : SumInv l L L' 0 S C :=
  ⟨h.slen, h.clen, fun q hq => by have := h.sum q hq; rw [if_neg (by omega)] at this ⊢; exact this, fun q hq hc => by have := h.mark q hq hc; rw [if_neg (by omega)] at this ⊢; exact this⟩

theorem SumInv.finish {l L L' L2 : List MeanT} {S : List Int} {C : List Bool} {n : Nat} (hn : n = l.length) (h : SumInv l L L' n S C) : SumInv l L' L2 0 S C :=
  ⟨h.slen, h.clen, fun q hq => by have := h.sum q hq; rw [if_pos (by omega)] at this; rw [if_neg (by omega)]; exact this, fun q hq hc => by have := h.mark q hq hc; rw [if_pos (by omega)] at this; rw [if_neg (by omega)]; exact this⟩

theorem SumInv.at {l L L' : List MeanT} {k : Nat} {S : List Int} {C : List Bool} (h : SumInv l L L' k S C) (hk : k < l.length) : ix S k = am l k - ofS L (nm l k) ∧ (bx C k = true → ofS L (nm l k) = 0) := by
  have h1 := h.sum k hk
  have h2 := h.mark k hk
  rw [if_neg (by omega)] at h1
  rw [if_neg (by omega)] at h2
  exact ⟨h1, h2⟩

theorem SumInv.next {l L L' : List MeanT} {k : Nat} {S : List Int} {C : List Bool} (h : SumInv l L L' k S C) (hk : k < l.length) {v : Int} (hv : v = am l k - ofS L' (nm l k)) (hc : bx C k = true → ofS L' (nm l k) = 0) : SumInv l L L' (k + 1) (S.set k v) C := by
  refine ⟨by rw [List.length_set]; exact h.slen, h.clen, fun q hq => ?_, fun q hq hb => ?_⟩
  · rw [ix_set _ _ _ _ (by rw [h.slen]; exact hk)]
    by_cases e : k = q
    · subst e
      rw [if_pos rfl, if_pos (by omega)]
      exact hv
    · rw [if_neg e, h.sum q hq]
      by_cases e2 : q < k
      · rw [if_pos e2, if_pos (by omega)]
      · rw [if_neg e2, if_neg (by omega)]
  · by_cases e : k = q
    · subst e
      rw [if_pos (by omega)]
      exact hc hb
    · have := h.mark q hq hb
      by_cases e2 : q < k
      · rw [if_pos e2] at this; rw [if_pos (by omega)]; exact this
      · rw [if_neg e2] at this; rw [if_neg (by omega)]; exact this

theorem SumInv.put {l L L' : List MeanT} {k : Nat} {S : List Int} {C : List Bool} (h : SumInv l L L' (k + 1) S C) (hk : k < l.length) (h0 : ofS L' (nm l k) = 0) : SumInv l L L' (k + 1) S (C.set k true) := by
  refine ⟨h.slen, by rw [List.length_set]; exact h.clen, h.sum, fun q hq hb => ?_⟩
  rw [bx_set _ _ _ _ (by rw [h.clen]; exact hk)] at hb
  by_cases e : k = q
  · subst e
    rw [if_pos (by omega)]
    exact h0
  · rw [if_neg e] at hb
    exact h.mark q hq hb

theorem sum_first (l L' : List MeanT) (h : Good l) : SumInv l l L' 0 (List.replicate l.length 0) (List.replicate l.length false) :=
  ⟨by simp, by simp, fun q hq => by
    rw [if_neg (by omega), of_at h.diff q hq]
    simp [ix, List.getD_eq_getElem?_getD, hq], fun q hq hb => by
    simp [bx, List.getD_eq_getElem?_getD, hq] at hb⟩

/-- Paying back all that is left. -/
theorem back_whole {L : List MeanT} (h : Good L) : mpartS L (totS L) = (L, 0) := by
  unfold mpartS
  rw [if_neg (by have := h.sum; omega), if_neg (by omega)]
  split
  · rename_i e; rw [e]
  · rename_i hne; rw [part_whole h hne]

theorem take_whole {L : List MeanT} (h : Good L) : takeS L L = [] := by
  refine some_none _ _ fun p hp => ?_
  obtain ⟨m, hm, rfl⟩ := List.mem_map.mp hp
  obtain ⟨i, hi, rfl⟩ := List.getElem_of_mem hm
  rw [← nm_eq _ _ hi, of_at h.diff i hi, am_eq _ _ hi]
  omega

theorem left_whole {L : List MeanT} (h : Good L) : backS L (totS L) = [] := by
  rw [back_ok (by rw [back_whole h]), back_whole h]
  exact take_whole h
end Go.Proofs.YtgpmhaeiccljaaaDoor
