/- hall: the reference: plain: what is reached in rounds; the first of a name. -/
import Derived.Test.YtmcdhggnpfhlmaaGreatQHMR05

set_option linter.unusedVariables false
set_option linter.unusedSimpArgs false
namespace Go.Proofs.YtmcdhggnpfhlmaaGreat
open Go.RowKit Go.IntWalk
set_option linter.unusedSimpArgs false
set_option linter.unusedVariables false

/-! ### Reached in rounds -/
theorem cntF_le (D : List Bool) : cntF D ≤ D.length := List.length_filter_le ..
theorem cntF_zero {D : List Bool} (h : cntF D = 0) {j : Nat} (hj : j < D.length) : bx D j = true := by
 unfold cntF at h
 have h1 := List.filter_eq_nil_iff.1 (List.length_eq_zero_iff.1 h) D[j] (List.getElem_mem hj)
 unfold bx
 simpa [hj] using h1
theorem set_bx {D : List Bool} {i : Nat} (hi : i < D.length) : D.set i (bx D i) = D := by
 apply List.ext_getElem
 ·
  simp
 ·
  intro k h1 h2
  rw [List.getElem_set]
  split
  ·
   rename_i e
   subst e
   unfold bx
   simp [hi]
  ·
   rfl
theorem bx_same {D : List Bool} {b : Bool} {i j : Nat} (hi : i < D.length) : bx (D.set i b) j = if i = j then b else bx D j := bx_set _ _ _ _ hi

/-- What one cell of a round becomes. -/
def rndB (A : List BoxR) (D : List Bool) (i k : Nat) : Bool := bx D i || (bx D k && match A[i]?, A[k]? with | some a, some b => meetB a b | _, _ => false)
structure RndI (A : List BoxR) (P : List PntR) (D0 D : List Bool) (i k : Nat) : Prop where
 len : D.length = A.length
 snd : SndR A P D
 sup : ∀ j, bx D0 j = true → bx D j = true
 prg : cntF D < cntF D0 ∨ (D = D0 ∧ ∀ i' k' (hi : i' < A.length) (hk : k' < A.length), (i' < i ∨ i' = i ∧ k' < k) → bx D0 k' = true → meetB A[i'] A[k'] = true → bx D0 i' = true)
theorem rnd_start {A : List BoxR} {P : List PntR} {D : List Bool} (hl : D.length = A.length) (hs : SndR A P D) : RndI A P D D 0 0 :=
 ⟨hl, hs, fun _ h => h, Or.inr ⟨rfl, fun i' k' _ _ h => by omega⟩⟩
theorem rnd_row {A : List BoxR} {P : List PntR} {D0 D : List Bool} {i : Nat} (h : RndI A P D0 D i A.length) : RndI A P D0 D (i + 1) 0 :=
 ⟨h.len, h.snd, h.sup, h.prg.imp id fun ⟨e, q⟩ => ⟨e, fun i' k' hi hk hlt => q i' k' hi hk (by omega)⟩⟩
theorem meetB_comm (a b : BoxR) : meetB a b = meetB b a := by
 unfold meetB
 rw [Int.max_comm a.x, Int.min_comm a.x2, Int.max_comm a.y, Int.min_comm a.y2]
theorem rnd_step {A : List BoxR} {P : List PntR} {D0 D : List Bool} {i k : Nat} (h : RndI A P D0 D i k) (hi : i < A.length) (hk : k < A.length) : RndI A P D0 (D.set i (rndB A D i k)) i (k + 1) := by
 have hid : i < D.length := by rw [h.len]; exact hi
 have hb : rndB A D i k = (bx D i || (bx D k && meetB A[i] A[k])) := by
  unfold rndB
  rw [List.getElem?_eq_getElem hi, List.getElem?_eq_getElem hk]
 by_cases hbi : bx D i = true
 ·
  have e : D.set i (rndB A D i k) = D := by
   rw [hb, hbi, Bool.true_or]
   conv => rhs; rw [← set_bx hid, hbi]
  rw [e]
  refine ⟨h.len, h.snd, h.sup, h.prg.imp id fun ⟨e2, q⟩ => ⟨e2, fun i' k' hi' hk' hlt h1 h2 => ?_⟩⟩
  by_cases hh : i' = i ∧ k' = k
  ·
   obtain ⟨rfl, rfl⟩ := hh
   rw [← e2]
   exact hbi
  ·
   exact q i' k' hi' hk' (by omega) h1 h2
 ·
  have hbf : bx D i = false := by simpa using hbi
  by_cases hm : (bx D k && meetB A[i] A[k]) = true
  ·
   have e : rndB A D i k = true := by rw [hb, hm, Bool.or_true]
   rw [e]
   rw [Bool.and_eq_true] at hm
   refine ⟨by rw [List.length_set]; exact h.len, fun j hj => ?_, fun j hj => ?_, Or.inl ?_⟩
   ·
    rw [bx_same hid] at hj
    by_cases hij : i = j
    ·
     subst hij
     exact .step i k hi hk (h.snd k hm.1) (by rw [meetB_comm]; exact hm.2)
    ·
     rw [if_neg hij] at hj
     exact h.snd j hj
   ·
    rw [bx_same hid]
    split
    ·
     rfl
    ·
     exact h.sup j hj
   ·
    have h1 := cnt_set hid hbf
    rcases h.prg with h2 | ⟨e2, _⟩
    ·
     omega
    ·
     rw [← e2]
     exact h1
  ·
   have hmf : (bx D k && meetB A[i] A[k]) = false := by simpa using hm
   have e : D.set i (rndB A D i k) = D := by
    rw [hb, hmf, Bool.or_false]
    exact set_bx hid
   rw [e]
   refine ⟨h.len, h.snd, h.sup, h.prg.imp id fun ⟨e2, q⟩ => ⟨e2, fun i' k' hi' hk' hlt h1 h2 => ?_⟩⟩
   by_cases hh : i' = i ∧ k' = k
   ·
    obtain ⟨rfl, rfl⟩ := hh
    rw [← e2] at h1
    rw [h1, h2] at hmf
    cases hmf
   ·
    exact q i' k' hi' hk' (by omega) h1 h2
/-- Behind r rounds. -/
structure RdO (A : List BoxR) (P : List PntR) (r : Nat) (D : List Bool) : Prop where
 len : D.length = A.length
 snd : SndR A P D
 door : ∀ i (hi : i < A.length), doorB P A[i] = true → bx D i = true
 alt : (∀ j, Rch A P j → bx D j = true) ∨ cntF D + r ≤ A.length
theorem rdo_next {A : List BoxR} {P : List PntR} {r : Nat} {D0 D : List Bool} (h : RdO A P r D0) (hr : RndI A P D0 D A.length 0) : RdO A P (r + 1) D := by
 refine ⟨hr.len, hr.snd, fun i hi hd => hr.sup i (h.door i hi hd), ?_⟩
 rcases h.alt with h1 | h1
 ·
  exact Or.inl fun j hj => hr.sup j (h1 j hj)
 ·
  rcases hr.prg with h2 | ⟨e, q⟩
  ·
   exact Or.inr (by omega)
  ·
   refine Or.inl fun j hj => ?_
   rw [e]
   induction hj with
   | door i hi hd => exact h.door i hi hd
   | step i k hi hk _ hm ih => exact q i k hi hk (Or.inl hi) ih (by rw [meetB_comm]; exact hm)
open Classical in
theorem rdo_end {A : List BoxR} {P : List PntR} {D : List Bool} (h : RdO A P A.length D) : D = reachS A P := by
 have hc : ∀ j, Rch A P j → bx D j = true := by
  rcases h.alt with h1 | h1
  ·
   exact h1
  ·
   intro j hj
   have hjl : j < A.length := by
    cases hj with
    | door _ hi _ => exact hi
    | step _ _ hi _ _ _ => exact hi
   exact cntF_zero (by omega) (by rw [h.len]; exact hjl)
 apply List.ext_getElem
 ·
  rw [h.len]
  simp [reachS]
 ·
  intro j h1 h2
  have hb : D[j] = bx D j := by unfold bx; simp [h1]
  have hs : (reachS A P)[j] = decide (Rch A P j) := by simp [reachS]
  rw [hb, hs]
  by_cases hr : Rch A P j
  ·
   rw [hc j hr]
   simp [hr]
  ·
   have : ¬ bx D j = true := fun e => hr (h.snd j e)
   rw [Bool.eq_false_iff.2 this]
   simp [hr]
/-- The doors: aisle i asked of the first k doors. -/
structure DrI (A : List BoxR) (P : List PntR) (i k : Nat) (D : List Bool) : Prop where
 len : D.length = A.length
 lo : ∀ j (hj : j < A.length), j < i → bx D j = doorB P A[j]
 at' : ∀ (hi : i < A.length), bx D i = doorB (P.take k) A[i]
 hi : ∀ j, i < j → bx D j = false
theorem dr_step {A : List BoxR} {P : List PntR} {i k : Nat} {D : List Bool} (h : DrI A P i k D) (hi : i < A.length) (hk : k < P.length) : DrI A P i (k + 1) (D.set i (bx D i || insideB A[i] P[k].x P[k].y)) := by
 have hid : i < D.length := by rw [h.len]; exact hi
 refine ⟨by rw [List.length_set]; exact h.len, fun j hj hlt => ?_, fun _ => ?_, fun j hj => ?_⟩
 ·
  rw [bx_same hid, if_neg (by omega)]
  exact h.lo j hj hlt
 ·
  rw [bx_same hid, if_pos rfl, h.at' hi]
  unfold doorB
  rw [List.take_succ_eq_append_getElem hk, List.any_append]
  simp
 ·
  rw [bx_same hid, if_neg (by omega)]
  exact h.hi j hj
theorem dr_next {A : List BoxR} {P : List PntR} {i : Nat} {D : List Bool} (h : DrI A P i P.length D) : DrI A P (i + 1) 0 D := by
 refine ⟨h.len, fun j hj hlt => ?_, fun hi => ?_, fun j hj => h.hi j (by omega)⟩
 ·
  by_cases e : j = i
  ·
   subst e
   have := h.at' hj
   rwa [List.take_length] at this
  ·
   exact h.lo j hj (by omega)
 ·
  rw [h.hi (i + 1) (by omega)]
  rfl
theorem dr_end {A : List BoxR} {P : List PntR} {D : List Bool} (h : DrI A P A.length 0 D) : RdO A P 0 D := by
 refine ⟨h.len, fun j hj => ?_, fun i hi hd => by rw [h.lo i hi hi]; exact hd, Or.inr (by rw [← h.len]; exact cntF_le D)⟩
 by_cases hjl : j < A.length
 ·
  exact .door j hjl (by rw [← h.lo j hjl hjl]; exact hj)
 ·
  unfold bx at hj
  have : D.length ≤ j := by rw [h.len]; omega
  simp [this] at hj

/-! ### The first of a name -/
theorem first_at {α : Type} {xs : List α} {p : α → Bool} {i : Nat} (hi : i < xs.length) (h : p xs[i] = true) (hn : ∀ j (hj : j < xs.length), j < i → p xs[j] = false) : xs.findIdx p = i := by
 rw [List.findIdx_eq hi]
 exact ⟨h, fun j hj => by simpa using hn j (by omega) hj⟩
theorem first_none {α : Type} {xs : List α} {p : α → Bool} {n : Nat} (hl : n ≤ xs.length) (hn : ∀ j (hj : j < xs.length), j < n → p xs[j] = false) : n ≤ xs.findIdx p := by
 rcases Nat.lt_or_ge (xs.findIdx p) n with h | h
 ·
  have h1 : xs.findIdx p < xs.length := by omega
  have h2 := List.findIdx_getElem (w := h1)
  rw [hn _ h1 h] at h2
  cases h2
 ·
  exact h
end Go.Proofs.YtmcdhggnpfhlmaaGreat
