/- foyerref23: plain: what the reference's search finds, and how its prove gets at the rooms. -/
import Derived.Test.YthabgljdndbphaaGreatDoorQPKM21
import Derived.Test.YthabgljdndbphaaGreatDoorQPKM39
import Derived.Test.YthabgljdndbphaaGreatDoorQPKM42

set_option linter.unusedVariables false
set_option linter.unusedSimpArgs false
namespace Go.Proofs.YthabgljdndbphaaGreatDoor
set_option linter.unusedSimpArgs false
set_option linter.unusedVariables false

/-- What search returns. -/
def outL (C : List Int) : Option (List Int) → List Int
 | some c => C ++ c
 | none => []
theorem outL_snoc (C : List Int) (x : Int) (o : Option (List Int)) : outL (C ++ [x]) o = outL C (o.map fun c => x :: c) := by
 cases o with
 | none => rfl
 | some c => simp [outL]
section
variable {single : Bool} {R : List Int} {G : List (Int × Int)} {C : List Int} {L : List (Int × Bool)} {x : Int} {r : Nat}
theorem ix_snoc_lt {i : Nat} (h : i < C.length) : ix (C ++ [x]) i = ix C i := by
 unfold ix
 simp [List.getD_eq_getElem?_getD, List.getElem?_append_left h]
theorem ix_snoc_at : ix (C ++ [x]) C.length = x := by
 unfold ix
 simp [List.getD_eq_getElem?_getD]
theorem upd_snoc (C : List Int) (x : Int) : ∀ i, i < C.length + 1 → ix (C ++ [x]) i = updC (ix C) C.length x i := fun i hi => by
 by_cases e : i = C.length
 ·
  subst e; rw [updC_at, ix_snoc_at]
 ·
  rw [updC_lt _ _ _ (by omega), ix_snoc_lt (by omega)]
theorem at_sit_snoc (h : At R G (ix C) C.length L) (hr : r < R.length) : At R G (ix (C ++ [(r : Int)])) (C.length + 1) (sitF L r (gs G C.length)) := (h.sit hr).congr (upd_snoc C r)
theorem at_out_snoc (h : At R G (ix C) C.length L) : At R G (ix (C ++ [-1])) (C.length + 1) L := h.out.congr (upd_snoc C (-1))
theorem val_sit_snoc : valS G (dec (ix (C ++ [(r : Int)])) (C.length + 1)) = valS G (dec (ix C) C.length) + gs G C.length * gv G C.length := by
 rw [dec_congr _ _ _ (upd_snoc C r), val_sit]
theorem val_out_snoc : valS G (dec (ix (C ++ [-1])) (C.length + 1)) = valS G (dec (ix C) C.length) := by
 rw [dec_congr _ _ _ (upd_snoc C (-1)), val_out]
theorem room_high {c : Nat → Int} {g : Nat} (hv : validS R G = true) (h : At R G c g L) (hg : g ≤ G.length) (hr : r < R.length) (hrl : r < L.length) : L[r].1 ≤ 4000 := by
 rw [← h.room hrl, room_takes R G c r g (fun i hi => (h.runs i hi).2)]
 have h1 := (runsOk_sum R 4000 (by omega) (validS_parts hv).1).2.2 r hr
 have h2 := takes_nonneg (validS_parts hv).2.2 c r g hg
 omega
theorem search_leaf (hv : validS R G = true) (hat : At R G (ix C) G.length L) (hn : ∀ x ∈ L, 0 ≤ x.1) :
  LegalR single R G (seatAll G (ix C)) (valS G (dec (ix C) G.length)) ↔ ¬ (single = true ∧ ∃ r ∈ L, r.2 = true ∧ r.1 = 1) := by
 have hl := hat.len
 rw [← legalR_iff]
 constructor
 ·
  rintro h ⟨hs, y, hy, h1, h2⟩
  obtain ⟨q, hq, rfl⟩ := List.mem_iff_getElem.1 hy
  have hc := choice_of_legal h
  have hg : ∀ i, i < G.length → gs (seatAll G (ix C)) i = ix C i := fun i hi => (seat_at G (ix C) i hi).1
  have hd : dec (gs (seatAll G (ix C))) G.length = dec (ix C) G.length := dec_congr _ _ _ hg
  obtain ⟨p, hp, e⟩ := (hat.use hq).1 h1
  obtain ⟨i, hi, rfl⟩ := (mem_dec _ _ _).1 hp
  refine hc.one hs q (by omega) ⟨i, hi, by rw [hg i hi]; exact e⟩ ?_
  rw [hd, hat.room hq]
  exact h2
 ·
  intro hno
  refine choice_legal hv ⟨hat.runs, fun r hr => ?_, fun hs r hr ⟨i, hi, e⟩ h1 => ?_⟩
  ·
   rw [hat.room (by omega)]
   exact hn _ (List.getElem_mem _)
  ·
   have hrl : r < L.length := by omega
   rw [hat.room hrl] at h1
   exact hno ⟨hs, L[r], List.getElem_mem _, (hat.use hrl).2 ⟨((i : Int), ix C i), (mem_dec _ _ _).2 ⟨i, hi, rfl⟩, e⟩, h1⟩
end
section
variable {single : Bool} {G : List (Int × Int)} {L : List (Int × Bool)} {X s b : Int} {go : List (Int × Bool) → Int → Option (List Int)} {r n : Nat}
theorem srchL_skip (h : (L.getD r (0, false)).1 < s) : srchL go s b L X r (n + 1) = srchL go s b L X (r + 1) n := by rw [srchL, if_pos h]
theorem srchL_some {c : List Int} (h : ¬ (L.getD r (0, false)).1 < s) (e : go (sitF L r s) (X - b) = some c) : srchL go s b L X r (n + 1) = some ((r : Int) :: c) := by rw [srchL, if_neg h, e]
theorem srchL_none (h : ¬ (L.getD r (0, false)).1 < s) (e : go (sitF L r s) (X - b) = none) : srchL go s b L X r (n + 1) = srchL go s b L X (r + 1) n := by rw [srchL, if_neg h, e]
theorem srchL_end : srchL go s b L X r 0 = (go L X).map fun c => -1 :: c := rfl
end
theorem sol_picks (single : Bool) (R : List Int) (G : List (Int × Int)) : ∀ (k g : Nat) (L : List (Int × Bool)) (left : Int), (solF single R G k g L left).map (·.1) = pickF single G k g L left
 | 0, _, _, _ => rfl
 | k + 1, g, L, left => by
  rw [solF, pickF]
  cases (List.range L.length).find? (pickAt single G k g L left) with
  | some i => dsimp only; rw [List.map_cons, sol_picks]
  | none => dsimp only; rw [List.map_cons, sol_picks]
/-- The search finds the solution's choices. -/
theorem search_sol {single : Bool} {R : List Int} {G : List (Int × Int)} (hv : validS R G = true) : ∃ P : List Int, srchF single G G.length 0 (R.map run0) (packF single G G.length 0 (R.map run0)) = some P ∧ P.length = G.length ∧ (∀ i, i < G.length → -1 ≤ ix P i ∧ ix P i < R.length) ∧
  seatAll G (ix P) = solF single R G G.length 0 (R.map run0) (packF single G G.length 0 (R.map run0)) ∧ valS G (dec (ix P) G.length) = packF single G G.length 0 (R.map run0) := by
 have hp := (validS_parts hv).2.2
 have hb : ∀ g, 0 ≤ gs G g * gv G g := fun g => by
  by_cases h : g < G.length
  ·
   have := hp g h
   exact Int.mul_nonneg (by omega) (by omega)
  ·
   unfold gs gv
   simp [List.getD_eq_getElem?_getD, List.getElem?_eq_none (show G.length ≤ g by omega)]
 obtain ⟨c, h1, h2, h3, -⟩ := sol_first (single := single) hv
 have hs := srch_eq single G hb G.length 0 (R.map run0) (packF single G G.length 0 (R.map run0)) (fun _ => Int.le_refl _)
 rw [if_pos ⟨packF_start _ _, rfl⟩] at hs
 have hpk := sol_picks single R G G.length 0 (R.map run0) (packF single G G.length 0 (R.map run0))
 generalize hP : pickF single G G.length 0 (R.map run0) (packF single G G.length 0 (R.map run0)) = P at *
 rw [h3] at hpk
 have hlen : P.length = G.length := by rw [← hpk]; unfold seatAll; simp
 have hix : ∀ i, i < G.length → ix P i = c i := fun i hi => by
  rw [← hpk]
  unfold seatAll ix
  simp [hi]
 have hd : dec (ix P) G.length = dec c G.length := dec_congr _ _ _ hix
 refine ⟨P, hs, hlen, fun i hi => by rw [hix i hi]; exact h1.runs i hi, ?_, by rw [hd, h2]⟩
 rw [h3]
 unfold seatAll
 refine List.map_congr_left fun k hk => ?_
 have hkl := List.mem_range.1 hk
 rw [hix k hkl]
 have e : takes G (ix P) (c k) k = takes G c (c k) k := sumRows_congr _ _ _ fun j hj => by rw [hix j (by omega)]
 rw [e]

/-! ### The runs as prove gets at them -/
/-- The runs behind the first choices. -/
def stL (R : List Int) (G : List (Int × Int)) (c : Nat → Int) : Nat → List (Int × Bool)
 | 0 => R.map run0
 | i + 1 => if c i < 0 then stL R G c i else sitF (stL R G c i) (c i).toNat (gs G i)
section
variable {R : List Int} {G : List (Int × Int)} {c d : Nat → Int} {C : List Int} {g r : Nat}
theorem stL_len : ∀ g, (stL R G c g).length = R.length
 | 0 => by simp [stL]
 | g + 1 => by
  rw [stL]
  split
  ·
   exact stL_len g
  ·
   rw [sit_len]; exact stL_len g
theorem stL_congr : ∀ g, (∀ i, i < g → c i = d i) → stL R G c g = stL R G d g
 | 0, _ => rfl
 | g + 1, h => by rw [stL, stL, h g (by omega), stL_congr g fun i hi => h i (by omega)]
theorem stL_sit : stL R G (ix (C ++ [(r : Int)])) (C.length + 1) = sitF (stL R G (ix C) C.length) r (gs G C.length) := by
 rw [stL, ix_snoc_at, if_neg (by omega), Int.toNat_natCast, stL_congr _ fun i hi => ix_snoc_lt hi]
theorem stL_out : stL R G (ix (C ++ [-1])) (C.length + 1) = stL R G (ix C) C.length := by
 rw [stL, ix_snoc_at, if_pos (by omega), stL_congr _ fun i hi => ix_snoc_lt hi]
theorem stL_next {i q : Nat} (h : c i = (q : Int)) : stL R G c (i + 1) = sitF (stL R G c i) q (gs G i) := by
 rw [stL, h, if_neg (by omega), Int.toNat_natCast]
theorem stL_none {i : Nat} (h : c i < 0) : stL R G c (i + 1) = stL R G c i := by
 rw [stL, if_pos h]
theorem stL_low (hv : ValuesOk G) (hR : ∀ x ∈ R, 1 ≤ x ∧ x ≤ 4000) : ∀ g, g ≤ G.length → ∀ x ∈ stL R G c g, -12 * (g : Int) ≤ x.1 ∧ x.1 ≤ 4000
 | 0, _, x, hx => by
  obtain ⟨y, hy, rfl⟩ := List.mem_map.1 hx
  have := hR y hy
  show -12 * ((0 : Nat) : Int) ≤ y ∧ y ≤ 4000
  omega
 | g + 1, hg, x, hx => by
  have ih := stL_low hv hR g (by omega)
  have hgv := hv g (by omega)
  rw [stL] at hx
  split at hx
  ·
   have := ih x hx
   omega
  ·
   unfold sitF at hx
   rcases List.mem_or_eq_of_mem_set hx with h | h
   ·
    have := ih x h
    omega
   ·
    subst h
    by_cases hq : (c g).toNat < (stL R G c g).length
    ·
     have := ih _ (List.getElem_mem hq)
     simp [hq]
     omega
    ·
     simp [List.getD_eq_getElem?_getD, List.getElem?_eq_none (Nat.le_of_not_lt hq)]
     omega
theorem stL_sum (hv : ValuesOk G) : ∀ g, g ≤ G.length → (∀ i, i < g → c i < R.length) → sumL (stL R G c g) ≤ R.sum
 | 0, _, _ => by
  show sumL (R.map run0) ≤ _
  unfold sumL
  rw [List.map_map]
  show (R.map fun x => x).sum ≤ _
  simp
 | g + 1, hg, h => by
  have ih := stL_sum hv g (by omega) fun i hi => h i (by omega)
  have hgv := hv g (by omega)
  have hc := h g (by omega)
  rw [stL]
  split
  ·
   exact ih
  ·
   rw [sum_sit _ _ _ (by rw [stL_len]; omega)]
   omega
end
/-- The first run with somebody and a rest of one, from i on; no: where there is none. -/
def oneD (L : List (Int × Bool)) (no : Int) (i : Nat) : Int := match (L.drop i).findIdx? oneP with
 | some j => ((i + j : Nat) : Int)
 | none => no
theorem oneD_end (L : List (Int × Bool)) (no : Int) : oneD L no L.length = no := by
 unfold oneD
 rw [List.drop_length]
 rfl
theorem oneD_step {L : List (Int × Bool)} {no : Int} {i : Nat} (h : i < L.length) : oneD L no i = if oneP L[i] = true then (i : Int) else oneD L no (i + 1) := by
 unfold oneD
 rw [List.drop_eq_getElem_cons h, List.findIdx?_cons]
 by_cases e : oneP L[i] = true
 ·
  rw [e, if_pos rfl, if_pos rfl]
  rfl
 ·
  rw [if_neg e, if_neg e]
  cases (L.drop (i + 1)).findIdx? oneP with
  | none => rfl
  | some j => simp only [Option.map_some]; omega
theorem oneD_idx {L : List (Int × Bool)} {no : Int} (h : L.any oneP = true) : oneD L no 0 = idxS oneP L := by
 unfold oneD idxS
 have hlt : L.findIdx oneP < L.length := List.findIdx_lt_length.2 (List.any_eq_true.1 h)
 rw [List.drop_zero, if_pos hlt, List.findIdx?_eq_some_of_exists (by
  obtain ⟨x, hx, e⟩ := List.any_eq_true.1 h
  exact ⟨x, hx, e⟩)]
 simp
/-- What can still be had is not too much. -/
def MostP (single : Bool) (G : List (Int × Int)) (val : Int) (k g : Nat) (L : List (Int × Bool)) (gain : Int) : Prop := (∀ x ∈ L, 0 ≤ x.1) → 0 ≤ packF single G k g L → gain + packF single G k g L ≤ val
section
variable {single : Bool} {G : List (Int × Int)} {val gain : Int} {k g : Nat} {L : List (Int × Bool)}
theorem MostP.sit (h : MostP single G val (k + 1) g L gain) (h0 : 0 ≤ gs G g ∧ 0 ≤ gs G g * gv G g) (hn : L.findIdx? negP = none) {r : Nat} (hr : r < L.length) : MostP single G val k (g + 1) (sitF L r (gs G g)) (gain + gs G g * gv G g) := fun h1 h2 => by
 obtain ⟨h3, _⟩ := sit_nonneg hr h0.1 h1
 have h4 := (packF_spec single G k g L).2.1 r hr h3 h2
 have := h (no_neg hn) (by omega)
 omega
theorem MostP.out (h : MostP single G val (k + 1) g L gain) : MostP single G val k (g + 1) L gain := fun h1 h2 => by
 have h4 := (packF_spec single G k g L).1
 have := h h1 (by omega)
 omega
theorem MostP.leaf (h : MostP single G val 0 G.length L gain) (hv : ValuesOk G) (hm : G.length ≤ 4000) (hs : sumL L ≤ 4000) (hn : L.findIdx? negP = none) (hb : ¬ gain + restB G G.length L ≤ val) : L.any oneP = true := by
 have hz : restB G G.length L = 0 := by
  rw [restB_eq hv hm (left_sum L (no_neg hn)).2 hs]
  have : rankedL (G.drop G.length) = [] := by
   rw [List.drop_length]
   exact List.eq_nil_of_length_eq_zero (by rw [(rankedL_ok []).1.length_eq]; rfl)
  rw [this]
  rfl
 have h0 := h (no_neg hn)
 rw [packF_zero] at h0
 by_cases h1 : single = true ∧ ∃ r ∈ L, r.2 = true ∧ r.1 = 1
 ·
  obtain ⟨-, x, hx, e1, e2⟩ := h1
  exact List.any_eq_true.2 ⟨x, hx, by unfold oneP; rw [e1, decide_eq_true e2]; rfl⟩
 ·
  rw [if_neg h1] at h0
  have := h0 (by omega)
  omega
end
end Go.Proofs.YthabgljdndbphaaGreatDoor
