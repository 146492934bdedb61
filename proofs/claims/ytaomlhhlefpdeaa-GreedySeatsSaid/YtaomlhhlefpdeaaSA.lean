/- Greedy's packing, plain: the first group of each order sits if it fits alone; all sit if all fit into the first run. -/
import Derived.Test.YtaomlhhlefpdeaaZ1
namespace Go.Proofs.Ytaomlhhlefpdeaa
open Go.RowKit

/-- A group of this size fits into some run alone. -/
def Alone (single : Bool) (R : List Int) (s : Int) : Prop := ∃ r : Nat, r < R.length ∧ fits single (ix R r - s) = true

theorem firstAt_none (p : Nat → Bool) (n : Nat) : ∀ k, firstAt p k n = -1 → ∀ j, k ≤ j → j < k + n → p j = false := by
  induction n with
  | zero => intro k _ j h1 h2; omega
  | succ n ih =>
    intro k h j h1 h2
    rw [firstAt] at h
    cases hp : p k
    · rw [hp] at h
      by_cases e : j = k
      · rw [e]; exact hp
      · exact ih (k + 1) (by simpa using h) j (by omega) (by omega)
    · rw [hp] at h; simp at h

theorem better_ge (a b : PackSt) : a.value ≤ (better a b).value ∧ b.value ≤ (better a b).value := by
  unfold better; split <;> omega

theorem fold_mono (single : Bool) (R : List Int) (G : List (Int × Int)) (hv : ∀ k, k < G.length → 0 ≤ gs G k * gv G k) : ∀ (O : List Int) (st : PackSt), (∀ x ∈ O, x.toNat < G.length) → st.value ≤ (O.foldl (seatStep single R G) st).value := by
  intro O
  induction O with
  | nil => intro st _; exact Int.le_refl _
  | cons x O ih =>
    intro st h
    have hx := hv _ (h x (by simp))
    have hs : st.value ≤ (seatStep single R G st x).value := by
      unfold seatStep; split <;> dsimp only <;> omega
    have := ih (seatStep single R G st x) (fun y hy => h y (by simp [hy]))
    rw [List.foldl_cons]
    omega

theorem worth_nonneg {R : List Int} {G : List (Int × Int)} (hv : validS R G = true) : ∀ k, k < G.length → 0 ≤ gs G k * gv G k := fun k hk => by
  have h := (validS_parts hv).2.2 k hk
  exact Int.mul_nonneg (by omega) (by omega)

theorem first_sits {single : Bool} {R : List Int} {G : List (Int × Int)} (hv : validS R G = true) (x : Int) (O : List Int) (hO : ∀ y ∈ x :: O, y.toNat < G.length) (ha : Alone single R (gs G x.toNat)) :
    gs G x.toNat * gv G x.toNat ≤ (seatS single R G (x :: O)).value := by
  obtain ⟨r, hr, hf⟩ := ha
  unfold seatS
  rw [List.foldl_cons]
  refine Int.le_trans ?_ (fold_mono single R G (worth_nonneg hv) O _ (fun y hy => hO y (by simp [hy])))
  have h0 : 0 ≤ firstFit single R (gs G x.toNat) R.length := by
    rcases firstAt_cases (fun k => fits single (ix R k - gs G x.toNat)) R.length 0 with e | ⟨j, _, hj, e, _⟩
    · have := firstAt_none _ _ _ e r (Nat.zero_le _) (by omega)
      rw [hf] at this; simp at this
    · unfold firstFit; rw [e]; omega
  unfold seatStep
  dsimp only
  rw [if_pos h0]
  dsimp only
  omega

theorem solve_first {single : Bool} {R : List Int} {G : List (Int × Int)} (hv : validS R G = true) (hm : 0 < G.length) (ha : Alone single R (gs G 0)) : gs G 0 * gv G 0 ≤ (solveS single R G).value := by
  unfold solveS
  refine Int.le_trans ?_ (better_ge _ _).1
  obtain ⟨m, hm2⟩ : ∃ m, G.length = m + 1 := ⟨G.length - 1, by omega⟩
  have e : idx G.length = (0 : Int) :: (idx G.length).tail := by
    rw [hm2]; unfold idx; rw [List.range_succ_eq_map]; simp
  have hin : ∀ y ∈ idx G.length, y.toNat < G.length := fun y hy => by have := (mem_idx _ _).mp hy; omega
  rw [e] at hin ⊢
  exact first_sits (x := 0) hv _ hin ha

theorem solve_best {single : Bool} {R : List Int} {G : List (Int × Int)} (hv : validS R G = true) (b : Nat) (hb : b < G.length) (h1 : ∀ k, k < G.length → gv G k ≤ gv G b) (h2 : ∀ k, k < b → gv G k < gv G b)
    (ha : Alone single R (gs G b)) : gs G b * gv G b ≤ (solveS single R G).value := by
  unfold solveS
  refine Int.le_trans ?_ (better_ge _ _).2
  have hR := rankedL_ok G
  have hin : ∀ y ∈ rankedL G, 0 ≤ y ∧ y < G.length := fun y hy => (mem_idx _ _).mp (hR.1.mem_iff.mp hy)
  have hbm : (b : Int) ∈ rankedL G := hR.1.mem_iff.mpr ((mem_idx _ _).mpr ⟨by omega, by omega⟩)
  have ho := hR.2
  cases hL : rankedL G with
  | nil => rw [hL] at hbm; simp at hbm
  | cons x O =>
    rw [hL] at hbm hin ho
    have hx := hin x (by simp)
    have e : x = (b : Int) := by
      rcases List.mem_cons.mp hbm with e | hbO
      · exact e.symm
      · have := (List.pairwise_cons.mp ho).1 _ hbO
        unfold byValue at this
        rw [Int.toNat_natCast] at this
        have a1 := h1 x.toNat (by omega)
        rcases this with c | ⟨c, d⟩
        · omega
        · have := h2 x.toNat (by omega); omega
    subst e
    exact first_sits (x := (b : Int)) hv _ (fun y hy => by have := hin y hy; omega) (by rw [Int.toNat_natCast]; exact ha)

theorem fold_all (R : List Int) (G : List (Int × Int)) (hR : 0 < R.length) : ∀ (O : List Int) (st : PackSt), 0 < st.left.length → (∀ x ∈ O, 1 ≤ gs G x.toNat) → amt (fun x => gs G x.toNat) O ≤ ix st.left 0 →
    (O.foldl (seatStep false R G) st).value = st.value + amtV G (fun x => gs G x.toNat) O := by
  intro O
  induction O with
  | nil => intro st _ _ _; simp [amtV]
  | cons x O ih =>
    intro st hl hs hle
    rw [amt] at hle
    have hx := hs x (by simp)
    have hn := amt_nonneg (fun x => gs G x.toNat) O (fun y hy => by have := hs y (by simp [hy]); show 0 ≤ gs G y.toNat; omega)
    have e : firstFit false st.left (gs G x.toNat) R.length = 0 := by
      unfold firstFit
      obtain ⟨n, hn2⟩ : ∃ n, R.length = n + 1 := ⟨R.length - 1, by omega⟩
      rw [hn2, firstAt]
      have : fits false (ix st.left 0 - gs G x.toNat) = true := by unfold fits; simp; omega
      rw [this]; rfl
    rw [List.foldl_cons, amtV]
    have es : seatStep false R G st x = ⟨st.left.set 0 (ix st.left 0 - gs G x.toNat), st.spots.set x.toNat (0, ix R 0 - ix st.left 0), st.value + gs G x.toNat * gv G x.toNat⟩ := by
      unfold seatStep
      rw [e, if_pos (by omega)]
      rfl
    rw [es]
    rw [ih _ (by simpa using hl) (fun y hy => hs y (by simp [hy])) ?_]
    · dsimp only; omega
    · dsimp only
      rw [ix_set _ _ _ _ hl, if_pos rfl]; omega

theorem amt_idx (a : Int → Int) : ∀ n, amt a (idx n) = sumRows (fun k => a (k : Int)) n := by
  intro n
  induction n with
  | zero => rfl
  | succ n ih => rw [idx_succ, amt_append, ih, sumRows, amt, amt]; omega

theorem amtV_idx (G : List (Int × Int)) (a : Int → Int) : ∀ n, amtV G a (idx n) = sumRows (fun k => a (k : Int) * gv G k) n := by
  intro n
  induction n with
  | zero => rfl
  | succ n ih => rw [idx_succ, amtV_append, ih, sumRows, amtV, amtV, Int.toNat_natCast]; omega

theorem solve_all {R : List Int} {G : List (Int × Int)} (hv : validS R G = true) (hR : 0 < R.length) (hs : sumRows (gs G) G.length ≤ ix R 0) : (solveS false R G).value = sumRows (fun k => gs G k * gv G k) G.length := by
  have key : ∀ O : List Int, O.Perm (idx G.length) → (seatS false R G O).value = sumRows (fun k => gs G k * gv G k) G.length := fun O hp => by
    unfold seatS
    have hs2 : amt (fun x => gs G x.toNat) O ≤ ix R 0 := by
      rw [amt_perm _ hp, amt_idx]
      simpa using hs
    rw [fold_all R G hR O _ hR (fun x hx => by
      have := (mem_idx _ _).mp (hp.mem_iff.mp hx)
      exact ((validS_parts hv).2.2 x.toNat (by omega)).1.1) hs2]
    rw [amtV_perm G _ hp, amtV_idx]
    simp
  unfold solveS better
  split
  · exact key _ (rankedL_ok G).1
  · exact key _ (List.Perm.refl _)

theorem solveS_value0 {single : Bool} {R : List Int} {G : List (Int × Int)} (hv : validS R G = true) : 0 ≤ (solveS single R G).value := by
  unfold solveS
  refine Int.le_trans ?_ (better_ge _ _).1
  unfold seatS
  exact fold_mono single R G (worth_nonneg hv) _ ⟨R, List.replicate G.length (0, 0), 0⟩ (fun x hx => by have := (mem_idx _ _).mp hx; omega)

/-- One group alone in a permitted packing: it fits. -/
theorem legal_alone {single : Bool} {R : List Int} {s v V : Int} {r : Nat} (h : LegalP single R [(s, v)] [((r : Int), 0)] V) (hs : 1 ≤ s) (hr : r < R.length) : Alone single R s := by
  obtain ⟨hv, _, hsp, hrow, _⟩ := (legal_iff ..).mp h
  have h0 := hsp 0 (by simp)
  have h1 := hrow r hr
  have e1 : gs [((r : Int), (0 : Int))] 0 = r := rfl
  have e2 : gv [((r : Int), (0 : Int))] 0 = 0 := rfl
  have e3 : gs [(s, v)] 0 = s := rfl
  have e4 : rowL [(s, v)] [((r : Int), (0 : Int))] r [(s, v)].length = [(s, 0)] := by
    show rowL [(s, v)] [((r : Int), (0 : Int))] r 1 = _
    rw [rowL]
    rw [show ((0 : Nat) : Nat) = 0 from rfl, e1, if_pos rfl, e2, e3]; rfl
  rw [e4] at h1
  obtain ⟨L', hp, _, hk⟩ := h1
  obtain rfl : L' = [(s, 0)] := List.perm_singleton.mp hp
  refine ⟨r, hr, ?_⟩
  unfold rowOk at hk
  have hc : chain single 0 [(s, 0)] = some s := by
    rw [chain, if_neg (by omega), chain]; simp
  rw [hc] at hk
  unfold SpotOk badSpot at h0
  rw [e1, e2, e3, Int.toNat_natCast] at h0
  unfold fits
  cases single
  · simp; omega
  · simp at hk ⊢; omega
end Go.Proofs.Ytaomlhhlefpdeaa
