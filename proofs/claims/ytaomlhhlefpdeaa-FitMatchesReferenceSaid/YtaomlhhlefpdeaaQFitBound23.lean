/- Greedy's packing is permitted, and has its value. -/
import Derived.Test.YtaomlhhlefpdeaaQFitBound19
import Derived.Test.YtaomlhhlefpdeaaQFitBound22

namespace Go.Proofs.Ytaomlhhlefpdeaa
open Go.RowKit

theorem amtV_congr (G : List (Int × Int)) (a b : Int → Int) : ∀ (O : List Int), (∀ x ∈ O, a x = b x) → amtV G a O = amtV G b O := by
  intro O
  induction O with
  | nil => intro _; rfl
  | cons x O ih => intro h; rw [amtV, amtV, h x (by simp), ih fun y hy => h y (by simp [hy])]

structure SeatMore (G : List (Int × Int)) (P : List Int) (st : PackSt) : Prop where
  sl : st.spots.length = G.length
  skip : ∀ k, k < G.length → gs st.spots k = -1 → gv st.spots k = 0
  fresh : ∀ k : Nat, k < G.length → (k : Int) ∉ P → gv st.spots k = 0
  value : st.value = amtV G (taken G st.spots) P

theorem seatStep_more {single : Bool} {R : List Int} {G : List (Int × Int)} {P : List Int} {st : PackSt} (h : SeatMore G P st) (x : Int)
    (hx : 0 ≤ x ∧ x < G.length) (hP : ∀ y ∈ P, 0 ≤ y ∧ y ≠ x) : SeatMore G (P ++ [x]) (seatStep single R G st x) := by
  have hxl : x.toNat < st.spots.length := by rw [h.sl]; omega
  have hne : ∀ y ∈ P, ¬ x.toNat = y.toNat := fun y hy e => (hP y hy).2 (by have := (hP y hy).1; omega)
  have g1 : ∀ (v : Int × Int) (k : Nat), gs (st.spots.set x.toNat v) k = if x.toNat = k then v.1 else gs st.spots k := fun v k => gs_set _ _ _ _ hxl
  have g2 : ∀ (v : Int × Int) (k : Nat), gv (st.spots.set x.toNat v) k = if x.toNat = k then v.2 else gv st.spots k := fun v k => gv_set _ _ _ _ hxl
  have g3 : ∀ (v : Int × Int), amtV G (taken G (st.spots.set x.toNat v)) P = amtV G (taken G st.spots) P := fun v => amtV_congr G _ _ P (fun y hy => by
    unfold taken; rw [g1, if_neg (hne y hy)])
  have g4 : ∀ (v : Int × Int), amtV G (taken G (st.spots.set x.toNat v)) [x] = (if v.1 = -1 then 0 else gs G x.toNat) * gv G x.toNat := fun v => by
    rw [amtV, amtV, taken, g1, if_pos rfl]; omega
  have hx0 : gv st.spots x.toNat = 0 := h.fresh x.toNat (by omega) (fun hm => by
    have := (hP _ hm).2; omega)
  have hfr : ∀ k : Nat, (k : Int) ∉ P ++ [x] → ¬ x.toNat = k ∧ (k : Int) ∉ P := fun k hk => by
    rw [List.mem_append, List.mem_singleton] at hk
    exact ⟨fun e => hk (Or.inr (by omega)), fun e => hk (Or.inl e)⟩
  rcases firstAt_cases (fun k => fits single (ix st.left k - gs G x.toNat)) R.length 0 with e | ⟨j, _, hj, e, hf⟩
  · have e' : firstFit single st.left (gs G x.toNat) R.length = -1 := e
    unfold seatStep
    rw [e', if_neg (by omega)]
    refine ⟨by simpa using h.sl, fun k hk a => ?_, fun k hk hn => ?_, ?_⟩
    · dsimp only at a ⊢
      rw [g1] at a; rw [g2]
      split
      · exact hx0
      · rename_i hkx; rw [if_neg hkx] at a; exact h.skip k hk a
    · dsimp only
      rw [g2, if_neg (hfr k hn).1]; exact h.fresh k hk (hfr k hn).2
    · dsimp only
      rw [amtV_append, g3, g4, h.value]; simp
  · have e' : firstFit single st.left (gs G x.toNat) R.length = (j : Int) := e
    unfold seatStep
    rw [e', if_pos (by omega), Int.toNat_natCast]
    refine ⟨by simpa using h.sl, fun k hk a => ?_, fun k hk hn => ?_, ?_⟩
    · dsimp only at a ⊢
      rw [g1] at a; rw [g2]
      split
      · rename_i hkx; rw [if_pos hkx] at a; omega
      · rename_i hkx; rw [if_neg hkx] at a; exact h.skip k hk a
    · dsimp only
      rw [g2, if_neg (hfr k hn).1]; exact h.fresh k hk (hfr k hn).2
    · dsimp only
      rw [amtV_append, g3, g4, h.value]; dsimp only; rw [if_neg (by omega)]

theorem fold_more {single : Bool} {R : List Int} {G : List (Int × Int)} : ∀ (O P : List Int) (st : PackSt), SeatMore G P st →
    (P ++ O).Nodup → (∀ x ∈ P ++ O, 0 ≤ x ∧ x < G.length) → SeatMore G (P ++ O) (O.foldl (seatStep single R G) st) := by
  intro O
  induction O with
  | nil => intro P st h _ _; simpa using h
  | cons x O ih =>
    intro P st h hn hr
    rw [List.foldl_cons]
    have e : P ++ x :: O = (P ++ [x]) ++ O := by simp
    rw [e] at hn hr ⊢
    have hx := hr x (by simp)
    refine ih _ _ (seatStep_more h x hx (fun y hy => ⟨(hr y (by simp [hy])).1, ?_⟩)) hn hr
    rw [List.nodup_append] at hn
    exact (List.nodup_append.mp hn.1).2.2 y hy x (by simp)

theorem seatS_more {single : Bool} {R : List Int} {G : List (Int × Int)} {O : List Int} (hp : O.Perm (idx G.length)) : SeatMore G O (seatS single R G O) := by
  have hn : O.Nodup := hp.nodup_iff.mpr (List.Pairwise.imp (fun h => by omega) (idx_lt G.length))
  have h0 : SeatMore G [] ⟨R, List.replicate G.length (0, 0), 0⟩ :=
    ⟨by simp, fun k hk a => by simp [gs, List.getD, hk] at a, fun k hk _ => by simp [gv, List.getD, hk], rfl⟩
  have := fold_more (single := single) (R := R) O [] _ h0 (by simpa using hn) (fun x hx => (mem_idx _ _).mp (hp.mem_iff.mp (by simpa using hx)))
  simpa [seatS] using this

/-! ### A row without a gap is permitted -/
theorem exists_sorted (L : List (Int × Int)) : ∃ L' : List (Int × Int), L'.Perm L ∧ L'.Pairwise (fun a b => a.2 ≤ b.2) := by
  refine ⟨L.mergeSort (fun a b => decide (a.2 ≤ b.2)), List.mergeSort_perm _ _, ?_⟩
  have := List.pairwise_mergeSort (le := fun a b : Int × Int => decide (a.2 ≤ b.2)) (fun a b c h1 h2 => by simp at *; omega) (fun a b => by simp; omega) L
  exact List.Pairwise.imp (fun h => by simpa using h) this

def Apart (a b : Int × Int) : Prop := a.2 + a.1 ≤ b.2 ∨ b.2 + b.1 ≤ a.2

theorem nogap (single : Bool) (E : Int) : ∀ (L : List (Int × Int)) (a : Int), L.Pairwise (fun x y => x.2 + x.1 ≤ y.2) → (∀ x ∈ L, a ≤ x.2 ∧ x.2 + x.1 ≤ E) → a ≤ E →
    rowSum L ≤ E - a ∧ (rowSum L = E - a → chain single a L = some E) := by
  intro L
  induction L with
  | nil => intro a _ _ h; simp only [rowSum, chain]; exact ⟨by omega, fun h => by rw [show a = E from by omega]⟩
  | cons x L ih =>
    intro a hp hx ha
    rw [List.pairwise_cons] at hp
    have h1 := hx x (by simp)
    obtain ⟨i1, i2⟩ := ih (x.2 + x.1) hp.2 (fun y hy => ⟨hp.1 y hy, (hx y (by simp [hy])).2⟩) h1.2
    rw [rowSum, chain]
    refine ⟨by omega, fun h => ?_⟩
    rw [if_neg (by omega)]
    exact i2 (by omega)

theorem pairwise_both {L : List (Int × Int)} (h1 : L.Pairwise (fun a b => a.2 ≤ b.2)) (h2 : L.Pairwise Apart) (hs : ∀ x ∈ L, 1 ≤ x.1) : L.Pairwise (fun x y => x.2 + x.1 ≤ y.2) := by
  induction L with
  | nil => exact List.Pairwise.nil
  | cons x L ih =>
    rw [List.pairwise_cons] at h1 h2
    refine List.Pairwise.cons (fun y hy => ?_) (ih h1.2 h2.2 (fun y hy => hs y (by simp [hy])))
    have a := h1.1 y hy
    have b := h2.1 y hy
    have := hs y (by simp [hy])
    unfold Apart at b
    omega

theorem rowLegal_nogap {single : Bool} {n E : Int} {L : List (Int × Int)} (hs : ∀ x ∈ L, 1 ≤ x.1) (ha : L.Pairwise Apart) (hx : ∀ x ∈ L, 0 ≤ x.2 ∧ x.2 + x.1 ≤ E) (h0 : 0 ≤ E) (hsum : rowSum L = E)
    (he : single = true → E ≠ n - 1 ∨ E = 0) : RowLegal single n L := by
  obtain ⟨L', hp, ho⟩ := exists_sorted L
  have hm : ∀ x, x ∈ L' → x ∈ L := fun x => hp.mem_iff.mp
  have ha' : L'.Pairwise Apart := (hp.pairwise_iff (fun {a b} h => by unfold Apart at *; omega)).mpr ha
  have hc := (nogap single E L' 0 (pairwise_both ho ha' (fun x hx => hs x (hm x hx))) (fun x h => hx x (hm x h)) h0).2 (by rw [rowSum_perm hp]; omega)
  refine ⟨L', hp, ho, ?_⟩
  unfold rowOk
  rw [hc]
  cases single
  · rfl
  · have := he rfl
    simp
    omega

theorem rowL_sum (G S : List (Int × Int)) (r : Nat) : ∀ n, rowSum (rowL G S r n) = sumTo G S r n := by
  intro n
  induction n with
  | zero => rfl
  | succ n ih =>
    rw [rowL, sumTo]
    split
    · rw [rowSum_append, ih]; simp [rowSum]
    · exact ih

theorem rowL_apart (G S : List (Int × Int)) (r : Nat) : ∀ n, (∀ i j, i < j → j < n → gs S i = (r : Int) → gs S j = (r : Int) → gv S i + gs G i ≤ gv S j ∨ gv S j + gs G j ≤ gv S i) → (rowL G S r n).Pairwise Apart := by
  intro n
  induction n with
  | zero => intro _; exact List.Pairwise.nil
  | succ n ih =>
    intro h
    have i := ih fun i j hij hj => h i j hij (by omega)
    rw [rowL]
    split
    · rename_i e
      rw [List.pairwise_append]
      refine ⟨i, List.pairwise_singleton .., fun x hx y hy => ?_⟩
      obtain ⟨k, hk, ek, rfl⟩ := rowL_mem G S r n x hx
      rw [List.mem_singleton.mp hy]
      exact h k n hk (by omega) ek e
    · exact i

/-- Solve's packing is permitted, and has its value. -/
theorem solve_legal {single : Bool} {R : List Int} {G : List (Int × Int)} (hv : validS R G = true) : LegalP single R G (solveS single R G).spots (solveS single R G).value := by
  obtain ⟨O, hp, h, hm⟩ : ∃ O, O.Perm (idx G.length) ∧ SeatInv single R G O (solveS single R G) ∧ SeatMore G O (solveS single R G) := by
    obtain ⟨h1, _, h3⟩ := validS_parts hv
    have hr := (runsOk_sum R 4000 (by omega) h1).2.2
    have hs : ∀ k, k < G.length → 1 ≤ gs G k := fun k hk => (h3 k hk).1.1
    unfold solveS better
    split
    · exact ⟨_, (rankedL_ok G).1, seatS_inv (fun k hk => (hr k hk).1) hs (rankedL_ok G).1, seatS_more (rankedL_ok G).1⟩
    · exact ⟨_, List.Perm.refl _, seatS_inv (fun k hk => (hr k hk).1) hs (List.Perm.refl _), seatS_more (List.Perm.refl _)⟩
  have hvp := (validS_parts hv).2.2
  generalize solveS single R G = st at *
  have hin : ∀ k : Nat, k < G.length → (k : Int) ∈ O := fun k hk => hp.mem_iff.mpr ((mem_idx _ _).mpr ⟨by omega, by omega⟩)
  have hrun : ∀ k : Nat, k < G.length → gs st.spots k = -1 ∨ ∃ r : Nat, r < R.length ∧ gs st.spots k = r ∧ 0 ≤ gv st.spots k ∧ gv st.spots k + gs G k ≤ ix R r - ix st.left r := fun k hk => by
    have := h.run _ (hin k hk); rw [Int.toNat_natCast] at this; exact this
  refine (legal_iff ..).mpr ⟨hv, h.sl, fun k hk => ?_, fun r hr => ?_, ?_⟩
  · rcases hrun k hk with a | ⟨r, hr, a, b, c⟩
    · exact Or.inl ⟨a, hm.skip k hk a⟩
    · right
      have := h.lo r hr
      unfold badSpot
      rw [a, Int.toNat_natCast]
      omega
  · have hlo := h.lo r hr
    have hat : ∀ k, k < G.length → gs st.spots k = (r : Int) → 0 ≤ gv st.spots k ∧ gv st.spots k + gs G k ≤ ix R r - ix st.left r := fun k hk e => by
      rcases hrun k hk with a | ⟨q, hq, a, b, c⟩
      · omega
      · obtain rfl : q = r := by omega
        exact ⟨b, c⟩
    refine rowLegal_nogap (E := ix R r - ix st.left r) (fun x hx => ?_) (rowL_apart G st.spots r G.length (fun i j hij hj ei ej => ?_)) (fun x hx => ?_) (by omega) ?_ (fun hs => ?_)
    · obtain ⟨k, hk, e, rfl⟩ := rowL_mem G st.spots r _ x hx
      exact (hvp k hk).1.1
    · have := h.apart _ (hin i (by omega)) _ (hin j hj) (by omega)
      simp only [Int.toNat_natCast] at this
      exact this (by omega) (by omega)
    · obtain ⟨k, hk, e, rfl⟩ := rowL_mem G st.spots r _ x hx
      exact hat k hk e
    · rw [rowL_sum, sumTo_idx, ← sumOn_perm G _ _ hp]; exact h.sum r hr
    · rcases h.room r hr with a | a
      · right; omega
      · left
        subst hs
        unfold fits at a
        simp at a
        omega
  · rw [hm.value, amtV_perm G _ hp]
end Go.Proofs.Ytaomlhhlefpdeaa
