/- Greedy's packing, plain: what the seating keeps true of the runs and the spots. -/
import Derived.Test.YtaomlhhlefpdeaaQFitBound21

namespace Go.Proofs.Ytaomlhhlefpdeaa
open Go.RowKit

/-- The sizes of the groups of P that sit in run r. -/
def sumOn (G S : List (Int × Int)) (r : Int) : List Int → Int
  | [] => 0
  | x :: P => (if gs S x.toNat = r then gs G x.toNat else 0) + sumOn G S r P

theorem sumOn_append (G S : List (Int × Int)) (r : Int) (A B : List Int) : sumOn G S r (A ++ B) = sumOn G S r A + sumOn G S r B := by
  induction A with
  | nil => simp [sumOn]
  | cons x A ih => rw [List.cons_append, sumOn, sumOn, ih]; omega

theorem sumOn_perm (G S : List (Int × Int)) (r : Int) {A B : List Int} (h : A.Perm B) : sumOn G S r A = sumOn G S r B := by
  induction h with
  | nil => rfl
  | cons x _ ih => rw [sumOn, sumOn, ih]
  | swap x y l => rw [sumOn, sumOn, sumOn, sumOn]; omega
  | trans _ _ h1 h2 => rw [h1, h2]

theorem sumOn_congr (G S T : List (Int × Int)) (r : Int) : ∀ (A : List Int), (∀ x ∈ A, gs S x.toNat = gs T x.toNat) → sumOn G S r A = sumOn G T r A := by
  intro A
  induction A with
  | nil => intro _; rfl
  | cons x A ih => intro h; rw [sumOn, sumOn, h x (by simp), ih fun y hy => h y (by simp [hy])]

structure SeatInv (single : Bool) (R : List Int) (G : List (Int × Int)) (P : List Int) (st : PackSt) : Prop where
  ll : st.left.length = R.length
  sl : st.spots.length = G.length
  run : ∀ x ∈ P, gs st.spots x.toNat = -1 ∨ ∃ r : Nat, r < R.length ∧ gs st.spots x.toNat = r ∧ 0 ≤ gv st.spots x.toNat ∧ gv st.spots x.toNat + gs G x.toNat ≤ ix R r - ix st.left r
  sum : ∀ r : Nat, r < R.length → sumOn G st.spots r P = ix R r - ix st.left r
  lo : ∀ r : Nat, r < R.length → 0 ≤ ix st.left r ∧ ix st.left r ≤ ix R r
  room : ∀ r : Nat, r < R.length → ix st.left r = ix R r ∨ fits single (ix st.left r) = true
  top : ∀ r : Nat, r < R.length → ix st.left r = ix R r ∨ ∃ x ∈ P, gs st.spots x.toNat = r ∧ gv st.spots x.toNat + gs G x.toNat = ix R r - ix st.left r
  apart : ∀ x ∈ P, ∀ y ∈ P, x ≠ y → 0 ≤ gs st.spots x.toNat → gs st.spots x.toNat = gs st.spots y.toNat → gv st.spots x.toNat + gs G x.toNat ≤ gv st.spots y.toNat ∨ gv st.spots y.toNat + gs G y.toNat ≤ gv st.spots x.toNat

theorem seatStep_inv {single : Bool} {R : List Int} {G : List (Int × Int)} {P : List Int} {st : PackSt} (h : SeatInv single R G P st) (x : Int)
    (hx : 0 ≤ x ∧ x < G.length) (hP : ∀ y ∈ P, 0 ≤ y ∧ y ≠ x) (hs : 1 ≤ gs G x.toNat) : SeatInv single R G (P ++ [x]) (seatStep single R G st x) := by
  have hxl : x.toNat < st.spots.length := by rw [h.sl]; omega
  have hne : ∀ y ∈ P, ¬ x.toNat = y.toNat := fun y hy e => (hP y hy).2 (by have := (hP y hy).1; omega)
  rcases firstAt_cases (fun k => fits single (ix st.left k - gs G x.toNat)) R.length 0 with e | ⟨j, _, hj, e, hf⟩
  · have e' : firstFit single st.left (gs G x.toNat) R.length = -1 := e
    unfold seatStep
    rw [e', if_neg (by omega)]
    have g1 : ∀ y ∈ P, gs (st.spots.set x.toNat (-1, gv st.spots x.toNat)) y.toNat = gs st.spots y.toNat := fun y hy => by rw [gs_set _ _ _ _ hxl, if_neg (hne y hy)]
    have g2 : ∀ y ∈ P, gv (st.spots.set x.toNat (-1, gv st.spots x.toNat)) y.toNat = gv st.spots y.toNat := fun y hy => by rw [gv_set _ _ _ _ hxl, if_neg (hne y hy)]
    have g3 : gs (st.spots.set x.toNat (-1, gv st.spots x.toNat)) x.toNat = -1 := by rw [gs_set _ _ _ _ hxl, if_pos rfl]
    refine ⟨h.ll, by simpa using h.sl, ?_, ?_, h.lo, h.room, ?_, ?_⟩
    · intro y hy
      rcases List.mem_append.mp hy with hy | hy
      · dsimp only; rw [g1 y hy, g2 y hy]; exact h.run y hy
      · rw [List.mem_singleton.mp hy]; exact Or.inl g3
    · intro r hr
      dsimp only
      rw [sumOn_append, sumOn_congr G _ st.spots r P g1, h.sum r hr, sumOn, g3, if_neg (by omega), sumOn]; omega
    · intro r hr
      rcases h.top r hr with k | ⟨y, hy, k1, k2⟩
      · exact Or.inl k
      · exact Or.inr ⟨y, by simp [hy], by dsimp only; rw [g1 y hy]; exact k1, by dsimp only; rw [g2 y hy]; exact k2⟩
    · intro y hy z hz hyz
      dsimp only
      rcases List.mem_append.mp hy with hy | hy
      · rcases List.mem_append.mp hz with hz | hz
        · rw [g1 y hy, g1 z hz, g2 y hy, g2 z hz]; exact h.apart y hy z hz hyz
        · rw [List.mem_singleton.mp hz, g3]; intro a b; omega
      · rw [List.mem_singleton.mp hy, g3]; intro a; omega
  · have e' : firstFit single st.left (gs G x.toNat) R.length = (j : Int) := e
    have hjn : j < R.length := by omega
    have hjl : j < st.left.length := by rw [h.ll]; exact hjn
    have hf0 : 0 ≤ ix st.left j - gs G x.toNat := by
      have hf2 := hf
      unfold fits at hf2; rw [Bool.and_eq_true] at hf2; exact of_decide_eq_true hf2.1
    have hlo := h.lo j hjn
    unfold seatStep
    rw [e', if_pos (by omega), Int.toNat_natCast]
    have g1 : ∀ (v : Int × Int), ∀ y ∈ P, gs (st.spots.set x.toNat v) y.toNat = gs st.spots y.toNat := fun v y hy => by rw [gs_set _ _ _ _ hxl, if_neg (hne y hy)]
    have g2 : ∀ (v : Int × Int), ∀ y ∈ P, gv (st.spots.set x.toNat v) y.toNat = gv st.spots y.toNat := fun v y hy => by rw [gv_set _ _ _ _ hxl, if_neg (hne y hy)]
    have g3 : ∀ (v : Int × Int), gs (st.spots.set x.toNat v) x.toNat = v.1 := fun v => by rw [gs_set _ _ _ _ hxl, if_pos rfl]
    have g4 : ∀ (v : Int × Int), gv (st.spots.set x.toNat v) x.toNat = v.2 := fun v => by rw [gv_set _ _ _ _ hxl, if_pos rfl]
    have gl : ∀ (u : Int) (k : Nat), ix (st.left.set j u) k = if j = k then u else ix st.left k := fun u k => ix_set _ _ _ _ hjl
    refine ⟨by simpa using h.ll, by simpa using h.sl, ?_, ?_, ?_, ?_, ?_, ?_⟩
    · intro y hy
      dsimp only
      rcases List.mem_append.mp hy with hy | hy
      · rw [g1 _ y hy, g2 _ y hy]
        rcases h.run y hy with k | ⟨r, k1, k2, k3, k4⟩
        · exact Or.inl k
        · refine Or.inr ⟨r, k1, k2, k3, ?_⟩
          rw [gl]; split
          · subst_vars; omega
          · exact k4
      · rw [List.mem_singleton.mp hy, g3, g4]
        refine Or.inr ⟨j, hjn, rfl, by dsimp only; omega, ?_⟩
        rw [gl, if_pos rfl]; dsimp only; omega
    · intro r hr
      dsimp only
      rw [sumOn_append, sumOn_congr G _ st.spots r P (g1 _), h.sum r hr, sumOn, g3, sumOn, gl]
      dsimp only
      by_cases hjr : j = r
      · subst hjr; rw [if_pos rfl, if_pos rfl]; omega
      · rw [if_neg (by omega), if_neg hjr]; omega
    · intro r hr
      dsimp only
      rw [gl]; split
      · subst_vars; omega
      · exact h.lo r hr
    · intro r hr
      dsimp only
      rw [gl]; split
      · exact Or.inr hf
      · exact h.room r hr
    · intro r hr
      dsimp only
      rw [gl]
      by_cases hjr : j = r
      · subst hjr
        rw [if_pos rfl]
        exact Or.inr ⟨x, by simp, by rw [g3], by rw [g4]; dsimp only; omega⟩
      · rw [if_neg hjr]
        rcases h.top r hr with k | ⟨y, hy, k1, k2⟩
        · exact Or.inl k
        · exact Or.inr ⟨y, by simp [hy], by rw [g1 _ y hy]; exact k1, by rw [g2 _ y hy]; exact k2⟩
    · have key : ∀ y ∈ P, gs st.spots y.toNat = j → gv st.spots y.toNat + gs G y.toNat ≤ ix R j - ix st.left j := by
        intro y hy k
        rcases h.run y hy with k1 | ⟨r, k1, k2, k3, k4⟩
        · omega
        · have : r = j := by omega
          subst this; exact k4
      intro y hy z hz hyz
      dsimp only
      rcases List.mem_append.mp hy with hy | hy
      · rcases List.mem_append.mp hz with hz | hz
        · rw [g1 _ y hy, g1 _ z hz, g2 _ y hy, g2 _ z hz]; exact h.apart y hy z hz hyz
        · rw [List.mem_singleton.mp hz, g1 _ y hy, g2 _ y hy, g3, g4]
          intro _ b; exact Or.inl (key y hy b)
      · rcases List.mem_append.mp hz with hz | hz
        · rw [List.mem_singleton.mp hy, g1 _ z hz, g2 _ z hz, g3, g4]
          intro _ b; exact Or.inr (key z hz b.symm)
        · exact absurd ((List.mem_singleton.mp hy).trans (List.mem_singleton.mp hz).symm) hyz

theorem fold_inv {single : Bool} {R : List Int} {G : List (Int × Int)} (hv : ∀ k, k < G.length → 1 ≤ gs G k) : ∀ (O P : List Int) (st : PackSt), SeatInv single R G P st →
    (P ++ O).Nodup → (∀ x ∈ P ++ O, 0 ≤ x ∧ x < G.length) → SeatInv single R G (P ++ O) (O.foldl (seatStep single R G) st) := by
  intro O
  induction O with
  | nil => intro P st h _ _; simpa using h
  | cons x O ih =>
    intro P st h hn hr
    rw [List.foldl_cons]
    have e : P ++ x :: O = (P ++ [x]) ++ O := by simp
    rw [e] at hn hr ⊢
    have hx := hr x (by simp)
    refine ih _ _ (seatStep_inv h x hx (fun y hy => ⟨(hr y (by simp [hy])).1, ?_⟩) (hv _ (by omega))) hn hr
    rw [List.nodup_append] at hn
    have h1 := (List.nodup_append.mp hn.1).2.2 y hy x (by simp)
    exact h1

theorem seatS_inv {single : Bool} {R : List Int} {G : List (Int × Int)} {O : List Int} (hr : ∀ k, k < R.length → 1 ≤ ix R k) (hv : ∀ k, k < G.length → 1 ≤ gs G k) (hp : O.Perm (idx G.length)) :
    SeatInv single R G O (seatS single R G O) := by
  have hn : O.Nodup := hp.nodup_iff.mpr (List.Pairwise.imp (fun h => by omega) (idx_lt G.length))
  have h0 : SeatInv single R G [] ⟨R, List.replicate G.length (0, 0), 0⟩ :=
    ⟨rfl, by simp, fun x hx => absurd hx (by simp), fun r hr => by simp [sumOn], fun r h => by have := hr r h; dsimp only; omega, fun r _ => Or.inl rfl, fun r _ => Or.inl rfl, fun x hx => absurd hx (by simp)⟩
  have := fold_inv hv O [] _ h0 (by simpa using hn) (fun x hx => (mem_idx _ _).mp (hp.mem_iff.mp (by simpa using hx)))
  simpa [seatS] using this

/-- Solve's packing is a seating in one of the two orders. -/
theorem solveS_inv {single : Bool} {R : List Int} {G : List (Int × Int)} (hv : validS R G = true) : ∃ O, O.Perm (idx G.length) ∧ SeatInv single R G O (solveS single R G) := by
  obtain ⟨h1, _, h3⟩ := validS_parts hv
  have hr := (runsOk_sum R 4000 (by omega) h1).2.2
  have hs : ∀ k, k < G.length → 1 ≤ gs G k := fun k hk => (h3 k hk).1.1
  unfold solveS better
  split
  · exact ⟨_, (rankedL_ok G).1, seatS_inv (fun k hk => (hr k hk).1) hs (rankedL_ok G).1⟩
  · exact ⟨_, List.Perm.refl _, seatS_inv (fun k hk => (hr k hk).1) hs (List.Perm.refl _)⟩

/-- The sizes of the first groups in run r. -/
def sumTo (G S : List (Int × Int)) (r : Int) : Nat → Int
  | 0 => 0
  | k + 1 => if gs S k = r then sumTo G S r k + gs G k else sumTo G S r k

/-- Where the first groups in run r end. -/
def endTo (G S : List (Int × Int)) (r : Int) : Nat → Int
  | 0 => 0
  | k + 1 => if gs S k = r then max (endTo G S r k) (gv S k + gs G k) else endTo G S r k

theorem sumTo_idx (G S : List (Int × Int)) (r : Int) : ∀ n, sumTo G S r n = sumOn G S r (idx n) := by
  intro n
  induction n with
  | zero => rfl
  | succ n ih =>
    have e : idx (n + 1) = idx n ++ [(n : Int)] := by simp [idx, List.range_succ]
    rw [sumTo, e, sumOn_append, ← ih, sumOn, sumOn, Int.toNat_natCast]
    split <;> omega

theorem endTo_le (G S : List (Int × Int)) (r b : Int) (hb : 0 ≤ b) : ∀ n, (∀ k, k < n → gs S k = r → gv S k + gs G k ≤ b) → 0 ≤ endTo G S r n ∧ endTo G S r n ≤ b := by
  intro n
  induction n with
  | zero => intro _; exact ⟨Int.le_refl _, hb⟩
  | succ n ih =>
    intro h
    have i := ih fun k hk => h k (by omega)
    rw [endTo]; split
    · have := h n (by omega) (by assumption); omega
    · exact i

theorem endTo_ge (G S : List (Int × Int)) (r : Int) : ∀ n k, k < n → gs S k = r → gv S k + gs G k ≤ endTo G S r n := by
  intro n
  induction n with
  | zero => intro k hk; omega
  | succ n ih =>
    intro k hk e
    rw [endTo]
    by_cases hkn : k = n
    · subst hkn; rw [if_pos e]; omega
    · have := ih k (by omega) e
      split <;> omega

theorem solveS_runs {single : Bool} {R : List Int} {G : List (Int × Int)} (hv : validS R G = true) (r : Nat) (hr : r < R.length) :
    sumTo G (solveS single R G).spots r G.length = endTo G (solveS single R G).spots r G.length ∧ endTo G (solveS single R G).spots r G.length ≤ ix R r := by
  obtain ⟨O, hp, h⟩ := solveS_inv (single := single) hv
  have hlo := h.lo r hr
  have hsum : sumTo G (solveS single R G).spots r G.length = ix R r - ix (solveS single R G).left r := by
    rw [sumTo_idx, ← sumOn_perm G _ r hp]; exact h.sum r hr
  have hb := endTo_le G (solveS single R G).spots r (ix R r - ix (solveS single R G).left r) (by omega) G.length (fun k hk e => by
    have hm : (k : Int) ∈ O := hp.mem_iff.mpr ((mem_idx _ _).mpr ⟨by omega, by omega⟩)
    rcases h.run _ hm with a | ⟨q, _, a, _, b⟩
    · rw [Int.toNat_natCast] at a; omega
    · rw [Int.toNat_natCast] at a b
      have : q = r := by omega
      subst this; exact b)
  have ht : ix (solveS single R G).left r = ix R r ∨ ix R r - ix (solveS single R G).left r ≤ endTo G (solveS single R G).spots r G.length := by
    rcases h.top r hr with a | ⟨x, hx, a, b⟩
    · exact Or.inl a
    · right
      have hxr := (mem_idx _ _).mp (hp.mem_iff.mp hx)
      rw [← b]
      exact endTo_ge G _ r G.length x.toNat (by omega) a
  rw [hsum]
  omega

/-- Every spot of Solve's packing lies in a small range. -/
theorem solveS_bounds {single : Bool} {R : List Int} {G : List (Int × Int)} (hv : validS R G = true) (k : Nat) (hk : k < G.length) :
    (-1 ≤ gs (solveS single R G).spots k ∧ gs (solveS single R G).spots k < R.length) ∧ (0 ≤ gs (solveS single R G).spots k → 0 ≤ gv (solveS single R G).spots k ∧ gv (solveS single R G).spots k ≤ 4000) := by
  obtain ⟨O, hp, h⟩ := solveS_inv (single := single) hv
  obtain ⟨h1, _, h3⟩ := validS_parts hv
  have hr := (runsOk_sum R 4000 (by omega) h1).2.2
  have hm : (k : Int) ∈ O := hp.mem_iff.mpr ((mem_idx _ _).mpr ⟨by omega, by omega⟩)
  have hs := (h3 k hk).1.1
  rcases h.run _ hm with a | ⟨q, hq, a, b, c⟩
  · rw [Int.toNat_natCast] at a; omega
  · rw [Int.toNat_natCast] at a b c
    have := hr q hq
    have := h.lo q hq
    omega
end Go.Proofs.Ytaomlhhlefpdeaa
