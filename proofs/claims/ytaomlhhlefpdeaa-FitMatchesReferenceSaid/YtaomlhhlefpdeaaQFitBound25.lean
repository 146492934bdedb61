/- FitSums, FitFewer, FitTurned, plain. -/
import Derived.Test.YtaomlhhlefpdeaaQFitBound24

namespace Go.Proofs.Ytaomlhhlefpdeaa
open Go.RowKit

/-! ### FitTurned -/
def mir (n : Int) (x : Int × Int) : Int × Int := (x.1, n - x.1 - x.2)

theorem chain_snoc (single : Bool) (y : Int × Int) : ∀ (L : List (Int × Int)) (a : Int), chain single a (L ++ [y]) = (chain single a L).bind fun e => if y.2 < e ∨ (single = true ∧ y.2 = e + 1) then none else some (y.2 + y.1) := by
  intro L
  induction L with
  | nil => intro a; simp [chain]
  | cons x L ih =>
    intro a
    rw [List.cons_append, chain, chain]
    split
    · rfl
    · exact ih _

theorem chain_mir {single : Bool} {n : Int} : ∀ (L : List (Int × Int)) (x : Int × Int) (a e : Int), chain single a (x :: L) = some e → e ≤ n → (single = true → e ≠ n - 1) → chain single 0 (((x :: L).map (mir n)).reverse) = some (n - x.2) := by
  intro L
  induction L with
  | nil =>
    intro x a e h he hs
    rw [chain] at h
    split at h
    · simp at h
    · simp [chain] at h
      simp only [List.map_cons, List.map_nil, List.reverse_cons, List.reverse_nil, List.nil_append, chain, mir]
      rw [if_neg]
      · congr 1; omega
      · rintro (h1 | ⟨h1, h2⟩)
        · omega
        · have := hs h1; omega
  | cons y L ih =>
    intro x a e h he hs
    rw [chain] at h
    split at h
    · simp at h
    · have h1 := ih y _ e h he hs
      rw [chain] at h
      split at h
      · simp at h
      · rename_i hc hc2
        rw [List.map_cons, List.reverse_cons, chain_snoc, h1]
        rw [Option.bind_some, if_neg]
        · simp only [mir]; congr 1; omega
        · simp only [mir]
          rintro (h2 | ⟨h2, h3⟩)
          · omega
          · exact hc2 (Or.inr ⟨h2, by omega⟩)

theorem rowLegal_mir {single : Bool} {n : Int} {L : List (Int × Int)} (hs : ∀ x ∈ L, 1 ≤ x.1) (hx : ∀ x ∈ L, x.2 + x.1 ≤ n) (h0 : 0 ≤ n) (h : RowLegal single n L) : RowLegal single n (L.map (mir n)) := by
  obtain ⟨L', hp, hq, ho⟩ := h
  have hm : ∀ x, x ∈ L' → x ∈ L := fun x => hp.mem_iff.mp
  unfold rowOk at ho
  cases hc : chain single 0 L' with
  | none => rw [hc] at ho; simp at ho
  | some e =>
    rw [hc] at ho
    have hlt := chain_lt single L' 0 e (fun x hx => hs x (hm x hx)) hc
    have hce := chain_end single n L' 0 e (fun x hx' => hx x (hm x hx')) h0 hc
    refine ⟨(L'.map (mir n)).reverse, (List.reverse_perm _).trans (hp.map _), ?_, ?_⟩
    · rw [List.pairwise_reverse, List.pairwise_map]
      have hb : L'.Pairwise (fun x y => x.2 + x.1 ≤ y.2) := by
        have : ∀ (K : List (Int × Int)) (a e : Int), (∀ x ∈ K, 1 ≤ x.1) → chain single a K = some e → K.Pairwise (fun x y => x.2 + x.1 ≤ y.2) := by
          intro K
          induction K with
          | nil => intro _ _ _ _; exact List.Pairwise.nil
          | cons x K ih =>
            intro a e hs h
            rw [chain] at h
            split at h
            · simp at h
            · have := chain_lt single K _ e (fun y hy => hs y (by simp [hy])) h
              exact List.Pairwise.cons this.1 (ih _ e (fun y hy => hs y (by simp [hy])) h)
        exact this L' 0 e (fun x hx => hs x (hm x hx)) hc
      refine List.Pairwise.imp_of_mem (fun {x y} hx' hy' h => ?_) hb
      have := hs x (hm x hx')
      have := hs y (hm y hy')
      simp only [mir]; omega
    · cases hL : L' with
      | nil =>
        unfold rowOk
        simp [chain]
      | cons x K =>
        rw [hL] at hc
        have hpos := hs x (hm x (by rw [hL]; simp))
        have hxn := hlt.1 x (by rw [hL]; simp)
        have he0 : 0 < e := by
          have : ∀ (K : List (Int × Int)) (a e : Int), (∀ x ∈ K, 1 ≤ x.1) → chain single a K = some e → a ≤ e := by
            intro K
            induction K with
            | nil => intro a e _ h; simp [chain] at h; omega
            | cons x K ih =>
              intro a e hs h
              rw [chain] at h
              split at h
              · simp at h
              · have := ih _ e (fun y hy => hs y (by simp [hy])) h
                have := hs x (by simp)
                omega
          rw [chain] at hc
          split at hc
          · simp at hc
          · have := this K _ e (fun y hy => hs y (hm y (by rw [hL]; simp [hy]))) hc
            omega
        unfold rowOk
        rw [chain_mir (n := n) K x 0 e hc hce.2 (fun h1 => by subst h1; simp at ho; omega)]
        rw [chain] at hc
        cases single
        · rfl
        · simp at hc ⊢
          omega

/-- The places of each run numbered from the other end. -/
def turnAt (R : List Int) (G S : List (Int × Int)) (i : Nat) : Int × Int :=
  if 0 ≤ gs S i ∧ gs S i < R.length then (gs S i, ix R (gs S i).toNat - gs G i - gv S i) else (gs S i, gv S i)

theorem spots_get (m : Nat) (f : Nat → Int × Int) (k : Nat) (h : k < m) : gs ((List.range m).map f) k = (f k).1 ∧ gv ((List.range m).map f) k = (f k).2 := by
  simp [gs, gv, List.getD, h]

def turned (R : List Int) (G S : List (Int × Int)) : List (Int × Int) := (List.range S.length).map (turnAt R G S)

theorem turned_at (R : List Int) (G S : List (Int × Int)) (k : Nat) (h : k < S.length) : gs (turned R G S) k = (turnAt R G S k).1 ∧ gv (turned R G S) k = (turnAt R G S k).2 := spots_get _ _ _ h

theorem turned_length (R : List Int) (G S : List (Int × Int)) : (turned R G S).length = S.length := by simp [turned]

theorem turned_twice (R : List Int) (G S : List (Int × Int)) : turned R G (turned R G S) = S := by
  apply List.ext_getElem
  · rw [turned_length, turned_length]
  · intro k h1 h2
    have e := turned_at R G S k h2
    have e2 := turned_at R G (turned R G S) k (by rw [turned_length]; exact h2)
    have g1 : (turned R G (turned R G S))[k] = (gs (turned R G (turned R G S)) k, gv (turned R G (turned R G S)) k) := by simp [gs, gv, List.getD, h1]
    have g2 : S[k] = (gs S k, gv S k) := by simp [gs, gv, List.getD, h2]
    rw [g1, g2, e2.1, e2.2]
    unfold turnAt
    rw [e.1, e.2]
    unfold turnAt
    by_cases h : 0 ≤ gs S k ∧ gs S k < R.length
    · simp only [if_pos h]; congr 1; omega
    · simp only [if_neg h]

theorem rowL_turned (R : List Int) (G S : List (Int × Int)) (r : Nat) (hr : r < R.length) : ∀ n, n ≤ S.length → rowL G (turned R G S) r n = (rowL G S r n).map (mir (ix R r)) := by
  intro n
  induction n with
  | zero => intro _; rfl
  | succ n ih =>
    intro h
    have e := turned_at R G S n (by omega)
    have hs : gs (turned R G S) n = gs S n := by rw [e.1]; unfold turnAt; split <;> rfl
    rw [rowL, rowL, ih (by omega), hs]
    by_cases h1 : gs S n = (r : Int)
    · rw [if_pos h1, if_pos h1, List.map_append, e.2]
      unfold turnAt
      rw [if_pos (by omega)]
      simp [mir, h1]
    · rw [if_neg h1, if_neg h1]

theorem turned_legal {single : Bool} {R : List Int} {G S : List (Int × Int)} {V : Int} (h : LegalP single R G S V) : LegalP single R G (turned R G S) V := by
  obtain ⟨hv, hl, hs, hrow, hval⟩ := (legal_iff ..).mp h
  have hp := validS_parts hv
  have hrs := (runsOk_sum R 4000 (by omega) hp.1).2.2
  have hrun : ∀ k, k < G.length → gs (turned R G S) k = gs S k := fun k hk => by
    rw [(turned_at R G S k (by omega)).1]; unfold turnAt; split <;> rfl
  refine (legal_iff ..).mpr ⟨hv, by rw [turned_length]; exact hl, fun k hk => ?_, fun r hr => ?_, ?_⟩
  · have e := turned_at R G S k (by omega)
    unfold SpotOk
    rw [hrun k hk, e.2]
    unfold turnAt
    rcases hs k hk with a | b
    · left; rw [if_neg (by omega)]; exact a
    · right
      unfold badSpot at b ⊢
      rw [if_pos (by omega)]
      dsimp only
      omega
  · rw [rowL_turned R G S r hr _ (by omega)]
    refine rowLegal_mir (fun x hx => ?_) (fun x hx => ?_) (by have := hrs r hr; omega) (hrow r hr)
    · obtain ⟨k, hk, e, rfl⟩ := rowL_mem G S r _ x hx
      exact (hp.2.2 k hk).1.1
    · obtain ⟨k, hk, e, rfl⟩ := rowL_mem G S r _ x hx
      dsimp only
      rcases hs k hk with a | b
      · omega
      · unfold badSpot at b
        rw [show (gs S k).toNat = r from by omega] at b
        omega
  · rw [← hval]
    refine amtV_congr G _ _ _ (fun x hx => ?_)
    have := (mem_idx _ _).mp hx
    unfold taken
    rw [hrun x.toNat (by omega)]

theorem turned_iff {single : Bool} {R : List Int} {G S : List (Int × Int)} {V : Int} : LegalP single R G S V ↔ LegalP single R G (turned R G S) V :=
  ⟨turned_legal, fun h => by have := turned_legal h; rw [turned_twice] at this; exact this⟩

/-! ### FitFewer -/
theorem rowLegal_false {n : Int} {L : List (Int × Int)} (hs : ∀ x ∈ L, 1 ≤ x.1) (hx : ∀ x ∈ L, 0 ≤ x.2) : RowLegal false n L ↔ L.Pairwise Apart := by
  have hch : ∀ (K : List (Int × Int)) (a : Int), (∀ x ∈ K, a ≤ x.2) → K.Pairwise (fun x y => x.2 + x.1 ≤ y.2) → (chain false a K).isSome = true := by
    intro K
    induction K with
    | nil => intro a _ _; rfl
    | cons x K ih =>
      intro a h1 h2
      rw [List.pairwise_cons] at h2
      have := h1 x (by simp)
      rw [chain, if_neg (by simp; omega)]
      exact ih _ (fun y hy => h2.1 y hy) h2.2
  have hcb : ∀ (K : List (Int × Int)) (a e : Int), (∀ x ∈ K, 1 ≤ x.1) → chain false a K = some e → K.Pairwise (fun x y => x.2 + x.1 ≤ y.2) := by
    intro K
    induction K with
    | nil => intro _ _ _ _; exact List.Pairwise.nil
    | cons x K ih =>
      intro a e hs h
      rw [chain] at h
      split at h
      · simp at h
      · have := chain_lt false K _ e (fun y hy => hs y (by simp [hy])) h
        exact List.Pairwise.cons this.1 (ih _ e (fun y hy => hs y (by simp [hy])) h)
  constructor
  · rintro ⟨L', hp, hq, ho⟩
    unfold rowOk at ho
    cases hc : chain false 0 L' with
    | none => rw [hc] at ho; simp at ho
    | some e =>
      have := hcb L' 0 e (fun x hx => hs x (hp.mem_iff.mp hx)) hc
      exact (hp.pairwise_iff (fun {a b} h => by unfold Apart at *; omega)).mp (List.Pairwise.imp (fun h => Or.inl h) this)
  · intro h
    obtain ⟨L', hp, hq⟩ := exists_sorted L
    have hm : ∀ x, x ∈ L' → x ∈ L := fun x => hp.mem_iff.mp
    have ha : L'.Pairwise Apart := (hp.pairwise_iff (fun {a b} h => by unfold Apart at *; omega)).mpr h
    have hc := hch L' 0 (fun x h => hx x (hm x h)) (pairwise_both hq ha (fun x h => hs x (hm x h)))
    refine ⟨L', hp, hq, ?_⟩
    unfold rowOk
    cases hcc : chain false 0 L' with
    | none => rw [hcc] at hc; simp at hc
    | some e => rfl

theorem set_at (S : List (Int × Int)) (i k : Nat) (x : Int × Int) (h : i < S.length) : gs (S.set i x) k = (if i = k then x.1 else gs S k) ∧ gv (S.set i x) k = (if i = k then x.2 else gv S k) := by
  unfold gs gv
  simp only [List.getD_eq_getElem?_getD, List.getElem?_set, h, if_true]
  constructor <;> split <;> rfl

theorem rowL_set (G S : List (Int × Int)) (i r : Nat) (h : i < S.length) : ∀ n, List.Sublist (rowL G (S.set i (-1, 0)) r n) (rowL G S r n) := by
  intro n
  induction n with
  | zero => exact List.Sublist.refl _
  | succ n ih =>
    have e := set_at S i n (-1, 0) h
    rw [rowL, rowL, e.1, e.2]
    by_cases hi : i = n
    · rw [if_pos hi, if_pos hi, if_neg (by dsimp only; omega)]
      split
      · exact ih.trans (List.sublist_append_left _ _)
      · exact ih
    · rw [if_neg hi, if_neg hi]
      split
      · exact List.Sublist.append ih (List.Sublist.refl _)
      · exact ih

theorem legal_rows {R : List Int} {G S : List (Int × Int)} (hg : ∀ k, k < G.length → 1 ≤ gs G k) (hs : ∀ k, k < G.length → SpotOk R G S k) (r : Nat) : ∀ x ∈ rowL G S r G.length, 1 ≤ x.1 ∧ 0 ≤ x.2 := by
  intro x hx
  obtain ⟨k, hk, e, rfl⟩ := rowL_mem G S r _ x hx
  refine ⟨hg k hk, ?_⟩
  dsimp only
  rcases hs k hk with a | b
  · omega
  · unfold badSpot at b; omega

theorem fewer_legal {R : List Int} {G S : List (Int × Int)} {V : Int} (h : LegalP false R G S V) (i : Nat) (hi : i < G.length) :
    LegalP false R G (S.set i (-1, 0)) (if 0 ≤ gs S i then V - gs G i * gv G i else V) := by
  obtain ⟨hv, hl, hs, hrow, hval⟩ := (legal_iff ..).mp h
  have hp := validS_parts hv
  have hg : ∀ k, k < G.length → 1 ≤ gs G k := fun k hk => (hp.2.2 k hk).1.1
  have hset := fun k => set_at S i k (-1, 0) (by omega : i < S.length)
  have hs' : ∀ k, k < G.length → SpotOk R G (S.set i (-1, 0)) k := fun k hk => by
    unfold SpotOk
    rw [(hset k).1, (hset k).2]
    by_cases e : i = k
    · rw [if_pos e, if_pos e]; exact Or.inl ⟨rfl, rfl⟩
    · rw [if_neg e, if_neg e]; exact hs k hk
  refine (legal_iff ..).mpr ⟨hv, by rw [List.length_set]; exact hl, hs', fun r hr => ?_, ?_⟩
  · have h1 := legal_rows hg hs r
    have h2 := legal_rows hg hs' r
    rw [rowLegal_false (fun x hx => (h2 x hx).1) (fun x hx => (h2 x hx).2)]
    have := (rowLegal_false (n := ix R r) (fun x hx => (h1 x hx).1) (fun x hx => (h1 x hx).2)).mp (hrow r hr)
    exact this.sublist (rowL_set G S i r (by omega) G.length)
  · rw [← hval, amtV_amt, amtV_amt]
    have e : amt (fun x => taken G S x * gv G x.toNat) (idx G.length) = amt (fun x => taken G (S.set i (-1, 0)) x * gv G x.toNat + (if x = (i : Int) then taken G S x * gv G x.toNat else 0)) (idx G.length) := by
      refine amt_congr _ _ _ (fun x hx => ?_)
      have := (mem_idx _ _).mp hx
      have e1 : taken G (S.set i (-1, 0)) x = if i = x.toNat then 0 else taken G S x := by
        unfold taken
        rw [(hset x.toNat).1]
        by_cases e : i = x.toNat
        · rw [if_pos e, if_pos e, if_pos rfl]
        · rw [if_neg e, if_neg e]
      rw [e1]
      by_cases e : x = (i : Int)
      · rw [if_pos e, if_pos (by omega)]; omega
      · rw [if_neg e, if_neg (by omega)]; omega
    rw [e, amt_add, amt_point (fun x => taken G S x * gv G x.toNat) (i : Int) _ (by omega) (by omega), Int.toNat_natCast]
    have ht : taken G S (i : Int) = if 0 ≤ gs S i then gs G i else 0 := by
      unfold taken
      rw [Int.toNat_natCast]
      rcases hs i hi with a | b
      · rw [if_pos a.1, if_neg (by omega)]
      · unfold badSpot at b; rw [if_neg (by omega), if_pos (by omega)]
    rw [ht]
    split <;> omega

theorem fill_mono (G : List (Int × Int)) : ∀ (O : List Int) (N d : Int), 0 ≤ N → 0 ≤ d → (∀ x ∈ O, 0 ≤ gs G x.toNat ∧ 0 ≤ gv G x.toNat) → fillS G (fun _ => false) N O ≤ fillS G (fun _ => false) (N + d) O := by
  intro O
  induction O with
  | nil => intro N d _ _ _; exact Int.le_refl _
  | cons x O ih =>
    intro N d hN hd hx
    obtain ⟨h1, h2⟩ := hx x (by simp)
    simp only [fillS, Bool.false_eq_true, if_false]
    generalize gs G x.toNat = s at *
    generalize gv G x.toNat = u at *
    have i := ih (N - min s N) (N + d - min s (N + d) - (N - min s N)) (by omega) (by omega) (fun y hy => hx y (by simp [hy]))
    rw [show N - min s N + (N + d - min s (N + d) - (N - min s N)) = N + d - min s (N + d) from by omega] at i
    have m : min s N * u ≤ min s (N + d) * u := Int.mul_le_mul_of_nonneg_right (by omega) h2
    omega

theorem bound_mono {R R' : List Int} {G : List (Int × Int)} (hv : validS R G = true) (hv' : validS R' G = true) (h : R.sum ≤ R'.sum) : boundS R G ≤ boundS R' G := by
  have hp := validS_parts hv
  have h0 := runsOk_sum R 4000 (by omega) hp.1
  unfold boundS
  rw [if_pos hv, if_pos hv']
  have := fill_mono G (rankedL G) R.sum (R'.sum - R.sum) h0.1 (by omega) (fun x hx => by
    have := (mem_idx _ _).mp ((rankedL_ok G).1.mem_iff.mp hx)
    have := hp.2.2 x.toNat (by omega)
    omega)
  rw [show R.sum + (R'.sum - R.sum) = R'.sum from by omega] at this
  exact this

/-- A packing stays permitted where the runs are at least as many and as long. -/
theorem more_legal {R R' : List Int} {G S : List (Int × Int)} {V : Int} (h : LegalP false R G S V) (hv' : validS R' G = true) (hl : R.length ≤ R'.length) (hr : ∀ k, k < R.length → ix R k ≤ ix R' k) : LegalP false R' G S V := by
  obtain ⟨hv, hl', hs, hrow, hval⟩ := (legal_iff ..).mp h
  have hp := validS_parts hv
  have hg : ∀ k, k < G.length → 1 ≤ gs G k := fun k hk => (hp.2.2 k hk).1.1
  have hs' : ∀ k, k < G.length → SpotOk R' G S k := fun k hk => by
    rcases hs k hk with a | b
    · exact Or.inl a
    · right
      unfold badSpot at b ⊢
      have := hr (gs S k).toNat (by omega)
      omega
  refine (legal_iff ..).mpr ⟨hv', hl', hs', fun r hr' => ?_, hval⟩
  have h2 := legal_rows hg hs r
  rw [rowLegal_false (fun x hx => (h2 x hx).1) (fun x hx => (h2 x hx).2)]
  by_cases hlt : r < R.length
  · exact (rowLegal_false (n := ix R r) (fun x hx => (h2 x hx).1) (fun x hx => (h2 x hx).2)).mp (hrow r hlt)
  · have : rowL G S r G.length = [] := by
      cases hL : rowL G S r G.length with
      | nil => rfl
      | cons x K =>
        exfalso
        obtain ⟨k, hk, e, _⟩ := rowL_mem G S r _ x (by rw [hL]; simp)
        rcases hs k hk with a | b
        · omega
        · unfold badSpot at b; omega
    rw [this]; exact List.Pairwise.nil

/-! ### FitSums -/
/-- All groups one after the other, from the beginning of the run 0 on. -/
def lineS (G : List (Int × Int)) (n : Nat) : List (Int × Int) := (List.range n).map fun k => ((0 : Int), sumRows (gs G) k)

def lineFits (single : Bool) (R : List Int) (G : List (Int × Int)) : Prop := sumRows (gs G) G.length ≤ ix R 0 ∧ (single = true → sumRows (gs G) G.length = 0 ∨ ix R 0 - sumRows (gs G) G.length ≠ 1)

theorem sumRows_mono (f : Nat → Int) : ∀ n, (∀ k, k < n → 0 ≤ f k) → ∀ k, k ≤ n → sumRows f k ≤ sumRows f n := by
  intro n
  induction n with
  | zero => intro _ k hk; rw [show k = 0 from by omega]; exact Int.le_refl _
  | succ n ih =>
    intro h k hk
    by_cases e : k = n + 1
    · rw [e]; exact Int.le_refl _
    · rw [sumRows]; have := ih (fun j hj => h j (by omega)) k (by omega); have := h n (by omega); omega

theorem zero_rows (G S : List (Int × Int)) : ∀ n, (∀ k, k < n → gs S k = 0) → rowSum (rowL G S 0 n) = sumRows (gs G) n ∧ (rowL G S 0 n).length = n := by
  intro n
  induction n with
  | zero => intro _; exact ⟨rfl, rfl⟩
  | succ n ih =>
    intro h
    obtain ⟨i1, i2⟩ := ih fun k hk => h k (by omega)
    rw [rowL, if_pos (by rw [h n (by omega)]; rfl), rowSum_append, sumRows, i1]
    exact ⟨by simp [rowSum], by simp [i2]⟩

theorem sums_only {single : Bool} {R : List Int} {G S : List (Int × Int)} {V : Int} (h1 : R.length = 1) (h : LegalP single R G S V) (h0 : ∀ k, k < G.length → gs S k = 0) : lineFits single R G := by
  obtain ⟨hv, hl, hs, hrow, hval⟩ := (legal_iff ..).mp h
  have hp := validS_parts hv
  have hrs := (runsOk_sum R 4000 (by omega) hp.1).2.2 0 (by omega)
  obtain ⟨e1, e2⟩ := zero_rows G S G.length h0
  have hsz : ∀ x ∈ rowL G S 0 G.length, 1 ≤ x.1 := fun x hx => by
    obtain ⟨k, hk, e, rfl⟩ := rowL_mem G S 0 _ x hx
    exact (hp.2.2 k hk).1.1
  have hin : ∀ x ∈ rowL G S 0 G.length, x.2 + x.1 ≤ ix R 0 := fun x hx => by
    obtain ⟨k, hk, e, rfl⟩ := rowL_mem G S 0 _ x hx
    dsimp only
    rcases hs k hk with a | b
    · omega
    · unfold badSpot at b
      rw [show (gs S k).toNat = 0 from by omega] at b
      omega
  have hr0 := hrow 0 (by omega)
  refine ⟨by rw [← e1]; exact rowLegal_sum (by omega) hin hr0, fun hsg => ?_⟩
  subst hsg
  by_cases hm : G.length = 0
  · left; rw [hm]; rfl
  · right
    have := not_one hsz hin (by omega) (fun h => by rw [h] at e2; simp at e2; omega) hr0
    rw [e1] at this
    omega

theorem sums_line {single : Bool} {R : List Int} {G : List (Int × Int)} (hv : validS R G = true) (h1 : R.length = 1) (hf : lineFits single R G) :
    LegalP single R G (lineS G G.length) (sumRows (fun k => gs G k * gv G k) G.length) := by
  have hp := validS_parts hv
  have hrs := (runsOk_sum R 4000 (by omega) hp.1).2.2 0 (by omega)
  have hat : ∀ k, k < G.length → gs (lineS G G.length) k = 0 ∧ gv (lineS G G.length) k = sumRows (gs G) k := fun k hk => spots_get _ _ k hk
  have hsz : ∀ k, k < G.length → 1 ≤ gs G k := fun k hk => (hp.2.2 k hk).1.1
  have hend : ∀ k, k < G.length → 0 ≤ sumRows (gs G) k ∧ sumRows (gs G) k + gs G k ≤ sumRows (gs G) G.length := fun k hk => by
    have a := sumRows_mono (gs G) G.length (fun j hj => by have := hsz j hj; omega) (k + 1) (by omega)
    have b := sumRows_mono (gs G) k (fun j hj => by have := hsz j (by omega); omega) 0 (by omega)
    rw [sumRows] at a
    have b0 : sumRows (gs G) 0 = 0 := rfl
    omega
  refine (legal_iff ..).mpr ⟨hv, by simp [lineS], fun k hk => ?_, fun r hr => ?_, ?_⟩
  · right
    have := hat k hk
    have := hend k hk
    have := hf.1
    unfold badSpot
    rw [(hat k hk).1, (hat k hk).2]
    simp only [Int.toNat_zero]
    omega
  · obtain rfl : r = 0 := by omega
    refine rowLegal_nogap (E := sumRows (gs G) G.length) (fun x hx => ?_) (rowL_apart G _ 0 _ (fun i j hij hj _ _ => ?_)) (fun x hx => ?_) ?_ ?_ (fun hs => ?_)
    · obtain ⟨k, hk, e, rfl⟩ := rowL_mem G _ 0 _ x hx
      exact hsz k hk
    · left
      rw [(hat i (by omega)).2, (hat j hj).2]
      have a := sumRows_mono (gs G) j (fun k hk => by have := hsz k (by omega); omega) (i + 1) (by omega)
      rw [sumRows] at a
      omega
    · obtain ⟨k, hk, e, rfl⟩ := rowL_mem G _ 0 _ x hx
      dsimp only
      rw [(hat k hk).2]
      exact hend k hk
    · have b := sumRows_mono (gs G) G.length (fun j hj => by have := hsz j hj; omega) 0 (by omega)
      have b0 : sumRows (gs G) 0 = 0 := rfl
      omega
    · exact (zero_rows G _ _ (fun k hk => (hat k hk).1)).1
    · have := hf.2 hs; omega
  · have : ∀ n, n ≤ G.length → amtV G (taken G (lineS G G.length)) (idx n) = sumRows (fun k => gs G k * gv G k) n := by
      intro n
      induction n with
      | zero => intro _; rfl
      | succ n ih =>
        intro hn
        rw [idx_succ, amtV_append, ih (by omega), sumRows]
        simp only [amtV, taken, Int.toNat_natCast, (hat n (by omega)).1]
        rw [if_neg (by omega)]
        omega
    exact this _ (Nat.le_refl _)
end Go.Proofs.Ytaomlhhlefpdeaa
