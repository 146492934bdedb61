/- pack: plain: what a problem is worth does not depend on the order of its runs; foyerref22.bound and Bound; FitExact, plain: the steps of Prove are right where no permitted packing brings more. -/
import Derived.Test.YthabgljdndbphaaGreatDoorQPKM09
import Derived.Test.YthabgljdndbphaaGreatDoorQPKM17

set_option linter.unusedVariables false
set_option linter.unusedSimpArgs false
namespace Go.Proofs.YthabgljdndbphaaGreatDoor
set_option linter.unusedSimpArgs false
set_option linter.unusedVariables false

theorem cons_erase_perm {α : Type} : ∀ (X : List α) (i : Nat) (h : i < X.length), (X[i] :: X.eraseIdx i).Perm X
 | a :: X, 0, _ => List.Perm.refl _
 | a :: X, i + 1, h => by
  rw [List.eraseIdx_cons_succ, List.getElem_cons_succ]
  exact (List.Perm.swap ..).trans ((cons_erase_perm X i (by simpa using h)).cons a)
/-- The greatest value of the groups from g on, for runs with their rooms and whether somebody sits there. -/
def packF (single : Bool) (G : List (Int × Int)) (k g : Nat) (L : List (Int × Bool)) : Int := bestF single G k g (L.map (·.1)) (L.map (·.2))
/-- The runs when a group of a size sits down. -/
def sitF (L : List (Int × Bool)) (i : Nat) (s : Int) : List (Int × Bool) := L.set i ((L.getD i (0, false)).1 - s, true)

theorem sit_perm {L M : List (Int × Bool)} (h : L.Perm M) {q : Nat} (hq : q < L.length) (s : Int) : ∃ q', ∃ hq' : q' < M.length, M[q'] = L[q] ∧ (sitF L q s).Perm (sitF M q' s) := by
 have hm : L[q] ∈ M := h.subset (List.getElem_mem hq)
 obtain ⟨q', hq', e⟩ := List.mem_iff_getElem.1 hm
 refine ⟨q', hq', e, ?_⟩
 have h1 : (L[q] :: L.eraseIdx q).Perm L := cons_erase_perm L q hq
 have h2 : (M[q'] :: M.eraseIdx q').Perm M := cons_erase_perm M q' hq'
 have h3 : (L.eraseIdx q).Perm (M.eraseIdx q') := by
  have := h1.trans (h.trans h2.symm)
  rw [e] at this
  exact this.cons_inv
 have h4 : ∀ (X : List (Int × Bool)) (i : Nat) (hi : i < X.length) (x : Int × Bool), (X.set i x).Perm (x :: X.eraseIdx i) := fun X i hi x => by
  have := cons_erase_perm (X.set i x) i (by simpa using hi)
  rw [List.getElem_set_self, List.eraseIdx_set_eq] at this
  exact this.symm
 unfold sitF
 have g1 : L.getD q (0, false) = L[q] := by simp [hq]
 have g2 : M.getD q' (0, false) = L[q] := by simp [hq', e]
 rw [g1, g2]
 exact (h4 L q hq _).trans ((h3.cons _).trans (h4 M q' hq' _).symm)

theorem sit_maps (L : List (Int × Bool)) {q : Nat} (hq : q < L.length) (s : Int) : (sitF L q s).map (·.1) = (L.map (·.1)).set q (ix (L.map (·.1)) q - s) ∧ (sitF L q s).map (·.2) = (L.map (·.2)).set q true := by
 unfold sitF ix
 simp [List.map_set, hq]

/-- What the loop over the runs gives is the greatest of what is there and what each run brings. -/
theorem pkLoop_out (go : List Int → List Bool → Int) (s v : Int) (left : List Int) (used : List Bool) (out : Int) : ∀ r, out ≤ bestLoop go s v left used out r
 | 0 => Int.le_refl _
 | r + 1 => by
  have := pkLoop_out go s v left used out r
  rw [bestLoop]
  split
  ·
   exact this
  ·
   split
   ·
    omega
   ·
    exact this
theorem pkLoop_each (go : List Int → List Bool → Int) (s v : Int) (left : List Int) (used : List Bool) (out : Int) : ∀ r q, q < r → s ≤ ix left q → 0 ≤ go (left.set q (ix left q - s)) (used.set q true) → go (left.set q (ix left q - s)) (used.set q true) + s * v ≤ bestLoop go s v left used out r
 | 0, q, h, _, _ => absurd h (Nat.not_lt_zero _)
 | r + 1, q, h, hs, h0 => by
  rw [bestLoop]
  by_cases e : q = r
  ·
   subst e
   rw [if_neg (by omega), if_pos h0]
   omega
  ·
   have := pkLoop_each go s v left used out r q (by omega) hs h0
   split
   ·
    exact this
   ·
    split
    ·
     omega
    ·
     exact this
theorem pkLoop_one (go : List Int → List Bool → Int) (s v : Int) (left : List Int) (used : List Bool) (out : Int) : ∀ r, bestLoop go s v left used out r = out ∨ ∃ q, q < r ∧ s ≤ ix left q ∧ 0 ≤ go (left.set q (ix left q - s)) (used.set q true) ∧ bestLoop go s v left used out r = go (left.set q (ix left q - s)) (used.set q true) + s * v
 | 0 => Or.inl rfl
 | r + 1 => by
  have ih := pkLoop_one go s v left used out r
  have hup : (bestLoop go s v left used out r = out ∨ ∃ q, q < r ∧ s ≤ ix left q ∧ 0 ≤ go (left.set q (ix left q - s)) (used.set q true) ∧ bestLoop go s v left used out r = go (left.set q (ix left q - s)) (used.set q true) + s * v) →
    (bestLoop go s v left used out r = out ∨ ∃ q, q < r + 1 ∧ s ≤ ix left q ∧ 0 ≤ go (left.set q (ix left q - s)) (used.set q true) ∧ bestLoop go s v left used out r = go (left.set q (ix left q - s)) (used.set q true) + s * v) := by
   rintro (h | ⟨q, h1, h2, h3, h4⟩)
   ·
    exact Or.inl h
   ·
    exact Or.inr ⟨q, by omega, h2, h3, h4⟩
  rw [bestLoop]
  split
  ·
   exact hup ih
  ·
   split
   ·
    rename_i h1 h2
    by_cases e : bestLoop go s v left used out r ≤ go (left.set r (ix left r - s)) (used.set r true) + s * v
    ·
     rw [Int.max_eq_right e]
     exact Or.inr ⟨r, by omega, by omega, h2, rfl⟩
    ·
     rw [Int.max_eq_left (by omega)]
     exact hup ih
   ·
    exact hup ih

theorem packF_zero (single : Bool) (G : List (Int × Int)) (g : Nat) (L : List (Int × Bool)) : packF single G 0 g L = if single = true ∧ ∃ r ∈ L, r.2 = true ∧ r.1 = 1 then -1 else 0 := by
 unfold packF
 rw [bestF]
 congr 1
 apply propext
 constructor
 ·
  rintro ⟨hs, r, hr, ho⟩
  have hr' : r < L.length := by simpa using hr
  refine ⟨hs, L[r], List.getElem_mem hr', ?_⟩
  unfold oneLeft bx ix at ho
  simpa [hr'] using ho
 ·
  rintro ⟨hs, x, hx, h1, h2⟩
  obtain ⟨r, hr, rfl⟩ := List.mem_iff_getElem.1 hx
  refine ⟨hs, r, by simpa using hr, ?_⟩
  unfold oneLeft bx ix
  simp [hr, h1, h2]

/-- .. in turn: the group sits nowhere, or in a run. -/
theorem packF_spec (single : Bool) (G : List (Int × Int)) (k g : Nat) (L : List (Int × Bool)) :
  packF single G k (g + 1) L ≤ packF single G (k + 1) g L ∧
  (∀ q (hq : q < L.length), gs G g ≤ L[q].1 → 0 ≤ packF single G k (g + 1) (sitF L q (gs G g)) → packF single G k (g + 1) (sitF L q (gs G g)) + gs G g * gv G g ≤ packF single G (k + 1) g L) ∧
  (packF single G (k + 1) g L = packF single G k (g + 1) L ∨ ∃ q, ∃ hq : q < L.length, gs G g ≤ L[q].1 ∧ 0 ≤ packF single G k (g + 1) (sitF L q (gs G g)) ∧ packF single G (k + 1) g L = packF single G k (g + 1) (sitF L q (gs G g)) + gs G g * gv G g) := by
 have hx : ∀ q (hq : q < L.length), ix (L.map (·.1)) q = L[q].1 := fun q hq => by unfold ix; simp [hq]
 have hg : ∀ q (hq : q < L.length), bestF single G k (g + 1) ((L.map (·.1)).set q (ix (L.map (·.1)) q - gs G g)) ((L.map (·.2)).set q true) = packF single G k (g + 1) (sitF L q (gs G g)) := fun q hq => by
  unfold packF
  rw [(sit_maps L hq _).1, (sit_maps L hq _).2]
 have he : packF single G (k + 1) g L = bestLoop (bestF single G k (g + 1)) (gs G g) (gv G g) (L.map (·.1)) (L.map (·.2)) (packF single G k (g + 1) L) L.length := by
  unfold packF
  rw [bestF, List.length_map]
 refine ⟨?_, fun q hq h1 h2 => ?_, ?_⟩
 ·
  rw [he]
  exact pkLoop_out _ _ _ _ _ _ _
 ·
  have := pkLoop_each (bestF single G k (g + 1)) (gs G g) (gv G g) (L.map (·.1)) (L.map (·.2)) (packF single G k (g + 1) L) L.length q hq (by rw [hx q hq]; exact h1) (by rw [hg q hq]; exact h2)
  rw [hg q hq] at this
  rw [he]
  exact this
 ·
  rcases pkLoop_one (bestF single G k (g + 1)) (gs G g) (gv G g) (L.map (·.1)) (L.map (·.2)) (packF single G k (g + 1) L) L.length with h | ⟨q, hq, h1, h2, h3⟩
  ·
   left
   rw [he]
   exact h
  ·
   right
   rw [hg q hq] at h2 h3
   rw [hx q hq] at h1
   exact ⟨q, hq, h1, h2, by rw [he]; exact h3⟩

/-- The order of the runs makes no difference. -/
theorem packF_perm (single : Bool) (G : List (Int × Int)) : ∀ (k g : Nat) {L M : List (Int × Bool)}, L.Perm M → packF single G k g L = packF single G k g M
 | 0, g, L, M, h => by
  rw [packF_zero, packF_zero]
  congr 1
  apply propext
  constructor
  ·
   rintro ⟨hs, r, hr, ho⟩
   exact ⟨hs, r, h.subset hr, ho⟩
  ·
   rintro ⟨hs, r, hr, ho⟩
   exact ⟨hs, r, h.symm.subset hr, ho⟩
 | k + 1, g, L, M, h => by
  have key : ∀ {L M : List (Int × Bool)}, L.Perm M → packF single G (k + 1) g L ≤ packF single G (k + 1) g M := fun {L M} h => by
   obtain ⟨_, _, h3⟩ := packF_spec single G k g L
   obtain ⟨m1, m2, _⟩ := packF_spec single G k g M
   rcases h3 with h3 | ⟨q, hq, q1, q2, q3⟩
   ·
    rw [h3, packF_perm single G k (g + 1) h]
    exact m1
   ·
    obtain ⟨q', hq', e, hp⟩ := sit_perm h hq (gs G g)
    rw [packF_perm single G k (g + 1) hp] at q2 q3
    rw [q3]
    exact m2 q' hq' (by rw [e]; exact q1) q2
  exact Int.le_antisymm (key h) (key h.symm)
/-- Two runs that are alike bring the same. -/
theorem packF_alike (single : Bool) (G : List (Int × Int)) (k g : Nat) {L : List (Int × Bool)} {p q : Nat} (hp : p < L.length) (hq : q < L.length) (e : L[p] = L[q]) (s : Int) : packF single G k g (sitF L p s) = packF single G k g (sitF L q s) := by
 refine packF_perm single G k g ?_
 have h4 : ∀ (X : List (Int × Bool)) (i : Nat) (hi : i < X.length) (x : Int × Bool), (X.set i x).Perm (x :: X.eraseIdx i) := fun X i hi x => by
  have := cons_erase_perm (X.set i x) i (by simpa using hi)
  rw [List.getElem_set_self, List.eraseIdx_set_eq] at this
  exact this.symm
 have h1 : (L[p] :: L.eraseIdx p).Perm L := cons_erase_perm L p hp
 have h2 : (L[q] :: L.eraseIdx q).Perm L := cons_erase_perm L q hq
 have h3 : (L.eraseIdx p).Perm (L.eraseIdx q) := by
  have := h1.trans h2.symm
  rw [e] at this
  exact this.cons_inv
 unfold sitF
 have g1 : L.getD p (0, false) = L[q] := by simp [hp, e]
 have g2 : L.getD q (0, false) = L[q] := by simp [hq]
 rw [g1, g2]
 exact (h4 L p hp _).trans ((h3.cons _).trans (h4 L q hq _).symm)
end Go.Proofs.YthabgljdndbphaaGreatDoor

namespace Go.Proofs.YthabgljdndbphaaGreatDoor
open Go.RowKit

theorem fillS_zero (G : List (Int × Int)) (p : Int → Bool) : ∀ (O : List Int), (∀ x ∈ O, 0 ≤ gs G x.toNat) → fillS G p 0 O = 0
 | [], _ => rfl
 | x :: O, h => by
  have h1 := fillS_zero G p O (fun y hy => h y (by simp [hy]))
  have h2 : min (gs G x.toNat) 0 = 0 := by have := h x (by simp); omega
  rw [fillS]
  split
  ·
   exact h1
  ·
   rw [h2]; simp [h1]

theorem fillS_all (G : List (Int × Int)) (p : Int → Bool) : ∀ (O : List Int) (n : Int), (∀ x ∈ O, p x = true) → fillS G p n O = 0
 | [], _, _ => rfl
 | x :: O, n, h => by rw [fillS, if_pos (h x (by simp))]; exact fillS_all G p O n (fun y hy => h y (by simp [hy]))

theorem fillS_skip (G : List (Int × Int)) (p : Int → Bool) : ∀ (A B : List Int) (n : Int), (∀ x ∈ A, p x = true) → fillS G p n (A ++ B) = fillS G p n B
 | [], _, _, _ => rfl
 | x :: A, B, n, h => by rw [List.cons_append, fillS, if_pos (h x (by simp))]; exact fillS_skip G p A B n (fun y hy => h y (by simp [hy]))

theorem fillS_congr (G : List (Int × Int)) (p q : Int → Bool) : ∀ (O : List Int) (n : Int), (∀ x ∈ O, p x = q x) → fillS G p n O = fillS G q n O
 | [], _, _ => rfl
 | x :: O, n, h => by
  have ih := fun n => fillS_congr G p q O n (fun y hy => h y (by simp [hy]))
  rw [fillS, fillS, h x (by simp), ih, ih]

theorem fillS_bounds (G : List (Int × Int)) (p : Int → Bool) : ∀ (O : List Int) (n : Int), 0 ≤ n → (∀ x ∈ O, 0 ≤ gs G x.toNat ∧ gs G x.toNat ≤ 12 ∧ 0 ≤ gv G x.toNat ∧ gv G x.toNat ≤ 1000000) → 0 ≤ fillS G p n O ∧ fillS G p n O ≤ 12000000 * O.length
 | [], _, _, _ => by simp [fillS]
 | x :: O, n, hn, h => by
  have hx := h x (by simp)
  have i1 := fillS_bounds G p O n hn (fun y hy => h y (by simp [hy]))
  have hk : 0 ≤ min (gs G x.toNat) n ∧ min (gs G x.toNat) n ≤ 12 := by omega
  have i2 := fillS_bounds G p O (n - min (gs G x.toNat) n) (by omega) (fun y hy => h y (by simp [hy]))
  have hkv : 0 ≤ min (gs G x.toNat) n * gv G x.toNat ∧ min (gs G x.toNat) n * gv G x.toNat ≤ 12000000 :=
   ⟨Int.mul_nonneg hk.1 hx.2.2.1, Int.le_trans (Int.mul_le_mul hk.2 hx.2.2.2 hx.2.2.1 (by omega)) (by omega)⟩
  rw [fillS, List.length_cons]
  split
  ·
   omega
  ·
   omega

/-- The groups whose places in a list are set. -/
def outOf (D : List Bool) (x : Int) : Bool := bx D x.toNat

theorem mem_ranked (G : List (Int × Int)) (x : Int) : x ∈ rankedL G ↔ 0 ≤ x ∧ x < G.length := by
 rw [(rankedL_ok G).1.mem_iff, mem_idx]

/-- One step of the bound: the first group that is left. -/
theorem fillS_best (G : List (Int × Int)) (D : List Bool) (n : Int) (b : Nat) (hl : D.length = G.length) (hb : b < G.length) (hd : bx D b = false) (hbest : ∀ j, j < G.length → bx D j = false → j ≠ b → byValue G b j) :
  fillS G (outOf D) n (rankedL G) = min (gs G b) n * gv G b + fillS G (outOf (D.set b true)) (n - min (gs G b) n) (rankedL G) := by
 have hm : (b : Int) ∈ rankedL G := (mem_ranked G b).2 (by omega)
 obtain ⟨A, B, hAB⟩ := List.append_of_mem hm
 have hs := (rankedL_ok G).2
 rw [hAB, List.pairwise_append, List.pairwise_cons] at hs
 have hr : ∀ x ∈ A ++ (b : Int) :: B, 0 ≤ x ∧ x < G.length := fun x hx => (mem_ranked G x).1 (by rw [hAB]; exact hx)
 have hirr : ¬ byValue G (b : Int) (b : Int) := by unfold byValue; omega
 have hA : ∀ x ∈ A, outOf D x = true := by
  intro x hx
  have h1 := hs.2.2 x hx b (by simp)
  have h2 := hr x (by simp [hx])
  obtain ⟨j, rfl⟩ : ∃ j : Nat, x = j := ⟨x.toNat, by omega⟩
  unfold outOf
  rw [Int.toNat_natCast]
  cases h3 : bx D j
  ·
   exfalso
   have hne : j ≠ b := fun e => hirr (by rw [e] at h1; exact h1)
   exact hirr (byValue_trans G _ _ _ (hbest j (by omega) h3 hne) h1)
  ·
   rfl
 have hA2 : ∀ x ∈ A, outOf (D.set b true) x = true := by
  intro x hx
  have h1 := hA x hx
  unfold outOf at *
  rw [bx_set _ _ _ _ (by omega)]
  split
  ·
   rfl
  ·
   exact h1
 have hB : ∀ x ∈ B, outOf D x = outOf (D.set b true) x := by
  intro x hx
  have h1 := hs.2.1.1 x hx
  have h2 := hr x (by simp [hx])
  unfold outOf
  rw [bx_set _ _ _ _ (by omega), if_neg]
  intro e
  obtain rfl : x = (b : Int) := by omega
  exact hirr h1
 have hob : outOf D b = false := by simp [outOf, hd]
 have hob2 : outOf (D.set b true) b = true := by simp [outOf, bx_set _ _ _ _ (show b < D.length by omega)]
 rw [hAB, fillS_skip G _ A _ _ hA, fillS_skip G _ A _ _ hA2, fillS, hob, fillS, hob2, if_neg (by simp), if_pos rfl, Int.toNat_natCast, fillS_congr G _ _ B _ hB]

/-- What the search for the best group that is left finds. -/
def BestOf (G : List (Int × Int)) (D : List Bool) (i : Nat) (best : Int) : Prop :=
 (best = -1 ∧ ∀ j, j < i → bx D j = true) ∨ ∃ b : Nat, b < i ∧ best = b ∧ bx D b = false ∧ ∀ j, j < i → bx D j = false → j ≠ b → byValue G b j

theorem BestOf.skip {G : List (Int × Int)} {D : List Bool} {i : Nat} {best : Int} (h : BestOf G D i best) (hd : bx D i = true) : BestOf G D (i + 1) best := by
 rcases h with ⟨rfl, h⟩ | ⟨b, hb, rfl, hd', h⟩
 ·
  exact .inl ⟨rfl, fun j hj => by rcases Nat.lt_succ_iff_lt_or_eq.1 hj with hj | rfl; exact h j hj; exact hd⟩
 ·
  refine .inr ⟨b, by omega, rfl, hd', fun j hj hj2 hne => ?_⟩
  rcases Nat.lt_succ_iff_lt_or_eq.1 hj with hj | rfl
  ·
   exact h j hj hj2 hne
  ·
   rw [hd] at hj2; simp at hj2

theorem BestOf.first {G : List (Int × Int)} {D : List Bool} {i : Nat} (h : BestOf G D i (-1)) (hd : bx D i = false) : BestOf G D (i + 1) i := by
 rcases h with ⟨_, h⟩ | ⟨b, hb, e, _⟩
 ·
  refine .inr ⟨i, by omega, rfl, hd, fun j hj hj2 hne => ?_⟩
  have := h j (by omega)
  rw [this] at hj2; simp at hj2
 ·
  omega

theorem BestOf.keep {G : List (Int × Int)} {D : List Bool} {i b : Nat} (h : BestOf G D i b) (hv : gv G i ≤ gv G b) (hb : b < i) : BestOf G D (i + 1) b := by
 rcases h with ⟨e, h⟩ | ⟨b', hb', e, hd', h⟩
 ·
  omega
 ·
  obtain rfl : b = b' := by omega
  refine .inr ⟨b, by omega, rfl, hd', fun j hj hj2 hne => ?_⟩
  rcases Nat.lt_succ_iff_lt_or_eq.1 hj with hj | rfl
  ·
   exact h j hj hj2 hne
  ·
   unfold byValue; simp; omega

theorem BestOf.next {G : List (Int × Int)} {D : List Bool} {i b : Nat} (h : BestOf G D i b) (hv : gv G b < gv G i) (hd : bx D i = false) : BestOf G D (i + 1) i := by
 rcases h with ⟨e, h⟩ | ⟨b', hb', e, hd', h⟩
 ·
  omega
 ·
  obtain rfl : b = b' := by omega
  refine .inr ⟨i, by omega, rfl, hd, fun j hj hj2 hne => ?_⟩
  have hj3 : j < i := by omega
  by_cases hjb : j = b
  ·
   subst hjb; unfold byValue; simp; omega
  ·
   have := h j hj3 hj2 hjb
   unfold byValue at *; simp at *; omega
end Go.Proofs.YthabgljdndbphaaGreatDoor

namespace Go.Proofs.YthabgljdndbphaaGreatDoor
open Go.RowKit



/-- The steps of one kid among all. -/
theorem prvKids_split (f : List Int → Nat → List StepT) (W : List Int) (g n base r : Nat) : ∀ N, r < N → ∃ X, (prvKids f W g n base N).1 = (prvKids f W g n base r).1 ++ f (W.set g (if r = n then -1 else (r : Int))) (base + 1 + (prvKids f W g n base r).1.length) ++ X := by
 intro N
 induction N with
 | zero => intro h; omega
 | succ N ih =>
  intro h
  rw [prvKids]
  dsimp only
  by_cases e : r = N
  ·
   subst e; exact ⟨[], by simp⟩
  ·
   obtain ⟨X, hX⟩ := ih (by omega)
   exact ⟨X ++ f (W.set g (if N = n then -1 else (N : Int))) (base + 1 + (prvKids f W g n base N).1.length), by rw [hX]; simp⟩

theorem prvKids_at (f : List Int → Nat → List StepT) (W : List Int) (g n base r : Nat) : ∀ N, r < N → (prvKids f W g n base N).2.drop r = ((base + 1 + (prvKids f W g n base r).1.length : Nat) : Int) :: (prvKids f W g n base N).2.drop (r + 1) ∧ (prvKids f W g n base N).2.length = N := by
 have hl : ∀ N, (prvKids f W g n base N).2.length = N := by
  intro N
  induction N with
  | zero => rfl
  | succ N ih => rw [prvKids]; simp [ih]
 intro N
 induction N with
 | zero => intro h; omega
 | succ N ih =>
  intro h
  refine ⟨?_, hl _⟩
  rw [prvKids]
  dsimp only
  by_cases e : r = N
  ·
   subst e
   rw [List.drop_append_of_le_length (by rw [hl]; exact Nat.le_refl _), List.drop_eq_nil_of_le (by rw [hl]; exact Nat.le_refl _), List.drop_eq_nil_of_le (by simp [hl])]
   rfl
  ·
   rw [List.drop_append_of_le_length (by rw [hl]; omega), (ih (by omega)).1, List.drop_append_of_le_length (by rw [hl]; omega)]
   rfl




section
variable {single : Bool} {R : List Int} {G : List (Int × Int)} {most : Int} {T : List StepT}

end

end Go.Proofs.YthabgljdndbphaaGreatDoor
