/- pack: plain: what a problem is worth does not depend on the order of its runs; The first place where a test holds; foyerref22.bound and Bound. -/
import Derived.Test.YthabgljdndbphaaGreatDoorQPKL00
import Derived.Test.YthabgljdndbphaaGreatDoorQPKL06
import Derived.Test.YthabgljdndbphaaGreatDoorQPKL14

set_option linter.unusedVariables false
set_option linter.unusedSimpArgs false
namespace Go.Proofs.YthabgljdndbphaaGreatDoor
set_option linter.unusedSimpArgs false
set_option linter.unusedVariables false

theorem cons_erase_perm {α : Type} : ∀ (X : List α) (i : Nat) (h : i < X.length), (X[i] :: X.eraseIdx i).Perm X
 | a :: X, 0, _ => List.Perm.refl _
 | a :: X, i + 1, h => by
  rw [List.eraseIdx_cons_succ, List.getElem_cons_succ]
  exact (List.Perm.swap ..).trans ((cons_erase_perm X i (by simpa using h)).cons a)
/-- The greatest value of the groups from g on, for runs with their rooms and whether somebody sits there. -/
def packF (single : Bool) (G : List (Int × Int)) (k g : Nat) (L : List (Int × Bool)) : Int := bestF single G k g (L.map (·.1)) (L.map (·.2))
/-- The runs when a group of a size sits down. -/
def sitF (L : List (Int × Bool)) (i : Nat) (s : Int) : List (Int × Bool) := L.set i ((L.getD i (0, false)).1 - s, true)

theorem sit_perm {L M : List (Int × Bool)} (h : L.Perm M) {q : Nat} (hq : q < L.length) (s : Int) : ∃ q', ∃ hq' : q' < M.length, M[q'] = L[q] ∧ (sitF L q s).Perm (sitF M q' s) := by
 have hm : L[q] ∈ M := h.subset (List.getElem_mem hq)
 obtain ⟨q', hq', e⟩ := List.mem_iff_getElem.1 hm
 refine ⟨q', hq', e, ?_⟩
 have h1 : (L[q] :: L.eraseIdx q).Perm L := cons_erase_perm L q hq
 have h2 : (M[q'] :: M.eraseIdx q').Perm M := cons_erase_perm M q' hq'
 have h3 : (L.eraseIdx q).Perm (M.eraseIdx q') := by
  have := h1.trans (h.trans h2.symm)
  rw [e] at this
  exact this.cons_inv
 have h4 : ∀ (X : List (Int × Bool)) (i : Nat) (hi : i < X.length) (x : Int × Bool), (X.set i x).Perm (x :: X.eraseIdx i) := fun X i hi x => by
  have := cons_erase_perm (X.set i x) i (by simpa using hi)
  rw [List.getElem_set_self, List.eraseIdx_set_eq] at this
  exact this.symm
 unfold sitF
 have g1 : L.getD q (0, false) = L[q] := by simp [hq]
 have g2 : M.getD q' (0, false) = L[q] := by simp [hq', e]
 rw [g1, g2]
 exact (h4 L q hq _).trans ((h3.cons _).trans (h4 M q' hq' _).symm)

theorem sit_maps (L : List (Int × Bool)) {q : Nat} (hq : q < L.length) (s : Int) : (sitF L q s).map (·.1) = (L.map (·.1)).set q (ix (L.map (·.1)) q - s) ∧ (sitF L q s).map (·.2) = (L.map (·.2)).set q true := by
 unfold sitF ix
 simp [List.map_set, hq]

/-- What the loop over the runs gives is the greatest of what is there and what each run brings. -/
theorem pkLoop_out (go : List Int → List Bool → Int) (s v : Int) (left : List Int) (used : List Bool) (out : Int) : ∀ r, out ≤ bestLoop go s v left used out r
 | 0 => Int.le_refl _
 | r + 1 => by
  have := pkLoop_out go s v left used out r
  rw [bestLoop]
  split
  ·
   exact this
  ·
   split
   ·
    omega
   ·
    exact this
theorem pkLoop_each (go : List Int → List Bool → Int) (s v : Int) (left : List Int) (used : List Bool) (out : Int) : ∀ r q, q < r → s ≤ ix left q → 0 ≤ go (left.set q (ix left q - s)) (used.set q true) → go (left.set q (ix left q - s)) (used.set q true) + s * v ≤ bestLoop go s v left used out r
 | 0, q, h, _, _ => absurd h (Nat.not_lt_zero _)
 | r + 1, q, h, hs, h0 => by
  rw [bestLoop]
  by_cases e : q = r
  ·
   subst e
   rw [if_neg (by omega), if_pos h0]
   omega
  ·
   have := pkLoop_each go s v left used out r q (by omega) hs h0
   split
   ·
    exact this
   ·
    split
    ·
     omega
    ·
     exact this
theorem pkLoop_one (go : List Int → List Bool → Int) (s v : Int) (left : List Int) (used : List Bool) (out : Int) : ∀ r, bestLoop go s v left used out r = out ∨ ∃ q, q < r ∧ s ≤ ix left q ∧ 0 ≤ go (left.set q (ix left q - s)) (used.set q true) ∧ bestLoop go s v left used out r = go (left.set q (ix left q - s)) (used.set q true) + s * v
 | 0 => Or.inl rfl
 | r + 1 => by
  have ih := pkLoop_one go s v left used out r
  have hup : (bestLoop go s v left used out r = out ∨ ∃ q, q < r ∧ s ≤ ix left q ∧ 0 ≤ go (left.set q (ix left q - s)) (used.set q true) ∧ bestLoop go s v left used out r = go (left.set q (ix left q - s)) (used.set q true) + s * v) →
    (bestLoop go s v left used out r = out ∨ ∃ q, q < r + 1 ∧ s ≤ ix left q ∧ 0 ≤ go (left.set q (ix left q - s)) (used.set q true) ∧ bestLoop go s v left used out r = go (left.set q (ix left q - s)) (used.set q true) + s * v) := by
   rintro (h | ⟨q, h1, h2, h3, h4⟩)
   ·
    exact Or.inl h
   ·
    exact Or.inr ⟨q, by omega, h2, h3, h4⟩
  rw [bestLoop]
  split
  ·
   exact hup ih
  ·
   split
   ·
    rename_i h1 h2
    by_cases e : bestLoop go s v left used out r ≤ go (left.set r (ix left r - s)) (used.set r true) + s * v
    ·
     rw [Int.max_eq_right e]
     exact Or.inr ⟨r, by omega, by omega, h2, rfl⟩
    ·
     rw [Int.max_eq_left (by omega)]
     exact hup ih
   ·
    exact hup ih

theorem packF_zero (single : Bool) (G : List (Int × Int)) (g : Nat) (L : List (Int × Bool)) : packF single G 0 g L = if single = true ∧ ∃ r ∈ L, r.2 = true ∧ r.1 = 1 then -1 else 0 := by
 unfold packF
 rw [bestF]
 congr 1
 apply propext
 constructor
 ·
  rintro ⟨hs, r, hr, ho⟩
  have hr' : r < L.length := by simpa using hr
  refine ⟨hs, L[r], List.getElem_mem hr', ?_⟩
  unfold oneLeft bx ix at ho
  simpa [hr'] using ho
 ·
  rintro ⟨hs, x, hx, h1, h2⟩
  obtain ⟨r, hr, rfl⟩ := List.mem_iff_getElem.1 hx
  refine ⟨hs, r, by simpa using hr, ?_⟩
  unfold oneLeft bx ix
  simp [hr, h1, h2]

/-- .. in turn: the group sits nowhere, or in a run. -/
theorem packF_spec (single : Bool) (G : List (Int × Int)) (k g : Nat) (L : List (Int × Bool)) :
  packF single G k (g + 1) L ≤ packF single G (k + 1) g L ∧
  (∀ q (hq : q < L.length), gs G g ≤ L[q].1 → 0 ≤ packF single G k (g + 1) (sitF L q (gs G g)) → packF single G k (g + 1) (sitF L q (gs G g)) + gs G g * gv G g ≤ packF single G (k + 1) g L) ∧
  (packF single G (k + 1) g L = packF single G k (g + 1) L ∨ ∃ q, ∃ hq : q < L.length, gs G g ≤ L[q].1 ∧ 0 ≤ packF single G k (g + 1) (sitF L q (gs G g)) ∧ packF single G (k + 1) g L = packF single G k (g + 1) (sitF L q (gs G g)) + gs G g * gv G g) := by
 have hx : ∀ q (hq : q < L.length), ix (L.map (·.1)) q = L[q].1 := fun q hq => by unfold ix; simp [hq]
 have hg : ∀ q (hq : q < L.length), bestF single G k (g + 1) ((L.map (·.1)).set q (ix (L.map (·.1)) q - gs G g)) ((L.map (·.2)).set q true) = packF single G k (g + 1) (sitF L q (gs G g)) := fun q hq => by
  unfold packF
  rw [(sit_maps L hq _).1, (sit_maps L hq _).2]
 have he : packF single G (k + 1) g L = bestLoop (bestF single G k (g + 1)) (gs G g) (gv G g) (L.map (·.1)) (L.map (·.2)) (packF single G k (g + 1) L) L.length := by
  unfold packF
  rw [bestF, List.length_map]
 refine ⟨?_, fun q hq h1 h2 => ?_, ?_⟩
 ·
  rw [he]
  exact pkLoop_out _ _ _ _ _ _ _
 ·
  have := pkLoop_each (bestF single G k (g + 1)) (gs G g) (gv G g) (L.map (·.1)) (L.map (·.2)) (packF single G k (g + 1) L) L.length q hq (by rw [hx q hq]; exact h1) (by rw [hg q hq]; exact h2)
  rw [hg q hq] at this
  rw [he]
  exact this
 ·
  rcases pkLoop_one (bestF single G k (g + 1)) (gs G g) (gv G g) (L.map (·.1)) (L.map (·.2)) (packF single G k (g + 1) L) L.length with h | ⟨q, hq, h1, h2, h3⟩
  ·
   left
   rw [he]
   exact h
  ·
   right
   rw [hg q hq] at h2 h3
   rw [hx q hq] at h1
   exact ⟨q, hq, h1, h2, by rw [he]; exact h3⟩

/-- The order of the runs makes no difference. -/
theorem packF_perm (single : Bool) (G : List (Int × Int)) : ∀ (k g : Nat) {L M : List (Int × Bool)}, L.Perm M → packF single G k g L = packF single G k g M
 | 0, g, L, M, h => by
  rw [packF_zero, packF_zero]
  congr 1
  apply propext
  constructor
  ·
   rintro ⟨hs, r, hr, ho⟩
   exact ⟨hs, r, h.subset hr, ho⟩
  ·
   rintro ⟨hs, r, hr, ho⟩
   exact ⟨hs, r, h.symm.subset hr, ho⟩
 | k + 1, g, L, M, h => by
  have key : ∀ {L M : List (Int × Bool)}, L.Perm M → packF single G (k + 1) g L ≤ packF single G (k + 1) g M := fun {L M} h => by
   obtain ⟨_, _, h3⟩ := packF_spec single G k g L
   obtain ⟨m1, m2, _⟩ := packF_spec single G k g M
   rcases h3 with h3 | ⟨q, hq, q1, q2, q3⟩
   ·
    rw [h3, packF_perm single G k (g + 1) h]
    exact m1
   ·
    obtain ⟨q', hq', e, hp⟩ := sit_perm h hq (gs G g)
    rw [packF_perm single G k (g + 1) hp] at q2 q3
    rw [q3]
    exact m2 q' hq' (by rw [e]; exact q1) q2
  exact Int.le_antisymm (key h) (key h.symm)
/-- Two runs that are alike bring the same. -/
theorem packF_alike (single : Bool) (G : List (Int × Int)) (k g : Nat) {L : List (Int × Bool)} {p q : Nat} (hp : p < L.length) (hq : q < L.length) (e : L[p] = L[q]) (s : Int) : packF single G k g (sitF L p s) = packF single G k g (sitF L q s) := by
 refine packF_perm single G k g ?_
 have h4 : ∀ (X : List (Int × Bool)) (i : Nat) (hi : i < X.length) (x : Int × Bool), (X.set i x).Perm (x :: X.eraseIdx i) := fun X i hi x => by
  have := cons_erase_perm (X.set i x) i (by simpa using hi)
  rw [List.getElem_set_self, List.eraseIdx_set_eq] at this
  exact this.symm
 have h1 : (L[p] :: L.eraseIdx p).Perm L := cons_erase_perm L p hp
 have h2 : (L[q] :: L.eraseIdx q).Perm L := cons_erase_perm L q hq
 have h3 : (L.eraseIdx p).Perm (L.eraseIdx q) := by
  have := h1.trans h2.symm
  rw [e] at this
  exact this.cons_inv
 unfold sitF
 have g1 : L.getD p (0, false) = L[q] := by simp [hp, e]
 have g2 : L.getD q (0, false) = L[q] := by simp [hq]
 rw [g1, g2]
 exact (h4 L p hp _).trans ((h3.cons _).trans (h4 L q hq _).symm)
end Go.Proofs.YthabgljdndbphaaGreatDoor

namespace Go.Proofs.YthabgljdndbphaaGreatDoor
set_option linter.unusedSimpArgs false
set_option linter.unusedVariables false

/-- The first place where p holds, or -1. -/
def idxS {α : Type} (p : α → Bool) (xs : List α) : Int := if xs.findIdx p < xs.length then (xs.findIdx p : Int) else -1

theorem idx_hit {α : Type} {p : α → Bool} {xs : List α} {i : Nat} (hi : i < xs.length) (h : p xs[i] = true) (hb : ∀ j (hj : j < xs.length), j < i → p xs[j] = false) : idxS p xs = i := by
 have e : xs.findIdx p = i := (List.findIdx_eq hi).2 ⟨h, fun j hj => by simpa using hb j (by omega) hj⟩
 unfold idxS
 rw [e, if_pos hi]
theorem idx_none {α : Type} {p : α → Bool} {xs : List α} (hb : ∀ j (hj : j < xs.length), p xs[j] = false) : idxS p xs = -1 := by
 unfold idxS
 rw [if_neg]
 rw [List.findIdx_lt_length]
 rintro ⟨x, hx, hp⟩
 obtain ⟨j, hj, rfl⟩ := List.getElem_of_mem hx
 rw [hb j hj] at hp
 cases hp
theorem idx_any {α : Type} (p : α → Bool) (xs : List α) : decide (0 ≤ idxS p xs) = xs.any p := by
 unfold idxS
 by_cases h : xs.findIdx p < xs.length
 ·
  rw [if_pos h]
  have := List.findIdx_lt_length.1 h
  rw [decide_eq_true (by omega)]
  exact (List.any_eq_true.2 this).symm
 ·
  rw [if_neg h]
  cases hx : xs.any p
  ·
   rfl
  ·
   exact absurd (List.findIdx_lt_length.2 (List.any_eq_true.1 hx)) h

end Go.Proofs.YthabgljdndbphaaGreatDoor

namespace Go.Proofs.YthabgljdndbphaaGreatDoor
open Go.RowKit





theorem fillS_bounds (G : List (Int × Int)) (p : Int → Bool) : ∀ (O : List Int) (n : Int), 0 ≤ n → (∀ x ∈ O, 0 ≤ gs G x.toNat ∧ gs G x.toNat ≤ 12 ∧ 0 ≤ gv G x.toNat ∧ gv G x.toNat ≤ 1000000) → 0 ≤ fillS G p n O ∧ fillS G p n O ≤ 12000000 * O.length
 | [], _, _, _ => by simp [fillS]
 | x :: O, n, hn, h => by
  have hx := h x (by simp)
  have i1 := fillS_bounds G p O n hn (fun y hy => h y (by simp [hy]))
  have hk : 0 ≤ min (gs G x.toNat) n ∧ min (gs G x.toNat) n ≤ 12 := by omega
  have i2 := fillS_bounds G p O (n - min (gs G x.toNat) n) (by omega) (fun y hy => h y (by simp [hy]))
  have hkv : 0 ≤ min (gs G x.toNat) n * gv G x.toNat ∧ min (gs G x.toNat) n * gv G x.toNat ≤ 12000000 :=
   ⟨Int.mul_nonneg hk.1 hx.2.2.1, Int.le_trans (Int.mul_le_mul hk.2 hx.2.2.2 hx.2.2.1 (by omega)) (by omega)⟩
  rw [fillS, List.length_cons]
  split
  ·
   omega
  ·
   omega


theorem mem_ranked (G : List (Int × Int)) (x : Int) : x ∈ rankedL G ↔ 0 ≤ x ∧ x < G.length := by
 rw [(rankedL_ok G).1.mem_iff, mem_idx]


/-- What the search for the best group that is left finds. -/
def BestOf (G : List (Int × Int)) (D : List Bool) (i : Nat) (best : Int) : Prop :=
 (best = -1 ∧ ∀ j, j < i → bx D j = true) ∨ ∃ b : Nat, b < i ∧ best = b ∧ bx D b = false ∧ ∀ j, j < i → bx D j = false → j ≠ b → byValue G b j

theorem BestOf.skip {G : List (Int × Int)} {D : List Bool} {i : Nat} {best : Int} (h : BestOf G D i best) (hd : bx D i = true) : BestOf G D (i + 1) best := by
 rcases h with ⟨rfl, h⟩ | ⟨b, hb, rfl, hd', h⟩
 ·
  exact .inl ⟨rfl, fun j hj => by rcases Nat.lt_succ_iff_lt_or_eq.1 hj with hj | rfl; exact h j hj; exact hd⟩
 ·
  refine .inr ⟨b, by omega, rfl, hd', fun j hj hj2 hne => ?_⟩
  rcases Nat.lt_succ_iff_lt_or_eq.1 hj with hj | rfl
  ·
   exact h j hj hj2 hne
  ·
   rw [hd] at hj2; simp at hj2

theorem BestOf.first {G : List (Int × Int)} {D : List Bool} {i : Nat} (h : BestOf G D i (-1)) (hd : bx D i = false) : BestOf G D (i + 1) i := by
 rcases h with ⟨_, h⟩ | ⟨b, hb, e, _⟩
 ·
  refine .inr ⟨i, by omega, rfl, hd, fun j hj hj2 hne => ?_⟩
  have := h j (by omega)
  rw [this] at hj2; simp at hj2
 ·
  omega

theorem BestOf.keep {G : List (Int × Int)} {D : List Bool} {i b : Nat} (h : BestOf G D i b) (hv : gv G i ≤ gv G b) (hb : b < i) : BestOf G D (i + 1) b := by
 rcases h with ⟨e, h⟩ | ⟨b', hb', e, hd', h⟩
 ·
  omega
 ·
  obtain rfl : b = b' := by omega
  refine .inr ⟨b, by omega, rfl, hd', fun j hj hj2 hne => ?_⟩
  rcases Nat.lt_succ_iff_lt_or_eq.1 hj with hj | rfl
  ·
   exact h j hj hj2 hne
  ·
   unfold byValue; simp; omega

theorem BestOf.next {G : List (Int × Int)} {D : List Bool} {i b : Nat} (h : BestOf G D i b) (hv : gv G b < gv G i) (hd : bx D i = false) : BestOf G D (i + 1) i := by
 rcases h with ⟨e, h⟩ | ⟨b', hb', e, hd', h⟩
 ·
  omega
 ·
  obtain rfl : b = b' := by omega
  refine .inr ⟨i, by omega, rfl, hd, fun j hj hj2 hne => ?_⟩
  have hj3 : j < i := by omega
  by_cases hjb : j = b
  ·
   subst hjb; unfold byValue; simp; omega
  ·
   have := h j hj3 hj2 hjb
   unfold byValue at *; simp at *; omega
end Go.Proofs.YthabgljdndbphaaGreatDoor
