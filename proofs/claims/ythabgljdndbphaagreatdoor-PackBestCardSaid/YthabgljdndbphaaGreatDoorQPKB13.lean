/- What fit.Legal asks, said group by group; and no permitted packing brings more than the bound. -/
import Derived.Test.YthabgljdndbphaaGreatDoorQPKB10

set_option linter.unusedVariables false
set_option linter.unusedSimpArgs false
namespace Go.Proofs.YthabgljdndbphaaGreatDoor
open Go.RowKit

/-! ### What a choice of amounts brings -/
def amt (a : Int → Int) : List Int → Int
 | [] => 0
 | x :: O => a x + amt a O

def amtV (G : List (Int × Int)) (a : Int → Int) : List Int → Int
 | [] => 0
 | x :: O => a x * gv G x.toNat + amtV G a O

theorem amt_append (a : Int → Int) (A B : List Int) : amt a (A ++ B) = amt a A + amt a B := by
 induction A with
 | nil => simp [amt]
 | cons x A ih => rw [List.cons_append, amt, amt, ih]; omega

theorem amtV_append (G : List (Int × Int)) (a : Int → Int) (A B : List Int) : amtV G a (A ++ B) = amtV G a A + amtV G a B := by
 induction A with
 | nil => simp [amtV]
 | cons x A ih => rw [List.cons_append, amtV, amtV, ih]; omega



theorem amt_nonneg (a : Int → Int) : ∀ (O : List Int), (∀ x ∈ O, 0 ≤ a x) → 0 ≤ amt a O := by
 intro O
 induction O with
 | nil => intro _; simp [amt]
 | cons x O ih => intro h; rw [amt]; have := h x (by simp); have := ih (fun y hy => h y (by simp [hy])); omega



/-! ### The rows, group by group -/
/-- What sits in a run, of the first groups, in their order. -/
def rowL (G S : List (Int × Int)) (r : Nat) : Nat → List (Int × Int)
 | 0 => []
 | i + 1 => if gs S i = (r : Int) then rowL G S r i ++ [(gs G i, gv S i)] else rowL G S r i

/-- A spot is not taken, or it is a place of its run. -/
def SpotOk (R : List Int) (G S : List (Int × Int)) (i : Nat) : Prop := (gs S i = -1 ∧ gv S i = 0) ∨ ¬ badSpot R (gs G i) (gs S i) (gv S i)

/-- The places that a group takes. -/
def taken (G S : List (Int × Int)) (x : Int) : Int := if gs S x.toNat = -1 then 0 else gs G x.toNat

theorem idx_succ (n : Nat) : idx (n + 1) = idx n ++ [(n : Int)] := by simp [idx, List.range_succ]

theorem placed_ok (R : List Int) (G S : List (Int × Int)) : ∀ i, (∀ k, k < i → SpotOk R G S k) → ∃ q, placed R G S i = some q ∧ (∀ r, r < R.length → qx q.1 r = rowL G S r i) ∧ q.2 = amtV G (taken G S) (idx i) := by
 intro i
 induction i with
 | zero =>
  intro _
  refine ⟨_, rfl, fun r hr => ?_, rfl⟩
  simp [qx, List.getD, hr, rowL]
 | succ i ih =>
  intro h
  obtain ⟨q, hq, h1, h2⟩ := ih fun k hk => h k (by omega)
  have hl := placed_length R G S i q hq
  rw [placed, hq, Option.bind_some, idx_succ, amtV_append]
  have hone : amtV G (taken G S) [(i : Int)] = (if gs S i = -1 then 0 else gs G i) * gv G i := by
   rw [amtV, amtV, taken, Int.toNat_natCast]; omega
  rw [hone]
  rcases h i (by omega) with hs | hb
  ·
   rw [if_pos hs]
   refine ⟨q, rfl, fun r hr => ?_, ?_⟩
   ·
    rw [rowL, if_neg (by omega)]; exact h1 r hr
   ·
    rw [if_pos hs.1, h2]; omega
  ·
   unfold badSpot at hb
   rw [if_neg (by omega), if_neg (by unfold badSpot; exact hb)]
   refine ⟨_, rfl, fun r hr => ?_, ?_⟩
   ·
    dsimp only
    rw [qx_set _ _ _ _ (by rw [hl]; omega), rowL]
    by_cases e : gs S i = (r : Int)
    ·
     rw [if_pos (by omega), if_pos e, show (gs S i).toNat = r from by omega, h1 r hr]
    ·
     rw [if_neg (by omega), if_neg e]; exact h1 r hr
   ·
    dsimp only
    rw [if_neg (by omega), h2]

theorem placed_spot (R : List Int) (G S : List (Int × Int)) : ∀ i q, placed R G S i = some q → ∀ k, k < i → SpotOk R G S k := by
 intro i
 induction i with
 | zero => intro _ _ k hk; omega
 | succ i ih =>
  intro q h k hk
  rw [placed] at h
  cases hp : placed R G S i with
  | none => rw [hp] at h; simp at h
  | some p =>
   rw [hp, Option.bind_some] at h
   by_cases hki : k = i
   ·
    subst hki
    unfold SpotOk
    split at h
    ·
     rename_i hs; exact Or.inl hs
    ·
     split at h
     ·
      simp at h
     ·
      rename_i hb; exact Or.inr hb
   ·
    exact ih p hp k (by omega)

/-- fit.Legal, group by group. -/
theorem legal_iff (single : Bool) (R : List Int) (G S : List (Int × Int)) (V : Int) : LegalP single R G S V ↔ validS R G = true ∧ S.length = G.length ∧ (∀ k, k < G.length → SpotOk R G S k) ∧
  (∀ r, r < R.length → RowLegal single (ix R r) (rowL G S r G.length)) ∧ amtV G (taken G S) (idx G.length) = V := by
 constructor
 ·
  rintro ⟨h1, h2, q, h3, h4, h5⟩
  rw [h2] at h3
  have hs := placed_spot R G S _ q h3
  obtain ⟨q', e1, e2, e3⟩ := placed_ok R G S _ hs
  rw [h3] at e1
  obtain rfl : q = q' := by simpa using e1
  exact ⟨h1, h2, hs, fun r hr => by rw [← e2 r hr]; exact h4 r hr, by rw [← e3]; exact h5⟩
 ·
  rintro ⟨h1, h2, h3, h4, h5⟩
  obtain ⟨q, e1, e2, e3⟩ := placed_ok R G S _ h3
  exact ⟨h1, h2, q, by rw [h2]; exact e1, fun r hr => by rw [e2 r hr]; exact h4 r hr, by rw [e3]; exact h5⟩

/-! ### No more than the bound -/
def rowSum : List (Int × Int) → Int
 | [] => 0
 | x :: L => x.1 + rowSum L

theorem rowSum_append (A B : List (Int × Int)) : rowSum (A ++ B) = rowSum A + rowSum B := by
 induction A with
 | nil => simp [rowSum]
 | cons x A ih => rw [List.cons_append, rowSum, rowSum, ih]; omega

theorem rowSum_perm {A B : List (Int × Int)} (h : A.Perm B) : rowSum A = rowSum B := by
 induction h with
 | nil => rfl
 | cons x _ ih => rw [rowSum, rowSum, ih]
 | swap x y l => rw [rowSum, rowSum, rowSum, rowSum]; omega
 | trans _ _ h1 h2 => rw [h1, h2]

theorem chain_end (single : Bool) (n : Int) : ∀ (L : List (Int × Int)) (a e : Int), (∀ x ∈ L, x.2 + x.1 ≤ n) → a ≤ n → chain single a L = some e → a + rowSum L ≤ e ∧ e ≤ n := by
 intro L
 induction L with
 | nil => intro a e _ ha h; simp [chain] at h; simp [rowSum]; omega
 | cons x L ih =>
  intro a e hx ha h
  rw [chain] at h
  split at h
  ·
   simp at h
  ·
   have h1 := hx x (by simp)
   have := ih _ e (fun y hy => hx y (by simp [hy])) h1 h
   rw [rowSum]; omega

theorem rowLegal_sum {single : Bool} {n : Int} {L : List (Int × Int)} (hn : 0 ≤ n) (hx : ∀ x ∈ L, x.2 + x.1 ≤ n) (h : RowLegal single n L) : rowSum L ≤ n := by
 obtain ⟨L', hp, _, ho⟩ := h
 unfold rowOk at ho
 cases hc : chain single 0 L' with
 | none => rw [hc] at ho; simp at ho
 | some e =>
  have := chain_end single n L' 0 e (fun x hx' => hx x (hp.mem_iff.mp hx')) hn hc
  rw [rowSum_perm hp] at this
  omega

/-- The sums of the rows 0 .. n-1. -/
def sumRows (f : Nat → Int) : Nat → Int
 | 0 => 0
 | n + 1 => sumRows f n + f n

theorem sumRows_congr (f g : Nat → Int) : ∀ n, (∀ k, k < n → f k = g k) → sumRows f n = sumRows g n := by
 intro n
 induction n with
 | zero => intro _; rfl
 | succ n ih => intro h; rw [sumRows, sumRows, ih (fun k hk => h k (by omega)), h n (by omega)]






theorem rowL_mem (G S : List (Int × Int)) (r : Nat) : ∀ n x, x ∈ rowL G S r n → ∃ k, k < n ∧ gs S k = (r : Int) ∧ x = (gs G k, gv S k) := by
 intro n
 induction n with
 | zero => intro x hx; simp [rowL] at hx
 | succ n ih =>
  intro x hx
  rw [rowL] at hx
  split at hx
  ·
   rename_i e
   rcases List.mem_append.mp hx with hx | hx
   ·
    obtain ⟨k, a, b⟩ := ih x hx; exact ⟨k, by omega, b⟩
   ·
    exact ⟨n, by omega, e, by simpa using hx⟩
  ·
   obtain ⟨k, a, b⟩ := ih x hx; exact ⟨k, by omega, b⟩

end Go.Proofs.YthabgljdndbphaaGreatDoor
