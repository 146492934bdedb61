/- Greedy's packing, plain: what the seating keeps true of the runs and the spots; Greedy's packing is permitted, and has its value. -/
import Derived.Test.YthabgljdndbphaaGreatDoorQPKM10
import Derived.Test.YthabgljdndbphaaGreatDoorQPKM11

set_option linter.unusedVariables false
set_option linter.unusedSimpArgs false
namespace Go.Proofs.YthabgljdndbphaaGreatDoor
open Go.RowKit

/-- The sizes of the groups of P that sit in run r. -/
def sumOn (G S : List (Int × Int)) (r : Int) : List Int → Int
 | [] => 0
 | x :: P => (if gs S x.toNat = r then gs G x.toNat else 0) + sumOn G S r P




structure SeatInv (single : Bool) (R : List Int) (G : List (Int × Int)) (P : List Int) (st : PackSt) : Prop where
 ll : st.left.length = R.length
 sl : st.spots.length = G.length
 run : ∀ x ∈ P, gs st.spots x.toNat = -1 ∨ ∃ r : Nat, r < R.length ∧ gs st.spots x.toNat = r ∧ 0 ≤ gv st.spots x.toNat ∧ gv st.spots x.toNat + gs G x.toNat ≤ ix R r - ix st.left r
 sum : ∀ r : Nat, r < R.length → sumOn G st.spots r P = ix R r - ix st.left r
 lo : ∀ r : Nat, r < R.length → 0 ≤ ix st.left r ∧ ix st.left r ≤ ix R r
 room : ∀ r : Nat, r < R.length → ix st.left r = ix R r ∨ fits single (ix st.left r) = true
 top : ∀ r : Nat, r < R.length → ix st.left r = ix R r ∨ ∃ x ∈ P, gs st.spots x.toNat = r ∧ gv st.spots x.toNat + gs G x.toNat = ix R r - ix st.left r
 apart : ∀ x ∈ P, ∀ y ∈ P, x ≠ y → 0 ≤ gs st.spots x.toNat → gs st.spots x.toNat = gs st.spots y.toNat → gv st.spots x.toNat + gs G x.toNat ≤ gv st.spots y.toNat ∨ gv st.spots y.toNat + gs G y.toNat ≤ gv st.spots x.toNat











end Go.Proofs.YthabgljdndbphaaGreatDoor

namespace Go.Proofs.YthabgljdndbphaaGreatDoor
open Go.RowKit


structure SeatMore (G : List (Int × Int)) (P : List Int) (st : PackSt) : Prop where
 sl : st.spots.length = G.length
 skip : ∀ k, k < G.length → gs st.spots k = -1 → gv st.spots k = 0
 fresh : ∀ k : Nat, k < G.length → (k : Int) ∉ P → gv st.spots k = 0
 value : st.value = amtV G (taken G st.spots) P




/-! ### A row without a gap is permitted -/
theorem exists_sorted (L : List (Int × Int)) : ∃ L' : List (Int × Int), L'.Perm L ∧ L'.Pairwise (fun a b => a.2 ≤ b.2) := by
 refine ⟨L.mergeSort (fun a b => decide (a.2 ≤ b.2)), List.mergeSort_perm _ _, ?_⟩
 have := List.pairwise_mergeSort (le := fun a b : Int × Int => decide (a.2 ≤ b.2)) (fun a b c h1 h2 => by simp at *; omega) (fun a b => by simp; omega) L
 exact List.Pairwise.imp (fun h => by simpa using h) this

def Apart (a b : Int × Int) : Prop := a.2 + a.1 ≤ b.2 ∨ b.2 + b.1 ≤ a.2

theorem nogap (single : Bool) (E : Int) : ∀ (L : List (Int × Int)) (a : Int), L.Pairwise (fun x y => x.2 + x.1 ≤ y.2) → (∀ x ∈ L, a ≤ x.2 ∧ x.2 + x.1 ≤ E) → a ≤ E →
  rowSum L ≤ E - a ∧ (rowSum L = E - a → chain single a L = some E) := by
 intro L
 induction L with
 | nil => intro a _ _ h; simp only [rowSum, chain]; exact ⟨by omega, fun h => by rw [show a = E from by omega]⟩
 | cons x L ih =>
  intro a hp hx ha
  rw [List.pairwise_cons] at hp
  have h1 := hx x (by simp)
  obtain ⟨i1, i2⟩ := ih (x.2 + x.1) hp.2 (fun y hy => ⟨hp.1 y hy, (hx y (by simp [hy])).2⟩) h1.2
  rw [rowSum, chain]
  refine ⟨by omega, fun h => ?_⟩
  rw [if_neg (by omega)]
  exact i2 (by omega)

theorem pairwise_both {L : List (Int × Int)} (h1 : L.Pairwise (fun a b => a.2 ≤ b.2)) (h2 : L.Pairwise Apart) (hs : ∀ x ∈ L, 1 ≤ x.1) : L.Pairwise (fun x y => x.2 + x.1 ≤ y.2) := by
 induction L with
 | nil => exact List.Pairwise.nil
 | cons x L ih =>
  rw [List.pairwise_cons] at h1 h2
  refine List.Pairwise.cons (fun y hy => ?_) (ih h1.2 h2.2 (fun y hy => hs y (by simp [hy])))
  have a := h1.1 y hy
  have b := h2.1 y hy
  have := hs y (by simp [hy])
  unfold Apart at b
  omega

theorem rowLegal_nogap {single : Bool} {n E : Int} {L : List (Int × Int)} (hs : ∀ x ∈ L, 1 ≤ x.1) (ha : L.Pairwise Apart) (hx : ∀ x ∈ L, 0 ≤ x.2 ∧ x.2 + x.1 ≤ E) (h0 : 0 ≤ E) (hsum : rowSum L = E)
  (he : single = true → E ≠ n - 1 ∨ E = 0) : RowLegal single n L := by
 obtain ⟨L', hp, ho⟩ := exists_sorted L
 have hm : ∀ x, x ∈ L' → x ∈ L := fun x => hp.mem_iff.mp
 have ha' : L'.Pairwise Apart := (hp.pairwise_iff (fun {a b} h => by unfold Apart at *; omega)).mpr ha
 have hc := (nogap single E L' 0 (pairwise_both ho ha' (fun x hx => hs x (hm x hx))) (fun x h => hx x (hm x h)) h0).2 (by rw [rowSum_perm hp]; omega)
 refine ⟨L', hp, ho, ?_⟩
 unfold rowOk
 rw [hc]
 cases single
 ·
  rfl
 ·
  have := he rfl
  simp
  omega


theorem rowL_apart (G S : List (Int × Int)) (r : Nat) : ∀ n, (∀ i j, i < j → j < n → gs S i = (r : Int) → gs S j = (r : Int) → gv S i + gs G i ≤ gv S j ∨ gv S j + gs G j ≤ gv S i) → (rowL G S r n).Pairwise Apart := by
 intro n
 induction n with
 | zero => intro _; exact List.Pairwise.nil
 | succ n ih =>
  intro h
  have i := ih fun i j hij hj => h i j hij (by omega)
  rw [rowL]
  split
  ·
   rename_i e
   rw [List.pairwise_append]
   refine ⟨i, List.pairwise_singleton .., fun x hx y hy => ?_⟩
   obtain ⟨k, hk, ek, rfl⟩ := rowL_mem G S r n x hx
   rw [List.mem_singleton.mp hy]
   exact h k n hk (by omega) ek e
  ·
   exact i

end Go.Proofs.YthabgljdndbphaaGreatDoor
