/- A proof of one step of kind 'bound', plain; foyerref22.Few and foyerref22.Short: the walks. -/
import Derived.Test.YtaomlhhlefpdeaaQFitBound13
import Derived.Test.YtaomlhhlefpdeaaQFitBound17
import Derived.Test.YtaomlhhlefpdeaaQFitBound19

namespace Go.Proofs.Ytaomlhhlefpdeaa
open Go.RowKit

theorem left_sum : ∀ (L : List Int), (∀ r, r < L.length → 0 ≤ ix L r) → leftS L = L.sum := by
  intro L
  induction L with
  | nil => intro _; rfl
  | cons x L ih =>
    intro h
    have h0 := h 0 (by simp)
    have e : ix (x :: L) 0 = x := rfl
    rw [e] at h0
    have i := ih (fun r hr => by
      have := h (r + 1) (by simpa using hr)
      have e1 : ix (x :: L) (r + 1) = ix L r := by simp [ix, List.getD]
      rw [e1] at this; exact this)
    have h1 : leftS (x :: L) = max x 0 + leftS L := rfl
    rw [h1, i, List.sum_cons]; omega

theorem check_bound {single : Bool} {R : List Int} {G : List (Int × Int)} (hv : validS R G = true) (V g : Int) (K : List Int) : checkS single R G V [⟨2, g, K⟩] = decide (boundS R G ≤ V) := by
  have hr := (runsOk_sum R 4000 (by omega) (validS_parts hv).1).2.2
  have hl : leftS (roomS R G []) = R.sum := left_sum R (fun r h => by have := hr r h; omega)
  have hd : decidedB [] = fun _ => false := by funext x; rfl
  unfold checkS
  show (rightS single R G V [⟨2, g, K⟩] 1 [] (List.replicate 1 false) 0).1 = _
  rw [rightS]
  have hk : (stepAt [(⟨2, g, K⟩ : StepT)] 0).kind = 2 := rfl
  have hb : bx (List.replicate 1 false) 0 = false := rfl
  rw [hk, hb, if_neg (by simp), if_neg (by decide), if_pos rfl]
  show boundOk R G [] V = _
  unfold boundOk boundS
  rw [if_pos hv, hl, hd]
  have : valS G [] = 0 := rfl
  rw [this, Int.zero_add]
end Go.Proofs.Ytaomlhhlefpdeaa

namespace Go.Proofs.Ytaomlhhlefpdeaa
open Go.RowKit

set_option maxHeartbeats 400000 in
theorem few_any (ra ga : Option Addr) (n c m d : Nat) (single : Bool) (z : Nat) (w : World) :
    Calls Try.prog 25 #[.agg #[.slice ra n c, .slice ga m d, .bool single], .int .i64 z] w fun e w' => e = .returned (.bool (decide (n ≤ z ∧ m ≤ z))) ∧ Below w.heap.size w w' := by
  by_cases h1 : n ≤ z
  · by_cases h3 : m ≤ z
    · have e1 : decide ((n : Int) ≤ z) = true := by simp; omega
      have e2 : decide ((m : Int) ≤ z) = true := by simp; omega
      go_enter Try.func25, Try.ntmps25
      go_wp2
      go_ret
      exact ⟨ret_bool (by simp [h1, h3]), (Below.refl _ _).alloc (Nat.le_refl _) _⟩
    · have e1 : decide ((n : Int) ≤ z) = true := by simp; omega
      have e2 : decide ((m : Int) ≤ z) = false := by simp; omega
      go_enter Try.func25, Try.ntmps25
      go_wp2
      go_ret
      exact ⟨ret_bool (by simp [h1, h3]), (Below.refl _ _).alloc (Nat.le_refl _) _⟩
  · have h2 : decide ((n : Int) ≤ z) = false := by simp; omega
    go_enter Try.func25, Try.ntmps25
    go_wp2
    go_ret
    exact ⟨ret_bool (by simp [h1]), (Below.refl _ _).alloc (Nat.le_refl _) _⟩
end Go.Proofs.Ytaomlhhlefpdeaa
