import Derived.Test.YtaomlhhlefpdeaaProg
import Derived.Test.YtaomlhhlefpdeaaBase
namespace Go.Proofs.Ytaomlhhlefpdeaa
open Go.RowKit

def fits (single : Bool) (rest : Int) : Bool := decide (0 ≤ rest) && !(single && rest == 1)

/-- least run from k on -/
def roomFrom (single : Bool) (R F : List Int) (size : Int) (k : Nat) : Nat → Int
  | 0 => -1
  | n + 1 => if fits single (ix R k - ix F k - size) then k else roomFrom single R F size (k + 1) n

theorem roomFrom_step (single : Bool) (R F : List Int) (size : Int) (n i : Nat) (h : i < n) :
    roomFrom single R F size i (n - i) = if fits single (ix R i - ix F i - size) then (i : Int) else roomFrom single R F size (i + 1) (n - (i + 1)) := by
  obtain ⟨m, hm⟩ : ∃ m, n - i = m + 1 := ⟨n - i - 1, by omega⟩
  rw [hm, roomFrom, show n - (i + 1) = m from by omega]

set_option maxHeartbeats 400000 in
theorem room_any (ra fa : Option Addr) (n c fc : Nat) (gv : Value) (single : Bool) (size : Int) (R F : List Int) (w : World)
    (hm : n ≤ 4000) (hR : Ints w ra n R) (hF : Ints w fa n F)
    (bR : ∀ k, k < n → 0 ≤ ix R k ∧ ix R k ≤ 4000) (bF : ∀ k, k < n → 0 ≤ ix F k ∧ ix F k ≤ 4000) (bs : 0 ≤ size) (bs' : size ≤ 12) :
    Calls Try.prog 67 #[.agg #[.slice ra n c, gv, .bool single], .slice fa n fc, .int .i64 size] w
      fun e w' => e = .returned (.int .i64 (roomFrom single R F size 0 n)) ∧ Below w.heap.size w w' := by
  go_enter Try.func67, Try.ntmps67
  go_wp2
  go_loopw [6, 7, 8] (fun r0 k rest wr => ∃ i : Nat, i ≤ n ∧ k = .int .i64 i ∧ wr.cell? ⟨w.heap.size, 0, none⟩ = some (.slice ra n c) ∧ wr.cell? ⟨w.heap.size, 2, none⟩ = some (.bool single) ∧ Below w.heap.size w wr ∧ roomFrom single R F size 0 n = roomFrom single R F size i (n - i))
    (fun _ k _ _ => n - (intOf k).toNat)
  case atStart => exact ⟨0, Nat.zero_le _, rfl, by simp [World.cell?_alloc_new], by simp [World.cell?_alloc_new], (Below.refl _ _).alloc (Nat.le_refl _) _, rfl⟩
  case round =>
    obtain ⟨i, hi, rfl, hp0, hp2, hb, hrec⟩ := hrel
    have HR := Lib.hid hrec; clear hrec
    by_cases hlt : i < n
    · obtain ⟨rb, ro, rfl, r1⟩ := (hR.below hb).2 i hlt
      obtain ⟨fb, fo, rfl, r2⟩ := (hF.below hb).2 i hlt
      have HS := Lib.hid (roomFrom_step single R F size n i hlt)
      clear hR hF
      have b1 := bR i hlt; have b2 := bF i hlt
      clear bR bF
      by_cases h0 : 0 ≤ ix R i - ix F i - size
      · by_cases h1 : single = true
        · subst h1
          by_cases h2 : ix R i - ix F i - size = 1
          · have HT : Hid (fits true (ix R i - ix F i - size) = false) := by simp [Hid, fits, h2]
            have h3 : (ix R i - ix F i - size == 1) = true := beq_iff_eq.2 h2
            clear h2
            go_wp2_with fail
            go_quiet (fail)
            go_wp2
            go_roundw
            case rel => exact ⟨i + 1, by omega, by go_num, hp0, hp2, below_drewN hb _, by rw [HR.out, HS.out, HT.out]; rfl⟩
            case measure => simp [intOf]; omega
          · have HT : Hid (fits true (ix R i - ix F i - size) = true) := by simp [Hid, fits, h2]; omega
            have h3 : (ix R i - ix F i - size == 1) = false := beq_eq_false_iff_ne.2 h2
            clear h2
            go_wp2_with fail
            go_quiet (fail)
            go_wp2
            go_ret
            exact ⟨by rw [HR.out, HS.out, HT.out]; rfl, below_drewN hb _⟩
        · have h1 : single = false := by simpa using h1
          subst h1
          have HT : Hid (fits false (ix R i - ix F i - size) = true) := by simp [Hid, fits]; omega
          go_wp2_with fail
          go_quiet (fail)
          go_wp2
          go_ret
          exact ⟨by rw [HR.out, HS.out, HT.out]; rfl, below_drewN hb _⟩
      · have HT : Hid (fits single (ix R i - ix F i - size) = false) := by simp [Hid, fits]; omega
        go_wp2_with fail
        go_quiet (fail)
        go_wp2
        go_roundw
        case rel => exact ⟨i + 1, by omega, by go_num, hp0, hp2, below_drewN hb _, by rw [HR.out, HS.out, HT.out]; rfl⟩
        case measure => simp [intOf]; omega
    · go_wp2
      go_ret
      exact ⟨by rw [HR.out, show n - i = 0 from by omega]; rfl, hb⟩
end Go.Proofs.Ytaomlhhlefpdeaa
