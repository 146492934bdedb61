/- foyerref24.Same. -/
import Derived.Test.YtaomlhhlefpdeaaQFitBound36

namespace Go.Proofs.Ytaomlhhlefpdeaa
open Go.RowKit

/-- The lists agree from k on, for n places. -/
def sameFrom (S T : List (Int × Int)) (k : Nat) : Nat → Bool
  | 0 => true
  | n + 1 => if gs S k = gs T k ∧ gv S k = gv T k then sameFrom S T (k + 1) n else false

theorem sameFrom_step (S T : List (Int × Int)) (n i : Nat) (h : i < n) : sameFrom S T i (n - i) = if gs S i = gs T i ∧ gv S i = gv T i then sameFrom S T (i + 1) (n - (i + 1)) else false := by
  obtain ⟨m, hm⟩ : ∃ m, n - i = m + 1 := ⟨n - i - 1, by omega⟩
  rw [hm, sameFrom, show n - (i + 1) = m from by omega]

def sameS (V : Int) (S : List (Int × Int)) (V' : Int) (T : List (Int × Int)) : Bool :=
  if V = V' ∧ S.length = T.length then sameFrom S T 0 S.length else false

set_option maxRecDepth 10000 in
set_option maxHeartbeats 800000 in
theorem same_any (sa ta : Option Addr) (n c n' c' : Nat) (V V' : Int) (S T : List (Int × Int)) (w : World) (hn : n ≤ 4000) (hn' : n' ≤ 4000) (hS : Pairs w sa n S) (hT : Pairs w ta n' T) :
    Calls Try.prog 19 #[.agg #[.slice sa n c, .int .i64 V], .agg #[.slice ta n' c', .int .i64 V']] w fun e w' => e = .returned (.bool (sameS V S V' T)) ∧ Below w.heap.size w w' := by
  have HS := Lib.hid hS; have HT := Lib.hid hT
  have hb0 : Below w.heap.size w ((w.alloc (.cells #[.slice sa n c, .int .i64 V] 30)).alloc (.cells #[.slice ta n' c', .int .i64 V'] 30)) := ((Below.refl _ _).alloc (Nat.le_refl _) _).alloc (by simp) _
  have HB0 := Lib.hid hb0
  clear hS hT hb0
  by_cases h1 : V = V'
  · subst h1
    by_cases h2 : n = n'
    · subst h2
      have t1 : (V != V) = false := by simp
      have t2 : ((n : Int) != (n : Int)) = false := by simp
      have HR : Hid (sameS V S V T = sameFrom S T 0 n) := by simp [Hid, sameS, HS.out.1, HT.out.1]
      go_enter Try.func19, Try.ntmps19
      go_wp2
      go_loopw [5] (fun v5 wr => ∃ i : Nat, v5 = .int .i64 i ∧ i ≤ n ∧ wr.cell? ⟨w.heap.size, 0, none⟩ = some (.slice sa n c) ∧ wr.cell? ⟨w.heap.size + 1, 0, none⟩ = some (.slice ta n c') ∧ Below w.heap.size w wr ∧ Hid (sameFrom S T 0 n = sameFrom S T i (n - i)))
        (fun v5 _ => n - (intOf v5).toNat)
      case atStart => exact ⟨0, rfl, Nat.zero_le _, by simp [go_sem], by simp [go_sem], HB0.out, rfl⟩
      case round =>
        obtain ⟨i, rfl, hi, x0, y0, hb, HF⟩ := hrel
        by_cases hlt : i < n
        · obtain ⟨b, o, rfl, c1, c2⟩ := (HS.out.below hb).2 i hlt
          obtain ⟨b', o', rfl, d1, d2⟩ := (HT.out.below hb).2 i hlt
          have HST := Lib.hid (sameFrom_step S T n i hlt)
          by_cases he : gs S i = gs T i ∧ gv S i = gv T i
          · have FIN : Hid (sameFrom S T 0 n = sameFrom S T (i + 1) (n - (i + 1))) := by rw [HF.out, HST.out, if_pos he]; rfl
            obtain ⟨e1, e2⟩ := he
            rw [e1] at c1; rw [e2] at c2
            clear e1 e2 HF HST
            go_wp2_with fail
            go_quiet (fail)
            go_wp2
            go_roundw
            case rel => exact ⟨i + 1, by go_num, by omega, x0, y0, below_drewN hb _, FIN⟩
            case measure => simp [intOf]; omega
          · have FIN : Hid (sameFrom S T 0 n = false) := by rw [HF.out, HST.out, if_neg he]; rfl
            by_cases e1 : gs S i = gs T i
            · have e2 : (gv S i == gv T i) = false := by rw [beq_eq_false_iff_ne]; exact fun h => he ⟨e1, h⟩
              rw [e1] at c1
              clear e1 HF HST he
              go_wp2_with fail
              go_quiet (fail)
              go_wp2
              go_ret
              exact ⟨by rw [HR.out, FIN.out]; rfl, below_drewN hb _⟩
            · have e2 : (gs S i == gs T i) = false := by rw [beq_eq_false_iff_ne]; exact e1
              clear e1 HF HST he
              go_wp2_with fail
              go_quiet (fail)
              go_wp2
              go_ret
              exact ⟨by rw [HR.out, FIN.out]; rfl, below_drewN hb _⟩
        · go_wp2
          go_ret
          exact ⟨by rw [HR.out, HF.out, show n - i = 0 from by omega]; rfl, hb⟩
    · have t1 : (V != V) = false := by simp
      have t2 : ((n : Int) != (n' : Int)) = true := by rw [bne_iff_ne]; omega
      have HR : Hid (sameS V S V T = false) := by
        have : ¬ S.length = T.length := by rw [HS.out.1, HT.out.1]; exact h2
        simp [Hid, sameS, this]
      go_enter Try.func19, Try.ntmps19
      go_wp2
      go_ret
      exact ⟨by rw [HR.out]; rfl, HB0.out⟩
  · have t1 : (V != V') = true := by rw [bne_iff_ne]; exact h1
    have HR : Hid (sameS V S V' T = false) := by simp [Hid, sameS, h1]
    clear h1
    go_enter Try.func19, Try.ntmps19
    go_wp2
    go_ret
    exact ⟨by rw [HR.out]; rfl, HB0.out⟩
end Go.Proofs.Ytaomlhhlefpdeaa
