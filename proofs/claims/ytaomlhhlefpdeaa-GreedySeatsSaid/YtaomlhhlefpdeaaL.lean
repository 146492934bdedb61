/- foyerref22.Bound. -/
import Derived.Test.YtaomlhhlefpdeaaK
import Derived.Deep.RegionHeld3
namespace Go.Proofs.Ytaomlhhlefpdeaa
open Go.RowKit

theorem bx_replicate (m k : Nat) : bx (List.replicate m false) k = false := by
  unfold bx
  simp only [List.getD_eq_getElem?_getD, List.getElem?_replicate]
  split <;> rfl

set_option maxRecDepth 10000 in
set_option maxHeartbeats 800000 in
theorem refBound_any (ra ga : Option Addr) (n c m d : Nat) (single : Bool) (R : List Int) (G : List (Int × Int)) (w : World)
    (hn : n ≤ 4000) (hm : m ≤ 4000) (hR : Ints w ra n R) (hG : Pairs w ga m G) :
    Calls Try.prog 28 #[.agg #[.slice ra n c, .slice ga m d, .bool single]] w fun e w' => e = .returned (.int .i64 (boundS R G)) ∧ Below w.heap.size w w' := by
  cases hv : validS R G
  · have HB : Hid (boundS R G = 0) := by simp [Hid, boundS, hv]
    have HV := Lib.hid (refvalid_any ra ga n c m d single false R G (w.alloc (.cells #[.slice ra n c, .slice ga m d, .bool single] 25)) hn hm (hR.below ((Below.refl _ _).alloc (Nat.le_refl _) _)) (hG.below ((Below.refl _ _).alloc (Nat.le_refl _) _)) hv)
    clear hR hG hv
    go_enter Try.func28, Try.ntmps28
    go_wp2_with fail
    refine HV.out.mono ?_
    rintro e w1 ⟨rfl, hb⟩
    have hb0 : Below w.heap.size w w1 := ((Below.refl _ _).alloc (Nat.le_refl _) _).trans (hb.mono (by simp))
    go_wp2
    go_ret
    exact ⟨by rw [HB.out]; rfl, hb0⟩
  · have HB : Hid (boundS R G = fillS G (fun _ => false) R.sum (rankedL G)) := by simp [Hid, boundS, hv]
    have hvp := validS_parts hv
    have hsum := runsOk_sum R 4000 (by omega) hvp.1
    have HV := Lib.hid (refvalid_any ra ga n c m d single true R G (w.alloc (.cells #[.slice ra n c, .slice ga m d, .bool single] 25)) hn hm (hR.below ((Below.refl _ _).alloc (Nat.le_refl _) _)) (hG.below ((Below.refl _ _).alloc (Nat.le_refl _) _)) hv)
    have HVP := Lib.hid hvp; have HS := Lib.hid hsum; have HR := Lib.hid hR; have HG := Lib.hid hG
    clear hv hvp hsum hR hG
    go_enter Try.func28, Try.ntmps28
    go_wp2_with fail
    refine HV.out.mono ?_
    rintro e w1 ⟨rfl, hb⟩
    have hb0 : Below w.heap.size w w1 := ((Below.refl _ _).alloc (Nat.le_refl _) _).trans (hb.mono (by simp))
    have x0 : w1.cell? ⟨w.heap.size, 0, none⟩ = some (.slice ra n c) := Below.cell_of hb (by simp [go_sem])
    have x1 : w1.cell? ⟨w.heap.size, 1, none⟩ = some (.slice ga m d) := Below.cell_of hb (by simp [go_sem])
    clear hb HV
    go_wp2
    go_loopw [3, 4] (fun v3 k wr => ∃ (i : Nat), i ≤ n ∧ v3 = .int .i64 (R.take i).sum ∧ k = .int .i64 i ∧ w1 = wr)
      (fun _ k _ => n - (intOf k).toNat)
    case atStart => exact ⟨0, Nat.zero_le _, by simp, rfl, rfl⟩
    case round =>
      obtain ⟨i, hi, rfl, rfl, rfl⟩ := hrel
      by_cases hlt : i < n
      · obtain ⟨bb, o, rfl, r1⟩ := (HR.out.below hb0).2 i hlt
        have hs : (R.take (i + 1)).sum = (R.take i).sum + ix R i := by
          have h1 : i < R.length := by rw [HR.out.1]; exact hlt
          rw [List.take_succ_eq_append_getElem h1, List.sum_append]
          simp [ix, List.getD_eq_getElem?_getD, h1]
        have hb1 : 0 ≤ (R.take i).sum ∧ (R.take i).sum ≤ 4000 := runsOk_take R 4000 i (by omega) HVP.out.1
        have hb2 := HS.out.2.2 i (by rw [HR.out.1]; exact hlt)
        have HSS := Lib.hid hs
        clear hs
        generalize (R.take i).sum = z at *
        generalize ix R i = x at *
        go_wp2
        go_roundw
        case rel => exact ⟨i + 1, by omega, by rw [HSS.out], by go_num, trivial⟩
        case measure => simp [intOf]; omega
      · have HT : Hid ((R.take i).sum = R.sum) := by rw [List.take_of_length_le (by rw [HR.out.1]; omega)]; rfl
        have hz := HS.out.1; have hz2 := HS.out.2.1
        rw [HT.out]
        obtain ⟨arr, hs, hzz, hmk⟩ := make_bools m hm
        have hb0 := hb0.drew
        have x1 : w1.drew.cell? ⟨w.heap.size, 1, none⟩ = some (.slice ga m d) := x1
        have hen := World.new_ne w1.drew _ x1
        have hbr : Hid (Bools (w1.drew.alloc (.cells arr 4)) (some ⟨w1.drew.heap.size, 0, none⟩) m (List.replicate m false)) := by
          have := (BoolRow.made (w := w1.drew) (T := 4) rfl hs hzz).bools; rw [List.length_replicate] at this; exact this
        have hout : Hid (∀ z, fillS G (outOf (List.replicate m false)) z (rankedL G) = fillS G (fun _ => false) z (rankedL G)) := fun z => fillS_congr G _ _ _ _ (fun x _ => bx_replicate m _)
        clear hs hzz
        generalize R.sum = z at *
        go_wp2_with fail
        go_region_held3 (fun w' => w'.cell? ⟨w.heap.size, 1, none⟩ = some (.slice ga m d)) (go_keep)
          (first
            | (go_at_call 51; refine (refbound_any ga ⟨w1.drew.heap.size, 0, none⟩ m d m z G (List.replicate m false) (w1.drew.alloc (.cells arr 4)) hm (HG.out.below (hb0.alloc hb0.size _)) hbr.out HVP.out.2.2 hz hz2).mono ?_; rintro e w3 ⟨rfl, hb3⟩; have x3 : w3.cell? ⟨w.heap.size, 1, none⟩ = some (.slice ga m d) := Below.cell_of hb3 (by rw [World.cell?_alloc_lt _ _ _ (cell_lt x1)]; exact x1)))
        go_wp2
        go_ret
        exact ⟨by rw [HB.out, ← hout.out]; rfl, (hb0.alloc hb0.size _).trans (hb3.mono (by have := hb0.size; simp at *; omega))⟩
end Go.Proofs.Ytaomlhhlefpdeaa
