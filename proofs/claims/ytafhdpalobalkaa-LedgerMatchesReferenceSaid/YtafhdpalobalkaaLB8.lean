/- ledger: foyerref27.Same: the walk. -/
import Derived.Laws.StructEq
import Derived.RegionTactic
import Derived.BigRegion
import Derived.Test.YtafhdpalobalkaaLB7
namespace Go.Proofs.Ytafhdpalobalkaa
open Go.RowKit Go.IntWalk

def samePost (l m : List PostT) (i : Nat) : Bool := decide (pk l i = pk m i) && (decide (pn l i = pn m i) && decide (pa l i = pa m i))

theorem same_end {l m : List PostT} (hl : l.length = m.length) (h : ∀ i, i < l.length → samePost l m i = true) : l = m := by
  refine post_ext hl fun i hi => ?_
  have := h i hi
  unfold samePost at this
  simp only [Bool.and_eq_true, decide_eq_true_eq] at this
  exact this

theorem same_no {l m : List PostT} {i : Nat} (h : samePost l m i = false) : l ≠ m := by
  rintro rfl
  unfold samePost at h
  simp at h

set_option maxRecDepth 10000 in
set_option maxHeartbeats 1600000 in
theorem same_any (ra rb : Option Addr) (n c n2 c2 : Nat) (l m : List PostT) (w : World) (hl : Posts w ra n l) (hm : Posts w rb n2 m) (hn : n ≤ 1000000) (hn2 : n2 ≤ 1000000) :
    Calls Try.prog 14 #[.slice ra n c, .slice rb n2 c2] w fun e w' => e = .returned (.bool (decide (l = m))) ∧ Below w.heap.size w w' := by
  have HL := Lib.hid hl
  have HM := Lib.hid hm
  have hll := hl.1
  have hml := hm.1
  clear hl hm
  by_cases hne : n = n2
  · subst hne
    go_enter Try.func14, Try.ntmps14
    go_wp2_with fail
    go_loopw [5] (fun v5 wr => ∃ i : Nat, v5 = .int .i64 i ∧ i ≤ n ∧ Hid (Below w.heap.size w wr) ∧ Hid (∀ j, j < i → samePost l m j = true)) (fun v5 _ => n - (intOf v5).toNat)
    case atStart => exact ⟨0, rfl, Nat.zero_le _, Below.refl _ _, fun j hj => by omega⟩
    case round =>
      obtain ⟨i, rfl, hi, HB, HW⟩ := hrel
      by_cases hlt : i < n
      · obtain ⟨b1, o1, rfl, p0, p1, p2⟩ := Posts.at (HL.out.below HB.out) i hlt
        obtain ⟨b2, o2, rfl, q0, q1, q2⟩ := Posts.at (HM.out.below HB.out) i hlt
        by_cases h1 : pk l i = pk m i
        · by_cases h2 : (bs (pn l i)).toList = (bs (pn m i)).toList
          · by_cases h3 : pa l i = pa m i
            · have HS : Hid (samePost l m i = true) := by
                show _ = _
                unfold samePost
                rw [bs_toList, bs_toList] at h2
                simp [h1, h2, h3]
              go_upto_region 6 with fail
              go_region
              go_wp2_with fail
              go_roundw
              case rel => exact ⟨i + 1, by go_num, by omega, HB.out.drew, fun j hj => by
                by_cases e : j = i
                · rw [e]; exact HS.out
                · exact HW.out j (by omega)⟩
              case measure => simp [intOf]; omega
            · have HX : Hid (pa l i ≠ pa m i) := h3
              have HS : Hid (l ≠ m) := same_no (i := i) (by unfold samePost; have := HX.out; simp [this])
              clear HX
              go_upto_region 6 with fail
              go_region
              go_wp2_with fail
              go_ret
              exact ⟨by simp [HS.out], HB.out.drew⟩
          · have HX : Hid (pn l i ≠ pn m i) := fun e => h2 (by rw [e])
            have HS : Hid (l ≠ m) := same_no (i := i) (by unfold samePost; have := HX.out; simp [this])
            clear HX
            go_upto_region 6 with fail
            go_region
            go_wp2_with fail
            go_ret
            exact ⟨by simp [HS.out], HB.out.drew⟩
        · have HX : Hid (pk l i ≠ pk m i) := h1
          have HS : Hid (l ≠ m) := same_no (i := i) (by unfold samePost; have := HX.out; simp [this])
          clear HX
          go_upto_region 6 with fail
          go_region
          go_wp2_with fail
          go_ret
          exact ⟨by simp [HS.out], HB.out.drew⟩
      · have hi' : i = n := by omega
        subst hi'
        have HE := Lib.hid (same_end (l := l) (m := m) (by omega) (fun j hj => HW.out j (by omega)))
        go_wp2_with fail
        go_ret
        exact ⟨by rw [HE.out]; simp, HB.out⟩
  · have HN : Hid (l ≠ m) := fun e => hne (by rw [← hll, ← hml, e])
    go_enter Try.func14, Try.ntmps14
    go_wp2_with fail
    go_ret
    exact ⟨by simp [HN.out], Below.refl _ _⟩
end Go.Proofs.Ytafhdpalobalkaa
