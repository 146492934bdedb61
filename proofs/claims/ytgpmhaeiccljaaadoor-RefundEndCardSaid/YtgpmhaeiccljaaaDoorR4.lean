/- foyerref29.Right: the walk. -/
import Derived.Test.YtgpmhaeiccljaaaDoorR3
namespace Go.Proofs.YtgpmhaeiccljaaaDoor
open Go.RowKit Go.IntWalk

/-- Means that are right. -/
structure RightP (l : List MeanT) : Prop where
  len1 : 1 ≤ l.length
  len12 : l.length ≤ 12
  name : ∀ i, i < l.length → nameS (nm l i) = true
  amt : ∀ i, i < l.length → 1 ≤ am l i ∧ am l i ≤ 1000000000
  diff : ∀ i j, i < l.length → j < i → nm l j ≠ nm l i
  tot : totS l ≤ 1000000000

open Classical in
noncomputable def rightB (l : List MeanT) : Bool := decide (RightP l)

theorem right_true {l : List MeanT} (h : RightP l) : rightB l = true := by unfold rightB; simp [h]
theorem right_false {l : List MeanT} (h : ¬ RightP l) : rightB l = false := by unfold rightB; simp [h]
theorem right_iff {l : List MeanT} : rightB l = true ↔ RightP l := by unfold rightB; simp

theorem RightP.good {l : List MeanT} (h : RightP l) : Good l := by
  refine ⟨?_, fun i hi => (h.amt i hi).1, h.tot, by have := h.len12; omega⟩
  unfold Diff
  rw [List.nodup_iff_pairwise_ne, List.pairwise_map]
  rw [List.pairwise_iff_getElem]
  intro i j hi hj hij
  have := h.diff j i hj hij
  rwa [nm_eq _ _ hi, nm_eq _ _ hj] at this

set_option maxRecDepth 10000 in
set_option maxHeartbeats 800000 in
theorem rright_any (ra : Option Addr) (n c : Nat) (l : List MeanT) (w : World) (h : Means w ra n l) (hn : n ≤ 30) (hl : ∀ i, i < n → (nm l i).length ≤ 1000) :
    Calls Tryd.prog 29 #[.slice ra n c] w fun e w' => e = .returned (.bool (rightB l)) ∧ ∃ q, w' = w.drewN q := by
  have HM := Lib.hid h
  have hlen := h.1
  have HL := Lib.hid hl
  clear h hl
  by_cases h1 : n < 1
  · have HR : Hid (rightB l = false) := right_false (fun h => by have := h.len1; omega)
    go_enter Tryd.func29, Tryd.ntmps29
    go_wp2_with fail
    go_ret
    exact ⟨by rw [HR.out]; rfl, 0, rfl⟩
  by_cases h12 : 12 < n
  · have HR : Hid (rightB l = false) := right_false (fun h => by have := h.len12; omega)
    go_enter Tryd.func29, Tryd.ntmps29
    go_wp2_with fail
    go_ret
    exact ⟨by rw [HR.out]; rfl, 0, rfl⟩
  go_enter Tryd.func29, Tryd.ntmps29
  go_wp2_with fail
  go_loopw [3] (fun v3 wr => ∃ i : Nat, v3 = .int .i64 i ∧ (∃ q, wr = w.drewN q) ∧ i ≤ n ∧ Hid (∀ j, j < i → nameS (nm l j) = true ∧ (1 ≤ am l j ∧ am l j ≤ 1000000000) ∧ ∀ k, k < j → nm l k ≠ nm l j)) (fun v3 _ => n - (intOf v3).toNat)
  case atStart => exact ⟨0, rfl, ⟨0, rfl⟩, Nat.zero_le _, fun j hj => by omega⟩
  case round =>
    obtain ⟨i, rfl, ⟨q, rfl⟩, hi, HW⟩ := hrel
    by_cases hlt : i < n
    · obtain ⟨b, o, rfl, c0, c1⟩ := Means.at (HM.out.below (below_drewN (Below.refl _ _) q)) i hlt
      generalize hw : w.drewN q = wq at *
      have HWQ := Lib.hid hw
      clear hw
      go_wp2_with fail
      refine (rname_any (nm l i) (HL.out i hlt) wq).mono ?_
      rintro e w' ⟨rfl, rfl⟩
      cases hnm : nameS (nm l i)
      · have HR : Hid (rightB l = false) := right_false (fun h => by have := h.name i (by omega); rw [hnm] at this; simp at this)
        clear hnm
        go_wp2_with fail
        go_ret
        exact ⟨by rw [HR.out]; rfl, q, HWQ.out.symm⟩
      have HNM := Lib.hid hnm
      clear hnm
      by_cases ha1 : am l i < 1
      · have HR : Hid (rightB l = false) := right_false (fun h => by have := h.amt i (by omega); omega)
        go_wp2_with fail
        go_ret
        exact ⟨by rw [HR.out]; rfl, q, HWQ.out.symm⟩
      by_cases ha2 : 1000000000 < am l i
      · have HR : Hid (rightB l = false) := right_false (fun h => by have := h.amt i (by omega); omega)
        go_wp2_with fail
        go_ret
        exact ⟨by rw [HR.out]; rfl, q, HWQ.out.symm⟩
      go_wp2_with fail
      go_loopw [4] (fun v4 wx => ∃ k : Nat, v4 = .int .i64 k ∧ (∃ q, wx = wq.drewN q) ∧ k ≤ i ∧ Hid (∀ j, j < k → nm l j ≠ nm l i)) (fun v4 _ => i - (intOf v4).toNat)
      case atStart => exact ⟨0, rfl, ⟨0, rfl⟩, Nat.zero_le _, fun j hj => by omega⟩
      case round =>
        obtain ⟨k, rfl, ⟨q2, rfl⟩, hk, HK⟩ := hrel
        by_cases hkl : k < i
        · have hbz : Below w.heap.size w (wq.drewN q2) := by rw [← HWQ.out]; exact below_drewN (below_drewN (Below.refl _ _) q) q2
          obtain ⟨b', o', e', d0, d1⟩ := Means.at (HM.out.below hbz) k (by omega)
          obtain ⟨b'', o'', e'', f0, f1⟩ := Means.at (HM.out.below hbz) i hlt
          clear hbz
          simp only [Option.some.injEq, Addr.mk.injEq, and_true] at e' e''
          obtain ⟨rfl, rfl⟩ := e'
          obtain ⟨rfl, rfl⟩ := e''
          clear c0 c1
          generalize hw : wq.drewN q2 = wz at *
          have HWZ := Lib.hid hw
          clear hw
          by_cases he : nm l k = nm l i
          · have e1 : ((bs (nm l k)).toList == (bs (nm l i)).toList) = true := by rw [bs_beq]; simp [he]
            have HR : Hid (rightB l = false) := right_false (fun h => h.diff i k (by omega) hkl he)
            clear he
            go_wp2_with fail
            go_quiet (fail)
            go_wp2_with fail
            go_ret
            exact ⟨by rw [HR.out]; rfl, q + (q2 + nq), by rw [← HWZ.out, ← HWQ.out]; rw [World.drewN_drewN, World.drewN_drewN]⟩
          · have e1 : ((bs (nm l k)).toList == (bs (nm l i)).toList) = false := by rw [bs_beq]; simp [he]
            have HE := Lib.hid he
            clear he
            go_wp2_with fail
            go_quiet (fail)
            go_wp2_with fail
            go_roundw
            case rel => exact ⟨k + 1, by go_num, ⟨q2 + nq, by rw [← HWZ.out]; exact World.drewN_drewN ..⟩, by omega, fun j hj => by
              by_cases e : j = k
              · rw [e]; exact HE.out
              · exact HK.out j (by omega)⟩
            case measure => simp [intOf]; omega
        · have hk' : k = i := by omega
          subst hk'
          go_wp2_with fail
          go_roundw
          case rel => exact ⟨k + 1, by go_num, ⟨q + q2, by rw [← HWQ.out]; exact World.drewN_drewN ..⟩, by omega, fun j hj => by
            by_cases e : j = k
            · rw [e]; exact ⟨HNM.out, by omega, HK.out⟩
            · exact HW.out j (by omega)⟩
          case measure => simp [intOf]; omega
    · have hi' : i = n := by omega
      subst hi'
      go_wp2_with fail
      refine (rtotal_any ra i c l _ (HM.out.below (below_drewN (Below.refl _ _) q)) (by omega) (fun j hj => by have := (HW.out j hj).2.1; omega)).mono ?_
      rintro e w' ⟨rfl, rfl⟩
      have HR : Hid (rightB l = decide (totS l ≤ 1000000000)) := by
        show _ = _
        by_cases ht : totS l ≤ 1000000000
        · rw [right_true ⟨by omega, by omega, fun j hj => (HW.out j (by omega)).1, fun j hj => (HW.out j (by omega)).2.1, fun j k hj hk => (HW.out j (by omega)).2.2 k hk, ht⟩]
          simp [ht]
        · rw [right_false (fun h => ht h.tot)]
          simp [ht]
      go_wp2_with fail
      go_ret
      exact ⟨by rw [HR.out]; rfl, q, rfl⟩
end Go.Proofs.YtgpmhaeiccljaaaDoor
