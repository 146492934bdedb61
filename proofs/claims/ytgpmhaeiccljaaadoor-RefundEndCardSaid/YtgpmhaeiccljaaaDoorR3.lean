/- foyerref29.Of, Same, Few, Right; foyerlaw29.few: the walks. -/
import Derived.Test.YtgpmhaeiccljaaaDoorR2
import Derived.Test.YtgpmhaeiccljaaaDoorRN
import Derived.Test.YtgpmhaeiccljaaaDoorMQ
namespace Go.Proofs.YtgpmhaeiccljaaaDoor
open Go.RowKit Go.IntWalk

theorem of_take {l : List MeanT} {n : Name} : ∀ (i : Nat), (∀ j, j < i → j < l.length → nm l j ≠ n) → i < l.length → nm l i = n → ofS l n = am l i := by
  induction l with
  | nil => intro i _ hi; simp at hi
  | cons m l ih =>
    intro i h hi he
    cases i with
    | zero =>
      rw [nm_eq _ _ hi] at he
      rw [am_eq _ _ hi]
      simp only [List.getElem_cons_zero] at he ⊢
      rw [ofS, if_pos he]
    | succ i =>
      have h0 := h 0 (by omega) (by simp)
      rw [nm_eq _ _ (by simp)] at h0
      simp only [List.getElem_cons_zero] at h0
      have hi' : i < l.length := by simpa using hi
      rw [ofS, if_neg h0, ih i (fun j hj hjl => by
        have := h (j + 1) (by omega) (by simpa using hjl)
        rwa [nm_eq _ _ (by simpa using hjl), List.getElem_cons_succ, ← nm_eq _ _ hjl] at this) hi' (by rw [nm_eq _ _ hi, List.getElem_cons_succ, ← nm_eq _ _ hi'] at he; exact he)]
      rw [am_eq _ _ hi', am_eq _ _ hi, List.getElem_cons_succ]

set_option maxRecDepth 10000 in
set_option maxHeartbeats 800000 in
theorem of_any (ra : Option Addr) (n c : Nat) (l : List MeanT) (a : Name) (w : World) (h : Means w ra n l) (hn : n ≤ 1000) :
    Calls Tryd.prog 22 #[.slice ra n c, .string (bs a)] w fun e w' => e = .returned (.int .i64 (ofS l a)) ∧ w = w' := by
  have HM := Lib.hid h
  have hlen := h.1
  clear h
  go_enter Tryd.func22, Tryd.ntmps22
  go_wp2_with fail
  go_loopw [5] (fun v5 wr => ∃ i : Nat, v5 = .int .i64 i ∧ w = wr ∧ i ≤ n ∧ Hid (∀ j, j < i → nm l j ≠ a)) (fun v5 _ => n - (intOf v5).toNat)
  case atStart => exact ⟨0, rfl, rfl, Nat.zero_le _, fun j hj => by omega⟩
  case round =>
    obtain ⟨i, rfl, rfl, hi, HW⟩ := hrel
    by_cases hlt : i < n
    · obtain ⟨b, o, rfl, c0, c1⟩ := Means.at HM.out i hlt
      by_cases he : nm l i = a
      · have b1 : ((bs (nm l i)).toList == (bs a).toList) = true := by rw [bs_beq]; simp [he]
        have HR := Lib.hid (of_take i (fun j hj _ => HW.out j hj) (by omega) he)
        clear he
        go_wp2_with fail
        go_ret
        exact ⟨by rw [HR.out]; rfl, rfl⟩
      · have b1 : ((bs (nm l i)).toList == (bs a).toList) = false := by rw [bs_beq]; simp [he]
        have HE := Lib.hid he
        clear he
        go_wp2_with fail
        go_roundw
        case rel => exact ⟨i + 1, by go_num, trivial, hlt, fun j hj => by
          by_cases e : j = i
          · rw [e]; exact HE.out
          · exact HW.out j (by omega)⟩
        case measure => simp [intOf]; omega
    · have HR : Hid (ofS l a = 0) := of_none (fun j hj => HW.out j (by omega))
      go_wp2_with fail
      go_ret
      exact ⟨by rw [HR.out]; rfl, rfl⟩

/-- At most 30 means, names of at most 60 bytes. -/
def fewS (l : List MeanT) : Bool := decide (l.length ≤ 30) && l.all (fun m => decide (m.1.length ≤ 60))

theorem few_iff (l : List MeanT) : fewS l = true ↔ l.length ≤ 30 ∧ ∀ i, i < l.length → (nm l i).length ≤ 60 := by
  unfold fewS
  rw [Bool.and_eq_true, decide_eq_true_eq, List.all_eq_true]
  refine and_congr_right fun _ => ⟨fun h i hi => ?_, fun h m hm => ?_⟩
  · have := h _ (List.getElem_mem hi)
    rw [decide_eq_true_eq] at this
    rw [nm_eq _ _ hi]; exact this
  · obtain ⟨i, hi, rfl⟩ := List.getElem_of_mem hm
    have := h i hi
    rw [nm_eq _ _ hi] at this
    rw [decide_eq_true_eq]; exact this

set_option maxRecDepth 10000 in
set_option maxHeartbeats 800000 in
theorem same_any (ra rb : Option Addr) (n m c d : Nat) (x y : List MeanT) (w : World) (hx : Means w ra n x) (hy : Means w rb m y) (hn : n ≤ 1000) (hm : m ≤ 1000) :
    Calls Tryd.prog 15 #[.slice ra n c, .slice rb m d] w fun e w' => e = .returned (.bool (decide (x = y))) ∧ ∃ q, w' = w.drewN q := by
  have HX := Lib.hid hx
  have HY := Lib.hid hy
  have hxl := hx.1
  have hyl := hy.1
  clear hx hy
  by_cases hnm : n = m
  · subst hnm
    go_enter Tryd.func15, Tryd.ntmps15
    go_wp2_with fail
    go_loopw [5] (fun v5 wr => ∃ i : Nat, v5 = .int .i64 i ∧ (∃ q, wr = w.drewN q) ∧ i ≤ n ∧ Hid (∀ j, j < i → nm x j = nm y j ∧ am x j = am y j)) (fun v5 _ => n - (intOf v5).toNat)
    case atStart => exact ⟨0, rfl, ⟨0, rfl⟩, Nat.zero_le _, fun j hj => by omega⟩
    case round =>
      obtain ⟨i, rfl, ⟨q, rfl⟩, hi, HW⟩ := hrel
      by_cases hlt : i < n
      · obtain ⟨b, o, rfl, c0, c1⟩ := Means.at (HX.out.below (below_drewN (Below.refl _ _) q)) i hlt
        obtain ⟨b', o', rfl, d0, d1⟩ := Means.at (HY.out.below (below_drewN (Below.refl _ _) q)) i hlt
        generalize hw : w.drewN q = wq at *
        have HWQ := Lib.hid hw
        clear hw
        by_cases h1 : nm x i = nm y i
        · have e1 : ((bs (nm x i)).toList == (bs (nm y i)).toList) = true := by rw [bs_beq]; simp [h1]
          have H1 := Lib.hid h1
          clear h1
          by_cases h2 : am x i = am y i
          · have e2 : (am x i == am y i) = true := by simp [h2]
            have H2 := Lib.hid h2
            clear h2
            go_wp2_with fail
            go_quiet (fail)
            go_wp2_with fail
            go_roundw
            case rel => exact ⟨i + 1, by go_num, ⟨q + nq, by rw [← HWQ.out]; exact World.drewN_drewN ..⟩, by omega, by
              intro j hj
              by_cases e : j = i
              · subst e; exact ⟨H1.out, H2.out⟩
              · exact HW.out j (by omega)⟩
            case measure => simp [intOf]; omega
          · have e2 : (am x i == am y i) = false := by simp [h2]
            have HR : Hid (decide (x = y) = false) := by show _ = _; simp; intro e; exact h2 (by rw [e])
            clear h2
            go_wp2_with fail
            go_quiet (fail)
            go_wp2_with fail
            go_ret
            exact ⟨by rw [HR.out]; rfl, q + nq, by rw [← HWQ.out]; exact World.drewN_drewN ..⟩
        · have e1 : ((bs (nm x i)).toList == (bs (nm y i)).toList) = false := by rw [bs_beq]; simp [h1]
          have HR : Hid (decide (x = y) = false) := by show _ = _; simp; intro e; exact h1 (by rw [e])
          clear h1
          go_wp2_with fail
          go_quiet (fail)
          go_wp2_with fail
          go_ret
          exact ⟨by rw [HR.out]; rfl, q + nq, by rw [← HWQ.out]; exact World.drewN_drewN ..⟩
      · have HR : Hid (decide (x = y) = true) := by
          show _ = _
          simp
          exact mean_ext (by omega) (fun j hj => HW.out j (by omega))
        go_wp2_with fail
        go_ret
        exact ⟨by rw [HR.out]; rfl, q, rfl⟩
  · have HR : Hid (decide (x = y) = false) := by show _ = _; simp; intro e; exact hnm (by rw [← hxl, ← hyl, e])
    have e1 : ((n : Int) == m) = false := by simp; omega
    go_enter Tryd.func15, Tryd.ntmps15
    go_wp2_with fail
    go_ret
    exact ⟨by rw [HR.out]; rfl, 0, rfl⟩

set_option maxRecDepth 10000 in
set_option maxHeartbeats 800000 in
theorem mfew_any (ra : Option Addr) (n c : Nat) (l : List MeanT) (w : World) (h : Means w ra n l) (hn : n ≤ 9223372036854775807) (hl : ∀ i, i < n → (nm l i).length ≤ 9223372036854775807) :
    Calls Tryd.prog 26 #[.slice ra n c] w fun e w' => e = .returned (.bool (fewS l)) ∧ w = w' := by
  have HM := Lib.hid h
  have hlen := h.1
  have HL := Lib.hid hl
  clear h hl
  go_enter Tryd.func26, Tryd.ntmps26
  go_wp2_with fail
  go_loopw [3] (fun v3 wr => ∃ i : Nat, v3 = .int .i64 i ∧ w = wr ∧ i ≤ n ∧ Hid (∀ j, j < i → (nm l j).length ≤ 60)) (fun v3 _ => n - (intOf v3).toNat)
  case atStart => exact ⟨0, rfl, rfl, Nat.zero_le _, fun j hj => by omega⟩
  case round =>
    obtain ⟨i, rfl, rfl, hi, HW⟩ := hrel
    by_cases hlt : i < n
    · obtain ⟨b, o, rfl, c0, c1⟩ := Means.at HM.out i hlt
      have hbs := bs_size (nm l i)
      by_cases h60 : (nm l i).length ≤ 60
      · have h60' : ((nm l i).length : Int) ≤ 60 := by omega
        go_wp2_with fail
        go_roundw
        case rel => exact ⟨i + 1, by go_num, trivial, hlt, fun j hj => by
          by_cases e : j = i
          · rw [e]; exact h60
          · exact HW.out j (by omega)⟩
        case measure => simp [intOf]; omega
      · have h60' : (60 : Int) < (nm l i).length := by omega
        have HR : Hid (fewS l = false) := by
          show _ = _
          cases hh : fewS l
          · rfl
          · exact absurd ((few_iff l).mp hh |>.2 i (by omega)) h60
        go_wp2_with fail
        go_ret
        exact ⟨by rw [HR.out]; rfl, rfl⟩
    · have HR : Hid (fewS l = decide ((n : Int) ≤ 30)) := by
        show _ = _
        cases hh : fewS l
        · have : ¬ (n : Int) ≤ 30 := fun e => by
            have := (few_iff l).mpr ⟨by omega, fun j hj => HW.out j (by omega)⟩
            rw [hh] at this; simp at this
          simp [this]
        · have := ((few_iff l).mp hh).1
          simp; omega
      go_wp2_with fail
      go_ret
      exact ⟨by rw [HR.out]; rfl, rfl⟩
end Go.Proofs.YtgpmhaeiccljaaaDoor
