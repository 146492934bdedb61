/- foyerref27.SameBookings: the walk. -/
import Derived.Laws.StructEq
import Derived.RegionTactic
import Derived.BigRegion
import Derived.Test.YtafhdpalobalkaaLE1
namespace Go.Proofs.Ytafhdpalobalkaa
open Go.RowKit Go.IntWalk

theorem quiet_next {w wr : World} (h : ∃ m, wr = w.drewN m) : ∃ m, wr.drew = w.drewN m := by
  obtain ⟨m, rfl⟩ := h
  exact ⟨m + 1, rfl⟩

theorem quiet_more {w wr : World} (h : ∃ m, wr = w.drewN m) (q : Nat) : ∃ m, wr.drewN q = w.drewN m := by
  obtain ⟨m, rfl⟩ := h
  exact ⟨m + q, by simp [World.drewN, Nat.add_assoc]⟩

theorem posts_q {w wr : World} {ra : Option Addr} {n : Nat} {l : List PostT} (h : Posts w ra n l) (hq : ∃ m, wr = w.drewN m) : Posts wr ra n l := by
  obtain ⟨m, rfl⟩ := hq
  exact h

theorem books_q {w wr : World} {ra : Option Addr} {n : Nat} {l : List BookT} (h : Books w ra n l) (hq : ∃ m, wr = w.drewN m) : Books wr ra n l := by
  obtain ⟨m, rfl⟩ := hq
  exact h

theorem below_q {w wr : World} (hq : ∃ m, wr = w.drewN m) : Below w.heap.size w wr := by
  obtain ⟨m, rfl⟩ := hq
  exact below_drewN (Below.refl _ _) m

set_option maxRecDepth 10000 in
set_option maxHeartbeats 1600000 in
theorem same_q (ra rb : Option Addr) (n c n2 c2 : Nat) (l m : List PostT) (w : World) (hl : Posts w ra n l) (hm : Posts w rb n2 m) (hn : n ≤ 1000000) (hn2 : n2 ≤ 1000000) :
    Calls Try.prog 14 #[.slice ra n c, .slice rb n2 c2] w fun e w' => e = .returned (.bool (decide (l = m))) ∧ ∃ m, w' = w.drewN m := by
  have HL := Lib.hid hl
  have HM := Lib.hid hm
  have hll := hl.1
  have hml := hm.1
  clear hl hm
  by_cases hne : n = n2
  · subst hne
    go_enter Try.func14, Try.ntmps14
    go_wp2_with fail
    go_loopw [5] (fun v5 wr => ∃ i : Nat, v5 = .int .i64 i ∧ i ≤ n ∧ Hid (∃ m, wr = w.drewN m) ∧ Hid (∀ j, j < i → samePost l m j = true)) (fun v5 _ => n - (intOf v5).toNat)
    case atStart => exact ⟨0, rfl, Nat.zero_le _, ⟨0, rfl⟩, fun j hj => by omega⟩
    case round =>
      obtain ⟨i, rfl, hi, HB, HW⟩ := hrel
      by_cases hlt : i < n
      · obtain ⟨b1, o1, rfl, p0, p1, p2⟩ := Posts.at (posts_q HL.out HB.out) i hlt
        obtain ⟨b2, o2, rfl, q0, q1, q2⟩ := Posts.at (posts_q HM.out HB.out) i hlt
        by_cases h1 : pk l i = pk m i
        · by_cases h2 : (bs (pn l i)).toList = (bs (pn m i)).toList
          · by_cases h3 : pa l i = pa m i
            · have HS : Hid (samePost l m i = true) := by
                show _ = _
                unfold samePost
                rw [bs_toList, bs_toList] at h2
                simp [h1, h2, h3]
              go_upto_region 6 with fail
              go_region
              go_wp2_with fail
              go_roundw
              case rel => exact ⟨i + 1, by go_num, by omega, quiet_next HB.out, fun j hj => by
                by_cases e : j = i
                · rw [e]; exact HS.out
                · exact HW.out j (by omega)⟩
              case measure => simp [intOf]; omega
            · have HX : Hid (pa l i ≠ pa m i) := h3
              have HS : Hid (l ≠ m) := same_no (i := i) (by unfold samePost; have := HX.out; simp [this])
              clear HX
              go_upto_region 6 with fail
              go_region
              go_wp2_with fail
              go_ret
              exact ⟨by simp [HS.out], quiet_next HB.out⟩
          · have HX : Hid (pn l i ≠ pn m i) := fun e => h2 (by rw [e])
            have HS : Hid (l ≠ m) := same_no (i := i) (by unfold samePost; have := HX.out; simp [this])
            clear HX
            go_upto_region 6 with fail
            go_region
            go_wp2_with fail
            go_ret
            exact ⟨by simp [HS.out], quiet_next HB.out⟩
        · have HX : Hid (pk l i ≠ pk m i) := h1
          have HS : Hid (l ≠ m) := same_no (i := i) (by unfold samePost; have := HX.out; simp [this])
          clear HX
          go_upto_region 6 with fail
          go_region
          go_wp2_with fail
          go_ret
          exact ⟨by simp [HS.out], quiet_next HB.out⟩
      · have hi' : i = n := by omega
        subst hi'
        have HE := Lib.hid (same_end (l := l) (m := m) (by omega) (fun j hj => HW.out j (by omega)))
        go_wp2_with fail
        go_ret
        exact ⟨by rw [HE.out]; simp, HB.out⟩
  · have HN : Hid (l ≠ m) := fun e => hne (by rw [← hll, ← hml, e])
    go_enter Try.func14, Try.ntmps14
    go_wp2_with fail
    go_ret
    exact ⟨by simp [HN.out], 0, rfl⟩
def sameBk (As Bs : List BookT) (i : Nat) : Bool := decide (As[i]? = Bs[i]?)

theorem sameBk_end {As Bs : List BookT} (hl : As.length = Bs.length) (h : ∀ i, i < As.length → sameBk As Bs i = true) : As = Bs := by
  refine List.ext_getElem? fun i => ?_
  rcases Nat.lt_or_ge i As.length with hi | hi
  · simpa [sameBk] using h i hi
  · rw [List.getElem?_eq_none hi, List.getElem?_eq_none (by omega)]

theorem sameBk_of {As Bs : List BookT} {i : Nat} (h1 : i < As.length) (h2 : i < Bs.length) : sameBk As Bs i = (decide (As[i].1 = Bs[i].1) && decide (As[i].2 = Bs[i].2)) := by
  unfold sameBk
  rw [List.getElem?_eq_getElem h1, List.getElem?_eq_getElem h2]
  by_cases e1 : As[i].1 = Bs[i].1
  · by_cases e2 : As[i].2 = Bs[i].2
    · rw [show As[i] = Bs[i] from Prod.ext e1 e2]; simp
    · simp only [e1, e2]
      simp
      intro e
      exact e2 (congrArg Prod.snd e)
  · simp only [e1]
    simp
    intro e
    exact e1 (congrArg Prod.fst e)

theorem sameBk_no {As Bs : List BookT} {i : Nat} (h : sameBk As Bs i = false) : As ≠ Bs := by
  rintro rfl
  simp [sameBk] at h

set_option maxRecDepth 10000 in
set_option maxHeartbeats 1600000 in
theorem sameBooks_any (ra rb : Option Addr) (n c n2 c2 : Nat) (As Bs : List BookT) (w : World) (hA : Books w ra n As) (hB : Books w rb n2 Bs) (hn : n ≤ 1000000) (hn2 : n2 ≤ 1000000) (hla : ∀ b ∈ As, b.2.length ≤ 1000000) (hlb : ∀ b ∈ Bs, b.2.length ≤ 1000000) :
    Calls Try.prog 19 #[.slice ra n c, .slice rb n2 c2] w fun e w' => e = .returned (.bool (decide (As = Bs))) ∧ ∃ m, w' = w.drewN m := by
  have HA := Lib.hid hA
  have HB := Lib.hid hB
  have hal := hA.len
  have hbl := hB.len
  have HLA := Lib.hid hla
  have HLB := Lib.hid hlb
  clear hA hB hla hlb
  by_cases hne : n = n2
  · subst hne
    go_enter Try.func19, Try.ntmps19
    go_wp2_with fail
    go_loopw [5] (fun v5 wr => ∃ i : Nat, v5 = .int .i64 i ∧ i ≤ n ∧ Hid (∃ m, wr = w.drewN m) ∧ Hid (∀ j, j < i → sameBk As Bs j = true)) (fun v5 _ => n - (intOf v5).toNat)
    case atStart => exact ⟨0, rfl, Nat.zero_le _, ⟨0, rfl⟩, fun j hj => by omega⟩
    case round =>
      obtain ⟨i, rfl, hi, HR, HW⟩ := hrel
      by_cases hlt : i < n
      · have hai : i < As.length := by omega
        have hbi : i < Bs.length := by omega
        obtain ⟨b1, o1, p1, n1, d1, rfl, c0, c1, hp1⟩ := (books_q HA.out HR.out).at i hlt hai
        obtain ⟨b2, o2, p2, n2, d2, rfl, e0, e1, hp2⟩ := (books_q HB.out HR.out).at i hlt hbi
        have HS := Lib.hid (sameBk_of hai hbi)
        have HC : Hid (∀ m, Calls Try.prog 14 #[.slice p1 n1 d1, .slice p2 n2 d2] (wr.drewN m) fun e w' => e = .returned (.bool (decide (As[i].2 = Bs[i].2))) ∧ ∃ q, w' = (wr.drewN m).drewN q) := fun m => by
          have h1 := HLA.out _ (List.getElem_mem hai)
          have h2 := HLB.out _ (List.getElem_mem hbi)
          exact same_q p1 p2 n1 d1 n2 d2 As[i].2 Bs[i].2 (wr.drewN m) (posts_q hp1 ⟨m, rfl⟩) (posts_q hp2 ⟨m, rfl⟩) (by rw [← hp1.1]; exact h1) (by rw [← hp2.1]; exact h2)
        clear hp1 hp2
        obtain ⟨x, hx⟩ : ∃ x, x = As[i].1 := ⟨_, rfl⟩
        obtain ⟨y, hy⟩ : ∃ y, y = Bs[i].1 := ⟨_, rfl⟩
        obtain ⟨q, hq⟩ : ∃ q, q = decide (As[i].2 = Bs[i].2) := ⟨_, rfl⟩
        rw [← hx] at c0 HS
        rw [← hy] at e0 HS
        rw [← hq] at HC HS
        clear hx hy hq
        by_cases h1 : x = y
        · subst h1
          have HS1 : Hid (sameBk As Bs i = q) := by
            show _ = _
            rw [HS.out]
            simp
          clear HS
          cases q
          · have HX : Hid (As ≠ Bs) := sameBk_no HS1.out
            clear HS1
            go_upto_region 6 with fail
            go_quiet (exact Calls.quiet_of (HC.out _))
            go_wp2_with fail
            go_ret
            exact ⟨by simp [HX.out], quiet_more HR.out _⟩
          · go_upto_region 6 with fail
            go_quiet (exact Calls.quiet_of (HC.out _))
            go_wp2_with fail
            go_roundw
            case rel => exact ⟨i + 1, by go_num, by omega, quiet_more HR.out _, fun j hj => by
              by_cases e : j = i
              · rw [e]; exact HS1.out
              · exact HW.out j (by omega)⟩
            case measure => simp [intOf]; omega
        · have HX : Hid (As ≠ Bs) := sameBk_no (i := i) (by rw [HS.out]; simp [h1])
          clear HS
          have e1 : (x == y) = false := by simp [h1]
          go_upto_region 6 with fail
          go_quiet (exact Calls.quiet_of (HC.out _))
          go_wp2_with fail
          go_ret
          exact ⟨by simp [HX.out], quiet_more HR.out _⟩
      · have hi' : i = n := by omega
        subst hi'
        have HE := Lib.hid (sameBk_end (As := As) (Bs := Bs) (by omega) (fun j hj => HW.out j (by omega)))
        go_wp2_with fail
        go_ret
        exact ⟨by rw [HE.out]; simp, HR.out⟩
  · have HN : Hid (As ≠ Bs) := fun e => hne (by rw [← hal, ← hbl, e])
    go_enter Try.func19, Try.ntmps19
    go_wp2_with fail
    go_ret
    exact ⟨by simp [HN.out], 0, rfl⟩
end Go.Proofs.Ytafhdpalobalkaa
