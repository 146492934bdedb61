/- money.Sum, foyerref01.Ints: the walks; closed facts. -/
import Derived.Test.YtiapfpdkcdhhoaaDoorMS
namespace Go.Proofs.YtiapfpdkcdhhoaaDoor
open Go.RowKit Go.IntWalk

theorem amt_neg (z : Int) : amtB (-z) = amtB z := by
  rw [Bool.eq_iff_iff, amtB_iff, amtB_iff]
  unfold Amt
  omega

theorem enter_sum1 (args : Array Value) (w : World) : (callFunc 35 args).run Tryd.prog w = .ok (.enter 35 args) w := by
  kernel_rfl

theorem sum1_any (x : Int) (w : World) : Calls Tryd.prog 35 #[.int .i64 x] w fun e w' => e = .returned (.bool (!amtB x)) ∧ w = w' := by
  go_enter Tryd.func35, Tryd.ntmps35
  go_wp2_with fail
  refine (mvalid_any x w).mono ?_
  rintro e w' ⟨rfl, rfl⟩
  go_wp2_with fail
  go_ret
  exact ⟨rfl, rfl⟩

/-- What Sum returns. -/
def sumR (L : List Int) : Int × Int := if L.all amtB = true then (if amtB (sumN (ix L) L.length) = true then (sumN (ix L) L.length, 0) else (0, 2)) else (0, 1)

theorem all_ix (p : Int → Bool) (L : List Int) : L.all p = true ↔ ∀ i, i < L.length → p (ix L i) = true := by
  rw [List.all_eq_true]
  constructor
  · intro h i hi
    rw [ix_eq _ _ hi]
    exact h _ (List.getElem_mem hi)
  · intro h x hx
    obtain ⟨i, hi, rfl⟩ := List.getElem_of_mem hx
    have := h i hi
    rwa [ix_eq _ _ hi] at this

set_option maxRecDepth 10000 in
set_option maxHeartbeats 800000 in
theorem sum_any (ra : Option Addr) (k c : Nat) (L : List Int) (w : World) (hk : k ≤ 100000) (hL : Ints w ra k L) :
    Calls Tryd.prog 18 #[.slice ra k c] w fun e w' => e = .returned (.tuple #[.int .i64 (sumR L).1, .int .i64 (sumR L).2]) ∧ w = w' := by
  have HL := Lib.hid hL
  have hlen : L.length = k := hL.1
  have HN := Lib.hid hlen
  have HCT := Lib.hid (contains_any 35 (fun x => !amtB x) ra k c L w (by omega) enter_sum1 hL sum1_any)
  clear hL hlen
  go_enter Tryd.func18, Tryd.ntmps18
  go_wp2_with fail
  refine HCT.out.mono ?_
  rintro e w2 ⟨rfl, q, rfl, hq⟩
  have HQ := Lib.hid hq
  clear hq
  cases q
  · have hin : ∀ i, i < k → amtB (ix L i) = true := fun i hi => by
      cases hb : amtB (ix L i)
      · exact absurd (HQ.out.2 ⟨i, hi, by simp [hb]⟩) (by simp)
      · rfl
    have HALL : Hid (sumR L = if amtB (sumN (ix L) k) = true then (sumN (ix L) k, 0) else (0, 2)) := by
      show _ = _
      unfold sumR
      rw [if_pos ((all_ix _ _).mpr (by rw [HN.out]; exact hin)), HN.out]
    have HSM := Lib.hid (msum_any ra k c L w (by omega) HL.out (fun i hi => (amtB_iff _).mp (hin i hi)))
    clear hin HCT HQ
    go_wp2_with fail
    refine HSM.out.mono ?_
    rintro e w3 ⟨rfl, rfl⟩
    obtain ⟨s, hs⟩ : ∃ z, sumN (ix L) k = z := ⟨_, rfl⟩
    rw [hs] at HALL ⊢
    clear hs HSM
    go_wp2_with fail
    refine (mvalid_any s w).mono ?_
    rintro e w3 ⟨rfl, rfl⟩
    obtain ⟨b, hb⟩ : ∃ b, amtB s = b := ⟨_, rfl⟩
    rw [hb] at HALL ⊢
    clear hb
    cases b
    · have HF : Hid (sumR L = (0, 2)) := HALL.out
      go_wp2_with fail
      go_ret2
      exact ⟨by rw [HF.out]; rfl, rfl⟩
    · have HF : Hid (sumR L = (s, 0)) := HALL.out
      go_wp2_with fail
      go_ret2
      exact ⟨by rw [HF.out]; rfl, rfl⟩
  · have HF : Hid (sumR L = (0, 1)) := by
      show _ = _
      unfold sumR
      obtain ⟨j, hj, h⟩ := HQ.out.1 rfl
      rw [if_neg (fun ha => by have := (all_ix _ _).mp ha j (by rw [HN.out]; exact hj); dsimp only at h; rw [this] at h; simp at h)]
    go_wp2_with fail
    go_ret2
    exact ⟨by rw [HF.out]; rfl, rfl⟩

/-- What Ints returns. -/
def IntsPost (A B : List Int) (w : World) (e : Ending) (w' : World) : Prop := e = .returned (.bool (decide (A = B))) ∧ ∃ q, w' = w.drewN q

set_option maxRecDepth 10000 in
set_option maxHeartbeats 800000 in
theorem ints_any (ra rb : Option Addr) (n m c d : Nat) (A B : List Int) (w : World) (hn : n ≤ 1000000) (hm : m ≤ 1000000) (hA : Ints w ra n A) (hB : Ints w rb m B) :
    Calls Tryd.prog 15 #[.slice ra n c, .slice rb m d] w (IntsPost A B w) := by
  have HA := Lib.hid hA
  have HB := Lib.hid hB
  clear hA hB
  go_enter Tryd.func15, Tryd.ntmps15
  by_cases he : n = m
  · subst he
    go_wp2_with fail
    go_loopw [5] (fun v wr => ∃ i : Nat, v = .int .i64 i ∧ i ≤ n ∧ Hid (∀ j, j < i → ix A j = ix B j) ∧ ∃ q, wr = w.drewN q)
      (fun v _ => n - (intOf v).toNat)
    case atStart => exact ⟨0, rfl, Nat.zero_le _, by simp [Hid], 0, rfl⟩
    case round =>
      obtain ⟨i, rfl, hi, HE, q, rfl⟩ := hrel
      by_cases hlt : i < n
      · obtain ⟨b1, o1, rfl, c1⟩ := (HA.out.below (below_drewN (Below.refl _ _) q)).2 i hlt
        obtain ⟨b2, o2, rfl, c2⟩ := (HB.out.below (below_drewN (Below.refl _ _) q)).2 i hlt
        obtain ⟨x, hx⟩ : ∃ z, ix A i = z := ⟨_, rfl⟩
        obtain ⟨y, hy⟩ : ∃ z, ix B i = z := ⟨_, rfl⟩
        rw [hx] at c1
        rw [hy] at c2
        have HX := Lib.hid hx
        have HY := Lib.hid hy
        clear hx hy
        generalize hw : w.drewN q = wq at *
        have HWQ := Lib.hid hw
        clear hw
        by_cases hxy : x = y
        · subst hxy
          have e1 : (x != x) = false := by simp
          go_wp2_with fail
          go_quiet (fail)
          go_wp2_with fail
          go_roundw
          case rel => exact ⟨i + 1, by go_num, by omega, by
            intro j hj
            by_cases e : j = i
            · subst e; rw [HX.out, HY.out]
            · exact HE.out j (by omega), q + nq, by rw [← HWQ.out]; exact World.drewN_drewN ..⟩
          case measure => simp [intOf]; omega
        · have e1 : (x != y) = true := by simp; exact hxy
          have HF : Hid (decide (A = B) = false) := by
            show _ = _
            simp
            rintro rfl
            exact hxy (HX.out.symm.trans HY.out)
          go_wp2_with fail
          go_quiet (fail)
          go_wp2_with fail
          go_ret
          exact ⟨by rw [HF.out]; rfl, q + nq, by rw [← HWQ.out]; exact World.drewN_drewN ..⟩
      · obtain rfl : i = n := by omega
        have HF : Hid (decide (A = B) = true) := by
          show _ = _
          simp
          exact list_ext_ix (by rw [HA.out.1, HB.out.1]) (fun j hj => HE.out j (by rw [← HA.out.1]; exact hj))
        go_wp2_with fail
        go_ret
        exact ⟨by rw [HF.out]; rfl, q, rfl⟩
  · have HF : Hid (decide (A = B) = false) := by
      show _ = _
      simp
      rintro rfl
      exact he (HA.out.1.symm.trans HB.out.1)
    have e1 : (n != m) = true := by simp; exact he
    go_wp2_with fail
    go_ret
    exact ⟨by rw [HF.out]; rfl, 0, rfl⟩

/-! ### Closed facts -/
theorem split_known (n : Int) (W S : List Int) (ra : Option Addr) (k c : Nat) (w : World) (hk : k ≤ 100) (hW : Ints w ra k W) (h1 : splitB n W = true) (h2 : splitS n W = S) :
    Calls Tryd.prog 13 #[.int .i64 n, .slice ra k c] w fun e w' => ∃ g, e = .returned (.tuple #[.slice (some ⟨g, 0, none⟩) k k, .int .i64 0]) ∧ Below w.heap.size w w' ∧ Ints w' (some ⟨g, 0, none⟩) k S := by
  refine (split_any n ra k c W w hk hW).mono ?_
  rintro e w' ⟨hb, h | h⟩
  · rw [h1] at h; exact absurd h.1 (by simp)
  · obtain ⟨_, g, rfl, _, hr⟩ := h
    have hi := hr.ints
    rw [splitS_length, hW.1, h2] at hi
    exact ⟨g, by rw [hW.1], hb, hi⟩

theorem share_known (n num den x y : Int) (w : World) (h : shareS n num den = (x, y)) : Calls Tryd.prog 11 #[.int .i64 n, .agg #[.int .i64 num, .int .i64 den]] w fun e w' => e = .returned (.tuple #[.int .i64 x, .int .i64 y]) ∧ Below w.heap.size w w' := by
  have := share_any n num den w
  rw [h] at this
  exact this

theorem ints3 (w : World) (T : TypeId) (a b c : Int) : Ints (w.alloc (.cells #[.int .i64 a, .int .i64 b, .int .i64 c] T)) (some ⟨w.heap.size, 0, none⟩) 3 [a, b, c] :=
  ⟨rfl, fun k hk => ⟨w.heap.size, 0, rfl, by
    match k, hk with
    | 0, _ => simp [World.cell?_alloc_new, ix]
    | 1, _ => simp [World.cell?_alloc_new, ix]
    | 2, _ => simp [World.cell?_alloc_new, ix]⟩⟩

end Go.Proofs.YtiapfpdkcdhhoaaDoor
