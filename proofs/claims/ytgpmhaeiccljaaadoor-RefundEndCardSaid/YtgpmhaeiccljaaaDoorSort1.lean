/- swapRangeCmpFunc and rotateCmpFunc at []int. -/
import Derived.Test.YtgpmhaeiccljaaaDoorProg
import Derived.Test.YtgpmhaeiccljaaaDoorRow
namespace Go.Proofs.YtgpmhaeiccljaaaDoor
open Go.RowKit

/-- The exchange of two ranges, from the front, k steps done. -/
def swapN (D : List Int) (a b : Nat) : Nat → List Int
  | 0 => D
  | k + 1 => swp (swapN D a b k) (a + k) (b + k)

theorem swapN_length (D : List Int) (a b k : Nat) : (swapN D a b k).length = D.length := by
  induction k with
  | zero => rfl
  | succ k ih => rw [swapN, swp_length, ih]

theorem ix_swapN (D : List Int) (a b n k : Nat) (hab : a + n ≤ b) (hbn : b + n ≤ D.length) :
    ix (swapN D a b n) k = if a ≤ k ∧ k < a + n then ix D (k - a + b) else if b ≤ k ∧ k < b + n then ix D (k - b + a) else ix D k := by
  induction n generalizing k with
  | zero =>
    rw [if_neg (by omega), if_neg (by omega)]; rfl
  | succ n ih =>
    have hl := swapN_length D a b n
    rw [swapN, ix_swp _ _ _ _ (by omega) (by omega), ih _ (by omega) (by omega), ih _ (by omega) (by omega), ih _ (by omega) (by omega)]
    by_cases h1 : b + n = k
    · rw [if_pos h1, if_neg (by omega), if_neg (by omega), if_neg (by omega), if_pos (by omega), show k - b + a = a + n from by omega]
    · rw [if_neg h1]
      by_cases h2 : a + n = k
      · rw [if_pos h2, if_neg (by omega), if_neg (by omega), if_pos (by omega), show k - a + b = b + n from by omega]
      · rw [if_neg h2]
        by_cases h3 : a ≤ k ∧ k < a + n
        · rw [if_pos h3, if_pos (by omega)]
        · rw [if_neg h3]
          by_cases h4 : b ≤ k ∧ k < b + n
          · rw [if_pos h4, if_neg (by omega), if_pos (by omega)]
          · rw [if_neg h4, if_neg (by omega), if_neg (by omega)]

theorem swapN_parts (P X Y Z S : List Int) (hXZ : X.length = Z.length) :
    swapN (P ++ (X ++ (Y ++ (Z ++ S)))) P.length (P.length + X.length + Y.length) X.length = P ++ (Z ++ (Y ++ (X ++ S))) := by
  apply list_ext_ix
  · rw [swapN_length]; simp; omega
  · intro k hk
    rw [swapN_length] at hk
    simp only [List.length_append] at hk
    rw [ix_swapN _ _ _ _ _ (by omega) (by simp; omega)]
    simp only [ix_append]
    by_cases h1 : k < P.length
    · simp [h1, show ¬ (P.length ≤ k) from by omega, show ¬ (P.length + X.length + Y.length ≤ k) from by omega]
    · by_cases h2 : k < P.length + X.length
      · rw [if_pos (by omega)]
        repeat (first | rw [if_neg (by omega)] | rw [if_pos (by omega)])
        congr 1; omega
      · rw [if_neg (by omega)]
        by_cases h3 : P.length + X.length + Y.length ≤ k ∧ k < P.length + X.length + Y.length + X.length
        · rw [if_pos h3]
          repeat (first | rw [if_neg (by omega)] | rw [if_pos (by omega)])
          congr 1; omega
        · rw [if_neg h3]
          by_cases h4 : k < P.length + X.length + Y.length
          · repeat (first | rw [if_neg (by omega)] | rw [if_pos (by omega)])
            congr 1; omega
          · repeat (first | rw [if_neg (by omega)] | rw [if_pos (by omega)])
            congr 1; omega

set_option maxHeartbeats 400000 in
theorem swapRange_any (f : Nat) (cap : Array Value) (g T c a b n : Nat) (D : List Int) (w : World)
    (hR : IntRow w g T D) (hab : a + n ≤ b) (hbn : b + n ≤ D.length) (hD : D.length ≤ 4000) :
    Calls Tryd.prog 82 #[.slice (some ⟨g, 0, none⟩) D.length c, .int .i64 a, .int .i64 b, .int .i64 n, .func (.func f) #[] cap] w
      fun e w' => e = .returned (.tuple #[]) ∧ w.grownBy w' (some g) ∧ IntRow w' g T (swapN D a b n) := by
  go_enter Tryd.func82, Tryd.ntmps82
  go_wp2
  go_loopw [10] (fun k wr => ∃ i : Nat, i ≤ n ∧ k = .int .i64 i ∧ w.grownBy wr (some g) ∧ IntRow wr g T (swapN D a b i))
    (fun k _ => n - (intOf k).toNat)
  case atStart => exact ⟨0, Nat.zero_le _, rfl, grown_refl _ _, hR⟩
  case round =>
    obtain ⟨i, hi, rfl, hg, hr⟩ := hrel
    by_cases hlt : i < n
    · have hl := swapN_length D a b i
      have c1 := hr.cell (a + i) (by omega)
      have c2 := hr.cell (b + i) (by omega)
      have f1 := hr.free (a + i)
      have f2 := hr.free (b + i)
      have HN := Lib.hid (hr.swp (a + i) (b + i) (by omega) (by omega))
      have HL := Lib.hid hl
      clear hr hl
      generalize ix (swapN D a b i) (a + i) = x at *
      generalize ix (swapN D a b i) (b + i) = y at *
      go_wp2_with fail
      go_region
      go_wp2
      go_roundw
      case rel => exact ⟨i + 1, by omega, by go_num, grown_trans hg (grown_trans (grown_setCell _ _ _ _) (grown_trans (grown_setCell _ _ _ _) (grown_drew1 _ _))), HN.out⟩
      case measure => simp [intOf]; omega
    · go_wp2
      go_end0
      obtain rfl : i = n := by omega
      exact ⟨rfl, hg, hr⟩
/-- The exchange of two ranges of the same length, by parts. -/
theorem swapRange_parts (f : Nat) (cap : Array Value) (g T c : Nat) (a b n : Int) (l : Nat) (P X Y Z S : List Int) (w : World) (hl : l = (P ++ (X ++ (Y ++ (Z ++ S)))).length)
    (hR : IntRow w g T (P ++ (X ++ (Y ++ (Z ++ S))))) (hXZ : X.length = Z.length) (ha : a = P.length) (hb : b = P.length + X.length + Y.length) (hn : n = X.length) (hD : (P ++ (X ++ (Y ++ (Z ++ S)))).length ≤ 4000) :
    Calls Tryd.prog 82 #[.slice (some ⟨g, 0, none⟩) l c, .int .i64 a, .int .i64 b, .int .i64 n, .func (.func f) #[] cap] w
      fun e w' => e = .returned (.tuple #[]) ∧ w.grownBy w' (some g) ∧ IntRow w' g T (P ++ (Z ++ (Y ++ (X ++ S)))) := by
  have h := swapRange_any f cap g T c P.length (P.length + X.length + Y.length) X.length _ w hR (by omega) (by simp; omega) hD
  rw [swapN_parts P X Y Z S hXZ] at h
  rw [ha, hb, hn, hl]
  simpa using h

set_option maxHeartbeats 1000000 in
theorem rotate_any (f : Nat) (cap : Array Value) (g T c l : Nat) (a m b : Int) (P U V S : List Int) (w : World) (hl : l = (P ++ (U ++ (V ++ S))).length) (hD : l ≤ 4000)
    (hR : IntRow w g T (P ++ (U ++ (V ++ S)))) (ha : a = P.length) (hm : m = P.length + U.length) (hb : b = P.length + U.length + V.length) (hU : 0 < U.length) (hV : 0 < V.length) :
    Calls Tryd.prog 76 #[.slice (some ⟨g, 0, none⟩) l c, .int .i64 a, .int .i64 m, .int .i64 b, .func (.func f) #[] cap] w
      fun e w' => e = .returned (.tuple #[]) ∧ w.grownBy w' (some g) ∧ IntRow w' g T (P ++ (V ++ (U ++ S))) := by
  have hl' : l = P.length + (U.length + (V.length + S.length)) := by simpa using hl
  have b1 : 0 ≤ a ∧ a ≤ 4000 := by omega
  have b2 : a ≤ m ∧ m ≤ 4000 := by omega
  have b3 : m ≤ b ∧ b ≤ 4000 := by omega
  obtain ⟨u, hu⟩ : ∃ u : Nat, u = U.length := ⟨_, rfl⟩
  obtain ⟨v, hv⟩ : ∃ v : Nat, v = V.length := ⟨_, rfl⟩
  have HA := Lib.hid ha; have HM := Lib.hid hm; have HB := Lib.hid hb; have HL := Lib.hid hl; have HL' := Lib.hid hl'
  have e1 : Hid (m - a = u) := by show _ = _; omega
  have e2 : Hid (b - m = v) := by show _ = _; omega
  have HU := Lib.hid hu; have HV := Lib.hid hv
  have hu0 : 0 < u := by omega
  have hv0 : 0 < v := by omega
  clear ha hm hb hl hl' hu hv hU hV
  go_enter Tryd.func76, Tryd.ntmps76
  go_wp2
  go_loopw [10, 11] (fun i j wr => ∃ L U' V' R : List Int, i = .int .i64 U'.length ∧ j = .int .i64 V'.length ∧ 0 < U'.length ∧ 0 < V'.length ∧ Hid (L.length + U'.length = P.length + U.length) ∧
      Hid ((L ++ (U' ++ (V' ++ R))).length = l) ∧ Hid (L ++ (V' ++ (U' ++ R)) = P ++ (V ++ (U ++ S))) ∧ w.grownBy wr (some g) ∧ IntRow wr g T (L ++ (U' ++ (V' ++ R))))
    (fun i j _ => (intOf i).toNat + (intOf j).toNat)
  case atStart => exact ⟨P, U, V, S, by rw [e1.out, HU.out], by rw [e2.out, HV.out], by rw [← HU.out]; exact hu0, by rw [← HV.out]; exact hv0, rfl, HL.out.symm, rfl, grown_refl _ _, hR⟩
  case round =>
    obtain ⟨L, U', V', R, rfl, rfl, hU', hV', H1, H2, H3, hg, hr⟩ := hrel
    have hlen : Hid (L.length + (U'.length + (V'.length + R.length)) = l) := by have := H2.out; simpa [Hid] using this
    have b4 : U'.length ≤ 4000 := by have := hlen.out; omega
    have b5 : V'.length ≤ 4000 := by have := hlen.out; omega
    have b6 : (U'.length : Int) ≤ m := by have := hlen.out; have := H1.out; have := HM.out; omega
    clear hR
    rcases Nat.lt_trichotomy U'.length V'.length with h | h | h
    · have t1 : ((U'.length : Int) != (V'.length : Int)) = true := by rw [bne_iff_ne]; omega
      obtain ⟨Y, Z, hV2, hZ⟩ : ∃ Y Z : List Int, V' = Y ++ Z ∧ Z.length = U'.length := ⟨V'.take (V'.length - U'.length), V'.drop (V'.length - U'.length), (List.take_append_drop _ _).symm, by simp; omega⟩
      have hYl : V'.length = Y.length + Z.length := by rw [hV2]; simp
      have hY : 0 < Y.length := by omega
      have hyz : Hid ((V'.length : Int) - (U'.length : Int) = Y.length) := by show _ = _; omega
      have hr1 : IntRow wr g T (L ++ (U' ++ (Y ++ (Z ++ R)))) := by rw [hV2] at hr; simpa using hr
      have hlen1 : Hid (l = (L ++ (U' ++ (Y ++ (Z ++ R)))).length) := by have := hlen.out; simp [Hid]; omega
      have H3' : Hid (L ++ (Y ++ (Z ++ (U' ++ R))) = P ++ (V ++ (U ++ S))) := by have := H3.out; rw [hV2] at this; simpa [Hid] using this
      have HZ := Lib.hid hZ; have HYl := Lib.hid hYl
      clear hZ hYl hV2 hr
      go_wp2_with fail
      refine (swapRange_parts f cap g T c _ _ _ l L U' Y Z R wr hlen1.out hr1 HZ.out.symm (by have := HM.out; have := H1.out; omega) (by have := HM.out; have := H1.out; have := HZ.out; have := HYl.out; omega) rfl (by have := hlen1.out; omega)).mono ?_
      rintro e w1 ⟨rfl, hg1, hr1⟩
      go_wp2
      go_roundw
      case rel => exact ⟨L, Z, Y, U' ++ R, by rw [HZ.out], by rw [hyz.out], by rw [HZ.out]; exact hU', hY, by rw [HZ.out]; exact H1.out, by have h1 := hlen1.out; have h2 := HZ.out; simp [Hid] at h1 h2 ⊢; omega, by have := H3'.out; simpa [Hid] using this, grown_trans hg hg1, hr1⟩
      case measure => have := hyz.out; simp only [intOf]; omega
    · have t1 : ((U'.length : Int) != (V'.length : Int)) = false := by rw [bne_eq_false_iff_eq]; omega
      have hr1 : IntRow wr g T (L ++ (U' ++ ([] ++ (V' ++ R)))) := hr
      have HE := Lib.hid h; clear h hr
      go_wp2_with fail
      refine (swapRange_parts f cap g T c _ _ _ l L U' [] V' R wr (by have := H2.out; simp at *; omega) hr1 HE.out (by have := HM.out; have := H1.out; omega) (by have := HM.out; have := H1.out; simp; omega) rfl (by have := H2.out; simp at *; omega)).mono ?_
      rintro e w1 ⟨rfl, hg1, hr1⟩
      go_wp2
      go_end0
      exact ⟨rfl, grown_trans hg hg1, by have h3 := H3.out; rw [← h3]; simpa using hr1⟩
    · have t1 : ((U'.length : Int) != (V'.length : Int)) = true := by rw [bne_iff_ne]; omega
      obtain ⟨X, Y, hU2, hX⟩ : ∃ X Y : List Int, U' = X ++ Y ∧ X.length = V'.length := ⟨U'.take V'.length, U'.drop V'.length, (List.take_append_drop _ _).symm, by simp; omega⟩
      have hYl : U'.length = X.length + Y.length := by rw [hU2]; simp
      have hY : 0 < Y.length := by omega
      have hxy : Hid ((U'.length : Int) - (V'.length : Int) = Y.length) := by show _ = _; omega
      have hr1 : IntRow wr g T (L ++ (X ++ (Y ++ (V' ++ R)))) := by rw [hU2] at hr; simpa using hr
      have hlen1 : Hid (l = (L ++ (X ++ (Y ++ (V' ++ R)))).length) := by have := hlen.out; simp [Hid]; omega
      have H3' : Hid (L ++ (V' ++ (X ++ (Y ++ R))) = P ++ (V ++ (U ++ S))) := by have := H3.out; rw [hU2] at this; simpa [Hid] using this
      have HX := Lib.hid hX; have HYl := Lib.hid hYl
      clear hX hYl hU2 hr
      go_wp2_with fail
      refine (swapRange_parts f cap g T c _ _ _ l L X Y V' R wr hlen1.out hr1 HX.out (by have := HM.out; have := H1.out; have := HYl.out; omega) (by have := HM.out; have := H1.out; have := HYl.out; omega) (by rw [HX.out]) (by have := hlen1.out; omega)).mono ?_
      rintro e w1 ⟨rfl, hg1, hr1⟩
      go_wp2
      go_roundw
      case rel => exact ⟨L ++ V', Y, X, R, by rw [hxy.out], by rw [HX.out], hY, by rw [HX.out]; exact hV', by have := H1.out; have := HX.out; have := HYl.out; simp [Hid]; omega, by have := hlen1.out; have := HX.out; simp [Hid] at *; omega, by have := H3'.out; simpa [Hid] using this, grown_trans hg hg1, by simpa using hr1⟩
      case measure => have := hxy.out; simp only [intOf]; omega
end Go.Proofs.YtgpmhaeiccljaaaDoor
