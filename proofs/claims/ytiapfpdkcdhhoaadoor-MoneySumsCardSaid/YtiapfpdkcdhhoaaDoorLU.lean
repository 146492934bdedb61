/- foyerlaw01.MoneySums: the walk. -/
import Derived.Test.YtiapfpdkcdhhoaaDoorMH
import Derived.Test.YtiapfpdkcdhhoaaDoorOwn
import Derived.Deep.DeepCutAuto
namespace Go.Proofs.YtiapfpdkcdhhoaaDoor
open Go.RowKit Go.IntWalk

def lsum : List Int → Int
  | [] => 0
  | x :: l => x + lsum l

theorem lsum_append (A B : List Int) : lsum (A ++ B) = lsum A + lsum B := by
  induction A with
  | nil => simp [lsum]
  | cons x A ih => rw [List.cons_append, lsum, lsum, ih]; omega

theorem lsum_reverse (A : List Int) : lsum A.reverse = lsum A := by
  induction A with
  | nil => rfl
  | cons x A ih => rw [List.reverse_cons, lsum_append, ih, lsum, lsum, lsum]; omega

theorem sumN_lsum (A : List Int) : sumN (ix A) A.length = lsum A := by
  have key : ∀ n, n ≤ A.length → sumN (ix A) n = lsum (A.take n) := by
    intro n
    induction n with
    | zero => intro _; rfl
    | succ n ih =>
      intro hn
      rw [sumN, ih (by omega), List.take_succ_eq_append_getElem (by omega), lsum_append, ix_eq _ _ (by omega)]
      simp [lsum]
  rw [key A.length (Nat.le_refl _), List.take_length]

theorem sum_form (X : List Int) : sumR X = if X.all amtB = true then (if amtB (lsum X) = true then (lsum X, 0) else (0, 2)) else (0, 1) := by
  unfold sumR
  rw [sumN_lsum]

theorem sum_cases (X : List Int) : (X.all amtB = false ∧ sumR X = (0, 1)) ∨ (X.all amtB = true ∧ amtB (lsum X) = false ∧ sumR X = (0, 2)) ∨ (X.all amtB = true ∧ amtB (lsum X) = true ∧ sumR X = (lsum X, 0)) := by
  rw [sum_form]
  cases h1 : X.all amtB
  · exact .inl ⟨rfl, rfl⟩
  · cases h2 : amtB (lsum X)
    · exact .inr (.inl ⟨rfl, rfl, rfl⟩)
    · exact .inr (.inr ⟨rfl, rfl, rfl⟩)

theorem ints2 (w : World) (T : TypeId) (a b : Int) : Ints (w.alloc (.cells #[.int .i64 a, .int .i64 b] T)) (some ⟨w.heap.size, 0, none⟩) 2 [a, b] :=
  ⟨rfl, fun k hk => ⟨w.heap.size, 0, rfl, by
    match k, hk with
    | 0, _ => simp [World.cell?_alloc_new, ix]
    | 1, _ => simp [World.cell?_alloc_new, ix]⟩⟩

/-- The lists, from the end, down to place j. -/
def turnS (A : List Int) (j : Nat) : List Int := (A.drop j).reverse

theorem turn_step (A : List Int) (j : Nat) (h : j < A.length) : turnS A j = turnS A (j + 1) ++ [ix A j] := by
  unfold turnS
  rw [List.drop_eq_getElem_cons h, List.reverse_cons, ix_eq _ _ h]

theorem turn_len (A : List Int) (j : Nat) : (turnS A j).length = A.length - j := by unfold turnS; simp

theorem sum_known (X : List Int) (a b : Int) (ra : Option Addr) (k c : Nat) (w : World) (hk : k ≤ 100000) (hX : Ints w ra k X) (h : sumR X = (a, b)) :
    Calls Tryd.prog 18 #[.slice ra k c] w fun e w' => e = .returned (.tuple #[.int .i64 a, .int .i64 b]) ∧ w = w' := by
  have := sum_any ra k c X w hk hX
  rw [h] at this
  exact this

set_option maxRecDepth 20000 in
set_option maxHeartbeats 6400000 in
theorem moneySums_any (ra : Option Addr) (n c : Nat) (L : List Int) (rb : Option Addr) (m d : Nat) (M : List Int) (w : World) (hk : Kit w) (hnm : n ≤ 9223372036854775807) (hL : Ints w ra n L) (hmm : m ≤ 9223372036854775807) (hM : Ints w rb m M) :
    Calls Tryd.prog 9 #[.slice ra n c, .slice rb m d] w (LawPost w) := by
  obtain ⟨i0, hi, hz0, hz1, hz2⟩ := info_parts Tryd_infoInt
  have HI := Lib.hid hi
  have HZ := Lib.hid (And.intro hz0 (And.intro hz1 hz2))
  clear hi hz0 hz1 hz2
  have HK := Lib.hid hk
  have HL := Lib.hid hL
  have HM := Lib.hid hM
  clear hk hL hM
  go_enter Tryd.func9, Tryd.ntmps9
  go_wp2_with fail
  refine (head_any w HK.out).mono ?_
  rintro e w1 ⟨rfl, hb⟩
  have HB := Lib.hid hb
  have HL1 := Lib.hid (HL.out.below hb)
  have HM1 := Lib.hid (HM.out.below hb)
  clear hb HL HM HK
  by_cases hln : 100 < n
  · have f1 : decide (100 < n) = true := by simp; exact hln
    go_wp2_with fail
    go_ret
    exact ⟨rfl, HB.out⟩
  by_cases hlm : 100 < m
  · have f1 : decide (100 < n) = false := by simp; omega
    have f2 : decide (100 < m) = true := by simp; exact hlm
    go_wp2_with fail
    go_ret
    exact ⟨rfl, HB.out⟩
  have hn : n ≤ 100 := by omega
  have hm : m ≤ 100 := by omega
  clear hln hlm hnm hmm
  have HA : Hid ((L ++ M).length = n + m) := by show _ = _; rw [List.length_append, HL1.out.1, HM1.out.1]
  have HIXL : Hid (∀ i, i < n → ix (L ++ M) i = ix L i) := fun i hi => by rw [ix_append, if_pos (by rw [HL1.out.1]; exact hi)]
  have HIXM : Hid (∀ i, n ≤ i → ix (L ++ M) i = ix M (i - n)) := fun i hi => by rw [ix_append, if_neg (by rw [HL1.out.1]; omega), HL1.out.1]
  obtain ⟨A, hA⟩ : ∃ A, L ++ M = A := ⟨_, rfl⟩
  have HAA := Lib.hid hA
  rw [hA] at HA HIXL HIXM
  clear hA
  go_upto_region 5 with fail
  go_wp2_with fail
  go_loopw [6, 7] (fun v6 v7 wr => ∃ (j : Nat) (z : Int), v7 = .int .i64 z ∧ z = (j : Int) - 1 ∧ j ≤ n + m ∧ Hid (wr.ownsRow w1.heap.size 3 1 v6 (n + m - j) ((turnS A j).map (Value.int .i64))) ∧ Hid (Below w1.heap.size w1 wr))
    (fun _ v7 _ => (intOf v7 + 1).toNat)
  case atStart => exact ⟨n + m, _, rfl, by omega, Nat.le_refl _, by
    show World.ownsRow _ _ _ _ _ _ _
    rw [Nat.sub_self]
    unfold turnS
    rw [List.drop_of_length_le (by rw [HA.out]; exact Nat.le_refl _)]
    exact World.ownsRow_nil _ _ _ _, Below.refl _ _⟩
  case round =>
    obtain ⟨j, z, rfl, hz, hj, HOWN, HBW⟩ := hrel
    by_cases hj0 : 0 < j
    · obtain ⟨i, rfl⟩ : ∃ i, j = i + 1 := ⟨j - 1, by omega⟩
      obtain rfl : z = (i : Nat) := by omega
      clear hz hj0
      obtain ⟨x, hx⟩ : ∃ x, ix A i = x := ⟨_, rfl⟩
      have HX := Lib.hid hx
      by_cases hin : i < n
      · have c1 : ∃ b o, ra = some ⟨b, o, none⟩ ∧ wr.cell? ⟨b, o + i, none⟩ = some (.int .i64 x) := by
          obtain ⟨b, o, e, c⟩ := (HL1.out.below HBW.out).2 i hin
          rw [← HIXL.out i hin, hx] at c
          exact ⟨b, o, e, c⟩
        obtain ⟨b, o, rfl, c1⟩ := c1
        clear hx
        have fin : decide (i < n) = true := by simp; exact hin
        have hi := HI.out
        have hwsz := HBW.out.size
        have hz0 := HZ.out.1
        have hz1 := HZ.out.2.1
        have hz2 := HZ.out.2.2

        go_wp2_with (at_builtin; refine wpList_append_own _ rfl _ _ 30 rfl w1.heap.size 3 i0 (.int .i64 0) 1 8 Tryd.underlying30 hi hz0 hz1 hz2 rfl (by decide) _ _ _ rfl (HOWN.out.alloc _) ⟨wr.heap.size, 0, none⟩ 1 1 [.int .i64 x] rfl rfl ?c1 ?c2 ?c3 ?c4 ?c5 ?_)
        case c1 =>
          intro j u hj
          match j, hj with
          | 0, hj => simp at hj; subst hj; simp [Addr.add]
        case c2 => intro u hu; simp at hu; subst hu; rfl
        case c3 => unfold maxLen; omega
        case c4 => omega
        case c5 => simp; omega
        intro v' w2 hown' hgrow _
        have HB2 : Hid (Below w1.heap.size w1 w2) := (HBW.out.alloc HBW.out.size _).grown hgrow (by have := HBW.out.size; simp; omega) (fun q hq => by have := (HOWN.out.lt q hq).1; omega)
        have HOWN2 : Hid (w2.ownsRow w1.heap.size 3 1 v' (n + m - i) ((turnS A i).map (Value.int .i64))) := by
          show World.ownsRow _ _ _ _ _ _ _
          rw [turn_step A i (by rw [HA.out]; omega), List.map_append, HX.out, show n + m - i = (n + m - (i + 1)) + 1 from by omega]
          exact hown'
        clear hown' hgrow HOWN HBW hi hz0 hz1 hz2 hwsz
        go_wp2_with fail
        go_roundw
        case rel => exact ⟨i, _, rfl, rfl, by omega, HOWN2, HB2⟩
        case measure => first | (simp [intOf]; done) | (simp [intOf]; omega)

      · have c1 : ∃ b o, rb = some ⟨b, o, none⟩ ∧ wr.cell? ⟨b, o + (i - n), none⟩ = some (.int .i64 x) := by
          obtain ⟨b, o, e, c⟩ := (HM1.out.below HBW.out).2 (i - n) (by omega)
          rw [← HIXM.out i (by omega), hx] at c
          exact ⟨b, o, e, c⟩
        obtain ⟨b, o, rfl, c1⟩ := c1
        clear hx
        have fin : decide (i < n) = false := by simp; omega
        have hi := HI.out
        have hwsz := HBW.out.size
        have hz0 := HZ.out.1
        have hz1 := HZ.out.2.1
        have hz2 := HZ.out.2.2
        have esub : (i : Int) - n = ((i - n : Nat) : Int) := by omega
        go_wp2_with (at_builtin; refine wpList_append_own _ rfl _ _ 30 rfl w1.heap.size 3 i0 (.int .i64 0) 1 8 Tryd.underlying30 hi hz0 hz1 hz2 rfl (by decide) _ _ _ rfl (HOWN.out.alloc _) ⟨wr.heap.size, 0, none⟩ 1 1 [.int .i64 x] rfl rfl ?c1 ?c2 ?c3 ?c4 ?c5 ?_)
        case c1 =>
          intro j u hj
          match j, hj with
          | 0, hj => simp at hj; subst hj; simp [Addr.add]
        case c2 => intro u hu; simp at hu; subst hu; rfl
        case c3 => unfold maxLen; omega
        case c4 => omega
        case c5 => simp; omega
        intro v' w2 hown' hgrow _
        have HB2 : Hid (Below w1.heap.size w1 w2) := (HBW.out.alloc HBW.out.size _).grown hgrow (by have := HBW.out.size; simp; omega) (fun q hq => by have := (HOWN.out.lt q hq).1; omega)
        have HOWN2 : Hid (w2.ownsRow w1.heap.size 3 1 v' (n + m - i) ((turnS A i).map (Value.int .i64))) := by
          show World.ownsRow _ _ _ _ _ _ _
          rw [turn_step A i (by rw [HA.out]; omega), List.map_append, HX.out, show n + m - i = (n + m - (i + 1)) + 1 from by omega]
          exact hown'
        clear hown' hgrow HOWN HBW hi hz0 hz1 hz2 hwsz
        go_wp2_with fail
        go_roundw
        case rel => exact ⟨i, _, rfl, rfl, by omega, HOWN2, HB2⟩
        case measure => first | (simp [intOf]; done) | (simp [intOf]; omega)

    · obtain rfl : j = 0 := by omega
      obtain rfl : z = -1 := by omega
      clear hz hj0
      obtain ⟨la, ct, rfl, hown⟩ := OwnInts.of_row HOWN.out
      have HTW := Lib.hid hown.ints
      have HLW := Lib.hid (HL1.out.below HBW.out)
      have HMW := Lib.hid (HM1.out.below HBW.out)
      have HBW1 := Lib.hid (HB.out.trans (HBW.out.mono HB.out.size))
      rw [Nat.sub_zero] at HTW
      rw [Nat.sub_zero]
      have hTA : (turnS A 0).all amtB = (L.all amtB && M.all amtB) := by
        rw [← HAA.out]; unfold turnS; rw [List.drop_zero, List.all_reverse, List.all_append]
      have hTS : lsum (turnS A 0) = lsum L + lsum M := by
        rw [← HAA.out]; unfold turnS; rw [List.drop_zero, lsum_reverse, lsum_append]
      have HTA := Lib.hid hTA
      have HTS := Lib.hid hTS
      clear hown HOWN HBW hTA hTS HB
      obtain ⟨wo, rfl⟩ : ∃ wo : World, wo = wr := ⟨_, rfl⟩
      have hbad : L.all amtB = false ∨ M.all amtB = false → sumR (turnS A 0) = (0, 1) := fun h => by
        rcases sum_cases (turnS A 0) with h1 | h1 | h1
        · exact h1.2
        · have := h1.1; rw [HTA.out] at this; rcases h with h | h <;> rw [h] at this <;> simp at this
        · have := h1.1; rw [HTA.out] at this; rcases h with h | h <;> rw [h] at this <;> simp at this
      have hgood : L.all amtB = true → M.all amtB = true → ∃ x g, sumR (turnS A 0) = (x, g) ∧ (g != 1) = true := fun h1 h2 => by
        rcases sum_cases (turnS A 0) with h | h | h
        · have := h.1; rw [HTA.out, h1, h2] at this; simp at this
        · exact ⟨0, 2, h.2.2, by decide⟩
        · exact ⟨_, 0, h.2.2, by decide⟩
      rcases sum_cases L with ⟨l1, l2⟩ | ⟨l1, l2, l3⟩ | ⟨l1, l2, l3⟩
      · have HSL := Lib.hid l2
        have HST := Lib.hid (hbad (.inl l1))
        obtain ⟨⟨x, y⟩, hy⟩ : ∃ p, sumR M = p := ⟨_, rfl⟩
        have HSM := Lib.hid hy
        clear hbad hgood hy l1 l2
        go_wp2_with fail
        refine (sum_known L 0 1 ra n c wo (by omega) HLW.out HSL.out).mono ?_
        rintro e w' ⟨rfl, rfl⟩
        go_wp2_with fail
        refine (sum_known M x y rb m d wo (by omega) HMW.out HSM.out).mono ?_
        rintro e w' ⟨rfl, rfl⟩
        go_wp2_with fail
        refine (sum_known (turnS A 0) 0 1 la (n + m) ct wo (by omega) HTW.out HST.out).mono ?_
        rintro e w' ⟨rfl, rfl⟩
        go_wp2_with fail
        go_ret
        exact ⟨rfl, HBW1.out⟩
      all_goals
        rcases sum_cases M with ⟨m1, m2⟩ | ⟨m1, m2, m3⟩ | ⟨m1, m2, m3⟩
      · have HSL := Lib.hid l3
        have HSM := Lib.hid m2
        have HST := Lib.hid (hbad (.inr m1))
        clear hbad hgood l1 l2 l3 m1 m2
        go_wp2_with fail
        refine (sum_known L 0 2 ra n c wo (by omega) HLW.out HSL.out).mono ?_
        rintro e w' ⟨rfl, rfl⟩
        go_wp2_with fail
        refine (sum_known M 0 1 rb m d wo (by omega) HMW.out HSM.out).mono ?_
        rintro e w' ⟨rfl, rfl⟩
        go_wp2_with fail
        refine (sum_known (turnS A 0) 0 1 la (n + m) ct wo (by omega) HTW.out HST.out).mono ?_
        rintro e w' ⟨rfl, rfl⟩
        go_wp2_with fail
        go_ret
        exact ⟨rfl, HBW1.out⟩
      · have HSL := Lib.hid l3
        have HSM := Lib.hid m3
        obtain ⟨x, g, hx, hg⟩ := hgood l1 m1
        have HST := Lib.hid hx
        clear hbad hgood l1 l2 l3 m1 m2 m3 hx
        go_wp2_with fail
        refine (sum_known L 0 2 ra n c wo (by omega) HLW.out HSL.out).mono ?_
        rintro e w' ⟨rfl, rfl⟩
        go_wp2_with fail
        refine (sum_known M 0 2 rb m d wo (by omega) HMW.out HSM.out).mono ?_
        rintro e w' ⟨rfl, rfl⟩
        go_wp2_with fail
        refine (sum_known (turnS A 0) x g la (n + m) ct wo (by omega) HTW.out HST.out).mono ?_
        rintro e w' ⟨rfl, rfl⟩
        go_wp2_with fail
        go_ret
        exact ⟨rfl, HBW1.out⟩
      · have HSL := Lib.hid l3
        have HSM := Lib.hid m3
        obtain ⟨x, g, hx, hg⟩ := hgood l1 m1
        obtain ⟨sm, hsm⟩ : ∃ z, lsum M = z := ⟨_, rfl⟩
        rw [hsm] at HSM
        have HST := Lib.hid hx
        clear hbad hgood l1 l2 l3 m1 m2 m3 hx hsm
        go_wp2_with fail
        refine (sum_known L 0 2 ra n c wo (by omega) HLW.out HSL.out).mono ?_
        rintro e w' ⟨rfl, rfl⟩
        go_wp2_with fail
        refine (sum_known M sm 0 rb m d wo (by omega) HMW.out HSM.out).mono ?_
        rintro e w' ⟨rfl, rfl⟩
        go_wp2_with fail
        refine (sum_known (turnS A 0) x g la (n + m) ct wo (by omega) HTW.out HST.out).mono ?_
        rintro e w' ⟨rfl, rfl⟩
        go_wp2_with fail
        go_ret
        exact ⟨rfl, HBW1.out⟩
      · have HSL := Lib.hid l3
        have HSM := Lib.hid m2
        have HST := Lib.hid (hbad (.inr m1))
        obtain ⟨sl, hsl⟩ : ∃ z, lsum L = z := ⟨_, rfl⟩
        rw [hsl] at HSL
        clear hbad hgood l1 l2 l3 m1 m2 hsl
        go_wp2_with fail
        refine (sum_known L sl 0 ra n c wo (by omega) HLW.out HSL.out).mono ?_
        rintro e w' ⟨rfl, rfl⟩
        go_wp2_with fail
        refine (sum_known M 0 1 rb m d wo (by omega) HMW.out HSM.out).mono ?_
        rintro e w' ⟨rfl, rfl⟩
        go_wp2_with fail
        refine (sum_known (turnS A 0) 0 1 la (n + m) ct wo (by omega) HTW.out HST.out).mono ?_
        rintro e w' ⟨rfl, rfl⟩
        go_wp2_with fail
        go_ret
        exact ⟨rfl, HBW1.out⟩
      · have HSL := Lib.hid l3
        have HSM := Lib.hid m3
        obtain ⟨x, g, hx, hg⟩ := hgood l1 m1
        have HST := Lib.hid hx
        obtain ⟨sl, hsl⟩ : ∃ z, lsum L = z := ⟨_, rfl⟩
        rw [hsl] at HSL
        clear hbad hgood l1 l2 l3 m1 m2 m3 hx hsl
        go_wp2_with fail
        refine (sum_known L sl 0 ra n c wo (by omega) HLW.out HSL.out).mono ?_
        rintro e w' ⟨rfl, rfl⟩
        go_wp2_with fail
        refine (sum_known M 0 2 rb m d wo (by omega) HMW.out HSM.out).mono ?_
        rintro e w' ⟨rfl, rfl⟩
        go_wp2_with fail
        refine (sum_known (turnS A 0) x g la (n + m) ct wo (by omega) HTW.out HST.out).mono ?_
        rintro e w' ⟨rfl, rfl⟩
        go_wp2_with fail
        go_ret
        exact ⟨rfl, HBW1.out⟩
      · have HSL := Lib.hid l3
        have HSM := Lib.hid m3
        have hall : (turnS A 0).all amtB = true := by rw [HTA.out, l1, m1]; rfl
        have hT : sumR (turnS A 0) = if amtB (lsum L + lsum M) = true then (lsum L + lsum M, 0) else (0, 2) := by rw [sum_form, if_pos hall, HTS.out]
        have hab : sumR [lsum L, lsum M] = if amtB (lsum L + lsum M) = true then (lsum L + lsum M, 0) else (0, 2) := by
          rw [sum_form, if_pos (by simp [l2, m2])]
          simp [lsum]
        have hr1 := (amtB_iff _).mp l2
        have hr2 := (amtB_iff _).mp m2
        unfold Amt at hr1 hr2
        obtain ⟨sl, hsl⟩ : ∃ z, lsum L = z := ⟨_, rfl⟩
        obtain ⟨sm, hsm⟩ : ∃ z, lsum M = z := ⟨_, rfl⟩
        rw [hsl, hsm] at hT hab
        rw [hsl] at HSL hr1
        rw [hsm] at HSM hr2
        obtain ⟨v, hv⟩ : ∃ v, amtB (sl + sm) = v := ⟨_, rfl⟩
        rw [hv] at hT hab
        have HV := Lib.hid hv
        clear hbad hgood l1 l2 l3 m1 m2 m3 hsl hsm hall hv
        have H2 : Hid (Ints (wo.alloc (.cells #[.int .i64 sl, .int .i64 sm] 3)) (some ⟨wo.heap.size, 0, none⟩) 2 [sl, sm]) := ints2 _ _ _ _
        have HB9 : Hid (Below w.heap.size w (wo.alloc (.cells #[.int .i64 sl, .int .i64 sm] 3))) := HBW1.out.trans ((al _ _).mono HBW1.out.size)
        cases v
        · have HST : Hid (sumR (turnS A 0) = (0, 2)) := hT
          have HAB : Hid (sumR [sl, sm] = (0, 2)) := hab
          clear hT hab
          go_wp2_with fail
          refine (sum_known L sl 0 ra n c wo (by omega) HLW.out HSL.out).mono ?_
          rintro e w' ⟨rfl, rfl⟩
          go_wp2_with fail
          refine (sum_known M sm 0 rb m d wo (by omega) HMW.out HSM.out).mono ?_
          rintro e w' ⟨rfl, rfl⟩
          go_wp2_with fail
          refine (sum_known (turnS A 0) 0 2 la (n + m) ct wo (by omega) HTW.out HST.out).mono ?_
          rintro e w' ⟨rfl, rfl⟩
          go_wp2_with fail
          refine (sum_known [sl, sm] 0 2 _ 2 2 _ (by omega) H2.out HAB.out).mono ?_
          rintro e w' ⟨rfl, rfl⟩
          go_wp2_with fail
          refine (mvalid_any (sl + sm) _).mono ?_
          rintro e w' ⟨rfl, rfl⟩
          rw [HV.out]
          go_wp2_with fail
          go_ret
          exact ⟨rfl, HB9.out⟩
        · have HST : Hid (sumR (turnS A 0) = (sl + sm, 0)) := hT
          have HAB : Hid (sumR [sl, sm] = (sl + sm, 0)) := hab
          clear hT hab
          have g9 : (sl + sm == sl + sm) = true := by simp
          go_wp2_with fail
          refine (sum_known L sl 0 ra n c wo (by omega) HLW.out HSL.out).mono ?_
          rintro e w' ⟨rfl, rfl⟩
          go_wp2_with fail
          refine (sum_known M sm 0 rb m d wo (by omega) HMW.out HSM.out).mono ?_
          rintro e w' ⟨rfl, rfl⟩
          go_wp2_with fail
          refine (sum_known (turnS A 0) (sl + sm) 0 la (n + m) ct wo (by omega) HTW.out HST.out).mono ?_
          rintro e w' ⟨rfl, rfl⟩
          go_wp2_with fail
          refine (sum_known [sl, sm] (sl + sm) 0 _ 2 2 _ (by omega) H2.out HAB.out).mono ?_
          rintro e w' ⟨rfl, rfl⟩
          go_wp2_with fail
          refine (mvalid_any (sl + sm) _).mono ?_
          rintro e w' ⟨rfl, rfl⟩
          rw [HV.out]
          go_wp2_with fail
          go_ret
          exact ⟨rfl, HB9.out⟩
end Go.Proofs.YtiapfpdkcdhhoaaDoor
