/- foyerref01: digits, Text, Parse: the walks. -/
import Derived.Test.YtiapfpdkcdhhoaaDoorMV
import Derived.Test.YtiapfpdkcdhhoaaDoorMU2
namespace Go.Proofs.YtiapfpdkcdhhoaaDoor
open Go.RowKit Go.IntWalk

theorem digit_cut (n : Nat) (h : n < 10) : (⟨#[48, 49, 50, 51, 52, 53, 54, 55, 56, 57]⟩ : ByteArray).extract n (n + 1) = bs [UInt8.ofNat (48 + n)] := by
  match n, h with
  | 0, _ => rfl
  | 1, _ => rfl
  | 2, _ => rfl
  | 3, _ => rfl
  | 4, _ => rfl
  | 5, _ => rfl
  | 6, _ => rfl
  | 7, _ => rfl
  | 8, _ => rfl
  | 9, _ => rfl

set_option maxRecDepth 10000 in
theorem digits_one (f n : Nat) (wd : Int) (w : World) (hn : n < 10) (hw : wd ≤ 1) : Calls Tryd.prog 38 #[.int .i64 n, .int .i64 wd] w fun e w' => e = .returned (.string (bs (refDigits (f + 1) n wd))) ∧ w = w' := by
  have HR : Hid (refDigits (f + 1) n wd = [UInt8.ofNat (48 + n)]) := by show _ = _; rw [refDigits, if_pos ⟨hn, hw⟩]
  have HC := Lib.hid (digit_cut n hn)
  go_enter Tryd.func38, Tryd.ntmps38
  go_wp2_with fail
  go_ret
  exact ⟨by rw [HR.out, ← HC.out]; rfl, rfl⟩

theorem refDigits_len : ∀ (f n : Nat) (wd : Int), (refDigits f n wd).length ≤ f
  | 0, _, _ => Nat.le_refl _
  | f + 1, n, wd => by
    rw [refDigits]
    split
    · simp
    · rw [List.length_append]
      have := refDigits_len f (n / 10) (wd - 1)
      simp
      omega

set_option maxRecDepth 10000 in
set_option maxHeartbeats 1600000 in
theorem digits_any : ∀ (f n : Nat) (wd : Int) (w : World), f ≤ 100 → n < 10 ^ (f + 1) → n ≤ 1000000000 → wd ≤ f + 1 → (f : Int) - 200 ≤ wd → Calls Tryd.prog 38 #[.int .i64 n, .int .i64 wd] w fun e w' => e = .returned (.string (bs (refDigits (f + 1) n wd))) ∧ w = w' := by
  intro f
  induction f with
  | zero => intro n wd w _ hn _ hw _; exact digits_one 0 n wd w (by simpa using hn) (by omega)
  | succ f ih =>
    intro n wd w hf hn hn9 hw hw2
    by_cases hb : n < 10 ∧ wd ≤ 1
    · exact digits_one (f + 1) n wd w hb.1 hb.2
    obtain ⟨q, hq⟩ : ∃ q : Nat, n / 10 = q := ⟨_, rfl⟩
    obtain ⟨r, hr⟩ : ∃ r : Nat, n % 10 = r := ⟨_, rfl⟩
    have hqn : q < 10 ^ (f + 1) := by rw [Nat.pow_succ] at hn; omega
    have h1' := ih q (wd - 1) w (by omega) hqn (by omega) (by omega) (by omega)
    have h2 := digits_one 0 r 1 w (by omega) (Int.le_refl _)
    have HR : Hid (refDigits (f + 1 + 1) n wd = refDigits (f + 1) q (wd - 1) ++ refDigits (0 + 1) r 1) := by
      show _ = _
      have e : refDigits (0 + 1) r 1 = [UInt8.ofNat (48 + r)] := by rw [refDigits, if_pos ⟨by omega, by omega⟩]
      rw [refDigits, if_neg hb, hq, hr, e]
    have hl1 := refDigits_len (f + 1) q (wd - 1)
    have hl2 := refDigits_len (0 + 1) r 1
    obtain ⟨A, hA⟩ : ∃ z, refDigits (f + 1) q (wd - 1) = z := ⟨_, rfl⟩
    obtain ⟨B, hB⟩ : ∃ z, refDigits (0 + 1) r 1 = z := ⟨_, rfl⟩
    rw [hA] at h1' HR hl1
    rw [hB] at h2 HR hl2
    have hcat := Lib.hid (cat_any w A B (by omega) (by omega))
    have HSZ : Hid (¬ ((bs A).size + (bs B).size > 9223372036854775807)) := by show ¬ _; rw [bs_size, bs_size]; omega
    have HQ : Hid ((n : Int) / 10 = q) := by show _ = _; omega
    have HM : Hid ((n : Int) % 10 = r) := by show _ = _; omega
    have H1 := Lib.hid h1'
    have H2 := Lib.hid h2
    have hd : decide (n < 10) = decide (n < 10) := rfl
    clear hq hr hqn h1' h2 hl1 hl2 hA hB hd ih hn
    have e1 := HQ.out
    have e2 := HM.out
    have e3 := hcat.out
    have e4 := HSZ.out
    go_enter Tryd.func38, Tryd.ntmps38
    by_cases hn10 : n < 10
    · have hw1 : ¬ wd ≤ 1 := fun h => hb ⟨hn10, h⟩
      have e5 : decide (wd ≤ 1) = false := by simp; omega
      clear hb
      go_wp2_with fail
      refine H1.out.mono ?_
      rintro e w' ⟨rfl, rfl⟩
      go_wp2_with fail
      refine H2.out.mono ?_
      rintro e w' ⟨rfl, rfl⟩
      go_wp2_with fail
      go_ret
      exact ⟨by rw [HR.out]; first | rfl | rw [← bs_cat], rfl⟩
    · clear hb
      go_wp2_with fail
      refine H1.out.mono ?_
      rintro e w' ⟨rfl, rfl⟩
      go_wp2_with fail
      refine H2.out.mono ?_
      rintro e w' ⟨rfl, rfl⟩
      go_wp2_with fail
      go_ret
      exact ⟨by rw [HR.out]; first | rfl | rw [← bs_cat], rfl⟩

set_option maxRecDepth 10000 in
set_option maxHeartbeats 3200000 in
theorem rtext_pos (a : Nat) (w : World) : Calls Tryd.prog 24 #[.int .i64 a] w fun e w' => e = .returned (.string (bs (textS a))) ∧ w = w' := by
  obtain ⟨b1, h1⟩ : ∃ b, amtB a = b := ⟨_, rfl⟩
  have H1 := Lib.hid h1
  clear h1
  cases b1
  · have HT : Hid (textS a = []) := by show _ = _; unfold textS; rw [if_neg (fun h => by have := (amtB_iff a).mpr h; rw [H1.out] at this; simp at this)]
    go_enter Tryd.func24, Tryd.ntmps24
    go_wp2_with fail
    refine (rvalid_any a w).mono ?_
    rintro e w' ⟨rfl, rfl⟩
    rw [H1.out]
    go_wp2_with fail
    go_ret
    exact ⟨by rw [HT.out]; rfl, rfl⟩
  have hn := (amtB_iff a).mp H1.out
  have hn1 : -1000000000 ≤ (a : Int) ∧ (a : Int) ≤ 1000000000 := hn
  obtain ⟨q, hq⟩ : ∃ q : Nat, a / 100 = q := ⟨_, rfl⟩
  obtain ⟨r, hr⟩ : ∃ r : Nat, a % 100 = r := ⟨_, rfl⟩
  have hq2 : q ≤ 10000000 := by omega
  have hr2 : r ≤ 99 := by omega
  have HQR : Hid (((a : Int) / 100 = (q : Int)) ∧ ((a : Int) % 100 = (r : Int))) := by constructor <;> omega
  have HT : Hid (textS a = Lib.decDigits q ++ 46 :: twoS r) := by
    show _ = _
    unfold textS
    rw [if_pos hn, show (a : Int).natAbs = a from by omega, hq, hr, if_neg (by omega), List.nil_append]
  have HD1 : Hid (Calls Tryd.prog 38 #[.int .i64 q, .int .i64 1] w fun e w' => e = .returned (.string (bs (Lib.decDigits q))) ∧ w = w') := by
    have := digits_any 9 q 1 w (by omega) (by omega) (by omega) (by omega) (by omega)
    rw [refDigits_one 10 q 1 (by omega) (by omega) (by omega)] at this
    exact this
  have HD2 : Hid (Calls Tryd.prog 38 #[.int .i64 r, .int .i64 2] w fun e w' => e = .returned (.string (bs (twoS r))) ∧ w = w') := by
    have := digits_any 9 r 2 w (by omega) (by omega) (by omega) (by omega) (by omega)
    rw [refDigits_two 10 r (by omega) (by omega)] at this
    exact this
  have hl1 : (Lib.decDigits q).length ≤ 7000000 := len_le (by omega)
  have hl2 : (twoS r).length = 2 := rfl
  obtain ⟨A, hA⟩ : ∃ z, Lib.decDigits q = z := ⟨_, rfl⟩
  obtain ⟨B, hB⟩ : ∃ z, twoS r = z := ⟨_, rfl⟩
  rw [hA] at HD1 HT hl1
  rw [hB] at HD2 HT hl2
  have hc1 : (Op.stringOp .add (bs A) ⟨#[46]⟩).run Tryd.prog w = .ok (.string (bs (A ++ [46]))) w := cat_any w A [46] (by omega) (by simp)
  have hz1 : ¬ ((bs A).size + (⟨#[46]⟩ : ByteArray).size > 9223372036854775807) := by rw [bs_size]; simp [ByteArray.size]; omega
  have hc2 := cat_any w (A ++ [46]) B (by simp; omega) (by omega)
  have hz2 : ¬ ((bs (A ++ [46])).size + (bs B).size > 9223372036854775807) := by rw [bs_size, bs_size]; simp; omega
  have HC1 := Lib.hid hc1
  have HC2 := Lib.hid hc2
  clear hc1 hc2 hA hB hl1 hl2 hq hr
  have e1 := HQR.out.1
  have e2 := HQR.out.2
  go_enter Tryd.func24, Tryd.ntmps24
  go_wp2_with fail
  refine (rvalid_any a w).mono ?_
  rintro e w' ⟨rfl, rfl⟩
  rw [H1.out]
  have e0 : decide ((a : Int) < 0) = false := by simp
  go_wp2_with fail
  refine HD1.out.mono ?_
  rintro e w' ⟨rfl, rfl⟩
  have c1 := HC1.out
  go_wp2_with fail
  refine HD2.out.mono ?_
  rintro e w' ⟨rfl, rfl⟩
  clear c1
  have c2 := HC2.out
  go_wp2_with fail
  go_ret
  exact ⟨by rw [HT.out]; rfl, rfl⟩

set_option maxRecDepth 10000 in
set_option maxHeartbeats 3200000 in
theorem rtext_any (n : Int) (w : World) : Calls Tryd.prog 24 #[.int .i64 n] w fun e w' => e = .returned (.string (bs (textS n))) ∧ w = w' := by
  by_cases h0 : 0 ≤ n
  · obtain ⟨a, rfl⟩ : ∃ a : Nat, n = a := ⟨n.toNat, by omega⟩
    exact rtext_pos a w
  obtain ⟨b1, h1⟩ : ∃ b, amtB n = b := ⟨_, rfl⟩
  have H1 := Lib.hid h1
  clear h1
  cases b1
  · have HT : Hid (textS n = []) := by show _ = _; unfold textS; rw [if_neg (fun h => by have := (amtB_iff n).mpr h; rw [H1.out] at this; simp at this)]
    go_enter Tryd.func24, Tryd.ntmps24
    go_wp2_with fail
    refine (rvalid_any n w).mono ?_
    rintro e w' ⟨rfl, rfl⟩
    rw [H1.out]
    go_wp2_with fail
    go_ret
    exact ⟨by rw [HT.out]; rfl, rfl⟩
  have hn := (amtB_iff n).mp H1.out
  have hn1 : -1000000000 ≤ n ∧ n ≤ 1000000000 := hn
  obtain ⟨a, rfl⟩ : ∃ a : Nat, n = -(a : Int) := ⟨n.natAbs, by omega⟩
  have HP := Lib.hid (rtext_pos a w)
  have HT : Hid (textS (-(a : Int)) = 45 :: textS a) := by
    show _ = _
    have t1 : textS (-(a : Int)) = [45] ++ (Lib.decDigits (a / 100) ++ 46 :: twoS (a % 100)) := by
      unfold textS
      rw [if_pos hn, if_pos (by omega), show (-(a : Int)).natAbs = a from by omega]
    have t2 : textS a = Lib.decDigits (a / 100) ++ 46 :: twoS (a % 100) := by
      unfold textS
      rw [if_pos (by unfold Amt; omega), if_neg (by omega), show (a : Int).natAbs = a from by omega]
      rfl
    rw [t1, t2]
    rfl
  have hl : (textS a).length ≤ 7000003 := by
    unfold textS
    rw [if_pos (by unfold Amt; omega), if_neg (by omega), show (a : Int).natAbs = a from by omega]
    have := len_le (u := a / 100) (by omega)
    simp [twoS]
    omega
  obtain ⟨A, hA⟩ : ∃ z, textS a = z := ⟨_, rfl⟩
  rw [hA] at HP HT hl
  have hc1 : (Op.stringOp .add ⟨#[45]⟩ (bs A)).run Tryd.prog w = .ok (.string (bs (45 :: A))) w := cat_any w [45] A (by simp) (by omega)
  have hz1 : ¬ ((⟨#[45]⟩ : ByteArray).size + (bs A).size > 9223372036854775807) := by rw [bs_size]; simp [ByteArray.size]; omega
  have HC1 := Lib.hid hc1
  clear hc1 hA hl
  have e0 : decide (-(a : Int) < 0) = true := by simp; omega
  go_enter Tryd.func24, Tryd.ntmps24
  go_wp2_with fail
  refine (rvalid_any (-(a : Int)) w).mono ?_
  rintro e w' ⟨rfl, rfl⟩
  rw [H1.out]
  have en : -(-(a : Int)) = a := by omega
  go_wp2_with fail
  refine HP.out.mono ?_
  rintro e w' ⟨rfl, rfl⟩
  have c1 := HC1.out
  go_wp2_with fail
  go_ret
  exact ⟨by rw [HT.out, show (45 :: A) = [45] ++ A from rfl, ← bs_cat]; rfl, rfl⟩

theorem scan_snoc (s : ByteArray) (i : Nat) (h : i < s.size) : scanS 0 (s.data.toList.take (i + 1)) = if 48 ≤ s[i].toNat ∧ s[i].toNat ≤ 57 ∧ scanS 0 (s.data.toList.take i) ≤ 1000000000 then 10 * scanS 0 (s.data.toList.take i) + ((s[i].toNat : Int) - 48) else scanS 0 (s.data.toList.take i) := by
  have e : s.data.toList.take (i + 1) = s.data.toList.take i ++ [s[i]] := by rw [List.take_succ_eq_append_getElem (by simpa using h)]; rfl
  rw [e, scan_append, scanS, scanS]

theorem toList_data (s : ByteArray) : bs s.data.toList = s := by unfold bs; simp

/-- What foyerref01.Parse returns. -/
def RParsePost (t : List UInt8) (w : World) (e : Ending) (w' : World) : Prop := e = .returned (.tuple #[.int .i64 (parseV t).1, .int .i64 (parseV t).2]) ∧ w = w'

set_option maxRecDepth 10000 in
set_option maxHeartbeats 3200000 in
theorem rparse_any (s : ByteArray) (hs : s.size ≤ 1000000) (w : World) : Calls Tryd.prog 22 #[.string s] w (RParsePost s.data.toList w) := by
  obtain ⟨t, ht⟩ : ∃ t, s.data.toList = t := ⟨_, rfl⟩
  have hlen : t.length = s.size := by rw [← ht]; simp
  have HV : Hid (parseV t = refParse t) := by show _ = _; rw [refParse_eq]; rfl
  have HST := Lib.hid (scan_snoc s)
  have hst : s = bs t := by rw [← ht, toList_data]
  have HSB := Lib.hid hst
  have HLN := Lib.hid hlen
  rw [ht] at HST ⊢
  clear ht hlen hst
  go_enter Tryd.func22, Tryd.ntmps22
  go_wp2_with fail
  go_loop [4, 5] (fun v4 v5 => ∃ (i : Nat) (n : Int), v5 = .int .i64 i ∧ v4 = .int .i64 n ∧ i ≤ s.size ∧ 0 ≤ n ∧ n ≤ 10000000009 ∧ Hid (scanS 0 (t.take i) = n)) (fun _ v5 => s.size - (intOf v5).toNat)
  case atStart => exact ⟨0, 0, rfl, rfl, Nat.zero_le _, by omega, by omega, rfl⟩
  case round =>
    obtain ⟨i, n, rfl, rfl, hi, hn0, hn1, HS⟩ := hrel
    by_cases hlt : i < s.size
    · have hnx := HST.out i hlt
      rw [HS.out] at hnx
      obtain ⟨c, hc⟩ : ∃ c : Nat, (s[i]'hlt).toNat = c := ⟨_, rfl⟩
      have hc255 : c ≤ 255 := by rw [← hc]; have := (s[i]'hlt).toNat_lt; omega
      rw [hc] at hnx
      have HNX := Lib.hid hnx
      clear hnx HS
      by_cases h1 : 48 ≤ c
      · by_cases h2 : c ≤ 57
        · by_cases h3 : n ≤ 1000000000
          · have HN2 : Hid (scanS 0 (t.take (i + 1)) = 10 * n + ((c : Int) - 48)) := by show _ = _; rw [HNX.out, if_pos ⟨h1, h2, h3⟩]
            clear HNX
            go_wp2_with fail
            go_round
            case rel => exact ⟨i + 1, _, by go_num, rfl, by omega, by omega, by omega, HN2⟩
            case measure => simp [intOf]; omega
          · have HN2 : Hid (scanS 0 (t.take (i + 1)) = n) := by show _ = _; rw [HNX.out, if_neg (fun h => h3 h.2.2)]
            have e3 : decide (n ≤ 1000000000) = false := by simp; omega
            clear HNX
            go_wp2_with fail
            go_round
            case rel => exact ⟨i + 1, _, by go_num, rfl, by omega, by omega, by omega, HN2⟩
            case measure => simp [intOf]; omega
        · have HN2 : Hid (scanS 0 (t.take (i + 1)) = n) := by show _ = _; rw [HNX.out, if_neg (fun h => h2 h.2.1)]
          have e2 : decide (c ≤ 57) = false := by simp; omega
          clear HNX
          go_wp2_with fail
          go_round
          case rel => exact ⟨i + 1, _, by go_num, rfl, by omega, by omega, by omega, HN2⟩
          case measure => simp [intOf]; omega
      · have HN2 : Hid (scanS 0 (t.take (i + 1)) = n) := by show _ = _; rw [HNX.out, if_neg (fun h => h1 h.1)]
        have e1 : decide (48 ≤ c) = false := by simp; omega
        clear HNX
        go_wp2_with fail
        go_round
        case rel => exact ⟨i + 1, _, by go_num, rfl, by omega, by omega, by omega, HN2⟩
        case measure => simp [intOf]; omega
    · obtain rfl : i = s.size := by omega
      have HV2 : Hid (parseV t = if t = [] ∨ (textS n ≠ t ∧ textS (-n) ≠ t) then (0, 4) else if textS n = t then (n, 0) else (-n, 0)) := by
        show _ = _
        rw [HV.out]
        unfold refParse
        have e : scanS 0 t = n := by rw [← HS.out, List.take_of_length_le (by rw [HLN.out]; exact Nat.le_refl _)]
        rw [e, show (0 : Int) - n = -n from by omega]
      have HT1 := Lib.hid (rtext_any n w)
      have HT2 := Lib.hid (rtext_any (-n) w)
      clear HV HST HS HLN
      obtain ⟨s2, hs2⟩ : ∃ z, z = s.size := ⟨_, rfl⟩
      have h2' : s2 ≤ 1000000 := by omega
      obtain rfl : s = bs t := HSB.out
      clear HSB
      by_cases h0 : t = []
      · subst h0
        have HF : Hid (parseV [] = (0, 4)) := by show _ = _; rw [HV2.out, if_pos (Or.inl rfl)]
        have hq : (bs []).toList = [] := by rw [bs_toList]
        go_wp2_with fail
        go_ret2
        exact ⟨by rw [HF.out]; rfl, rfl⟩
      · have hq : ((bs t).toList == (⟨#[]⟩ : ByteArray).toList) = false := by
          have e : (⟨#[]⟩ : ByteArray) = bs [] := rfl
          rw [e, bs_beq]; simp [h0]
        have hq2 : (bs t).toList.isEmpty = false := by rw [bs_toList]; simp [h0]
        have HH0 := Lib.hid h0
        clear h0
        by_cases hA : textS n = t
        · have HF : Hid (parseV t = (n, 0)) := by show _ = _; rw [HV2.out, if_neg (by rintro (h | h); exact HH0.out h; exact h.1 hA), if_pos hA]
          have q1 : ((bs (textS n)).toList == (bs t).toList) = true := by rw [bs_beq]; simp [hA]
          have q2 : ((bs (textS n)).toList != (bs t).toList) = false := by rw [bne, q1]; rfl
          clear hA HV2
          go_wp2_with fail
          refine HT1.out.mono ?_
          rintro e w' ⟨rfl, rfl⟩
          go_wp2_with fail
          refine HT1.out.mono ?_
          rintro e w' ⟨rfl, rfl⟩
          go_wp2_with fail
          go_ret2
          exact ⟨by rw [HF.out]; rfl, rfl⟩
        · have q1 : ((bs (textS n)).toList == (bs t).toList) = false := by rw [bs_beq]; simp [hA]
          have q2 : ((bs (textS n)).toList != (bs t).toList) = true := by rw [bne, q1]; rfl
          by_cases hB : textS (-n) = t
          · have HF : Hid (parseV t = (-n, 0)) := by show _ = _; rw [HV2.out, if_neg (by rintro (h | h); exact HH0.out h; exact h.2 hB), if_neg hA]
            have q3 : ((bs (textS (-n))).toList == (bs t).toList) = true := by rw [bs_beq]; simp [hB]
            have q4 : ((bs (textS (-n))).toList != (bs t).toList) = false := by rw [bne, q3]; rfl
            clear hA hB HV2
            go_wp2_with fail
            refine HT1.out.mono ?_
            rintro e w' ⟨rfl, rfl⟩
            go_wp2_with fail
            refine HT2.out.mono ?_
            rintro e w' ⟨rfl, rfl⟩
            go_wp2_with fail
            refine HT1.out.mono ?_
            rintro e w' ⟨rfl, rfl⟩
            go_wp2_with fail
            go_ret2
            exact ⟨by rw [HF.out]; rfl, rfl⟩
          · have HF : Hid (parseV t = (0, 4)) := by show _ = _; rw [HV2.out, if_pos (Or.inr ⟨hA, hB⟩)]
            have q3 : ((bs (textS (-n))).toList == (bs t).toList) = false := by rw [bs_beq]; simp [hB]
            have q4 : ((bs (textS (-n))).toList != (bs t).toList) = true := by rw [bne, q3]; rfl
            clear hA hB HV2
            go_wp2_with fail
            refine HT1.out.mono ?_
            rintro e w' ⟨rfl, rfl⟩
            go_wp2_with fail
            refine HT2.out.mono ?_
            rintro e w' ⟨rfl, rfl⟩
            go_wp2_with fail
            go_ret2
            exact ⟨by rw [HF.out]; rfl, rfl⟩
end Go.Proofs.YtiapfpdkcdhhoaaDoor
