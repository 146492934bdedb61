/- foyerlaw01.MoneyTexts: the walk. -/
import Derived.Test.YtiapfpdkcdhhoaaDoorMH
import Derived.Test.YtiapfpdkcdhhoaaDoorMX
namespace Go.Proofs.YtiapfpdkcdhhoaaDoor
open Go.RowKit Go.IntWalk

theorem dec_len : ∀ (f n : Nat), n < 10 ^ f → 0 < f → (Lib.decDigits n).length ≤ f := by
  intro f
  induction f with
  | zero => intro n _ h; omega
  | succ f ih =>
    intro n hn _
    rw [Lib.decDigits]
    by_cases h : n < 10
    · rw [dif_pos h]; simp
    · rw [dif_neg h, List.length_append]
      rw [Nat.pow_succ] at hn
      have hf : 0 < f := by
        apply Nat.pos_of_ne_zero
        rintro rfl
        simp at hn
        omega
      have := ih (n / 10) (by omega) hf
      simp
      omega

theorem text_len (n : Int) : (textS n).length ≤ 20 := by
  unfold textS
  split
  · rename_i h
    unfold Amt at h
    have := dec_len 9 (n.natAbs / 100) (by omega) (by omega)
    simp only [List.length_append, List.length_cons, twoS, List.length_nil]
    split <;> simp <;> omega
  · simp

theorem parse_none : parseV [] = (0, 4) := by
  unfold parseV
  cases h : parseS [] with
  | none => rfl
  | some b =>
    obtain ⟨h1, h2⟩ := (parse_iff _ b).mp h
    exact absurd h2 (text_some.mpr h1)

theorem parse_textS {n : Int} (h : Amt n) : parseV (textS n) = (n, 0) := by unfold parseV; rw [text_back h]

theorem bs_of (s : ByteArray) : s = bs s.data.toList := by unfold bs; simp

set_option maxRecDepth 20000 in
set_option maxHeartbeats 6400000 in
theorem moneyTexts_any (n m : Int) (s : ByteArray) (w : World) (hk : Kit w) (_hn : -9223372036854775808 ≤ n ∧ n ≤ 9223372036854775807) (_hm : -9223372036854775808 ≤ m ∧ m ≤ 9223372036854775807) (hs : s.size ≤ 9223372036854775807) :
    Calls Tryd.prog 7 #[.int .i64 n, .int .i64 m, .string s] w (LawPost w) := by
  obtain ⟨t, rfl⟩ : ∃ t, s = bs t := ⟨_, bs_of s⟩
  have HK := Lib.hid hk
  clear hk
  go_enter Tryd.func7, Tryd.ntmps7
  go_wp2_with fail
  refine (head_any w HK.out).mono ?_
  rintro e w1 ⟨rfl, hb⟩
  have HB := Lib.hid hb
  have HK1 := Lib.hid (HK.out.below hb)
  clear hb HK
  by_cases hlen : 200 < (bs t).size
  · have f1 : decide (200 < (bs t).size) = true := by simp; exact hlen
    go_wp2_with fail
    go_ret
    exact ⟨rfl, HB.out⟩
  have hsz : (bs t).size ≤ 200 := by omega
  have HTL : Hid (t.length ≤ 200) := by show _ ≤ _; rw [← bs_size]; omega
  clear hlen
  have HTX := Lib.hid (text_any n w1 HK1.out)
  go_wp2_with fail
  refine HTX.out.mono ?_
  rintro e w2 ⟨rfl, hb⟩
  have HB2 := Lib.hid (HB.out.trans (hb.mono HB.out.size))
  have HK2 := Lib.hid (HK1.out.below hb)
  clear hb HB HK1 HTX
  have hln := text_len n
  obtain ⟨u, hu⟩ : ∃ u, textS n = u := ⟨_, rfl⟩
  have HU := Lib.hid hu
  rw [hu] at hln ⊢
  clear hu
  have HPA := Lib.hid (parse_any u (by omega) w2 HK2.out)
  go_wp2_with fail
  refine HPA.out.mono ?_
  rintro e w3 ⟨rfl, hb⟩
  have HB3 := Lib.hid (HB2.out.trans (hb.mono HB2.out.size))
  have HK3 := Lib.hid (HK2.out.below hb)
  clear hb HB2 HK2 HPA hln
  have hrest : Hid (∀ wr, Below w.heap.size w wr → Kit wr → Calls Tryd.prog 17 #[.string (bs t)] wr (ParsePost t wr)) := fun wr _ hk => parse_any t (by have := HTL.out; omega) wr hk
  obtain ⟨v, hv⟩ : ∃ v, amtB n = v := ⟨_, rfl⟩
  have HV := Lib.hid hv
  clear hv
  cases v
  · have hnil : u = [] := by
      rw [← HU.out]; unfold textS
      rw [if_neg (fun h => by have := (amtB_iff n).mpr h; rw [HV.out] at this; simp at this)]
    subst hnil
    rw [parse_none]
    have q1 : (bs ([] : List UInt8)).toList = [] := bs_toList _
    go_wp2_with fail
    refine (mvalid_any n w3).mono ?_
    rintro e w' ⟨rfl, rfl⟩
    rw [HV.out]
    have HBX := Lib.hid HB3.out
    have HKX := Lib.hid HK3.out
    clear HB3 HK3
    have HPT := Lib.hid (hrest.out w3 HBX.out HKX.out)
    clear hrest
    go_upto_region 8 with fail
    go_wp2_with fail
    refine HPT.out.mono ?_
    rintro e wy ⟨rfl, hb⟩
    have HBY := Lib.hid (HBX.out.trans (hb.mono HBX.out.size))
    have HKY := Lib.hid (HKX.out.below hb)
    clear hb HBX HKX HPT
    cases hp : parseS t with
    | none =>
      have hpv : parseV t = (0, 4) := by unfold parseV; rw [hp]
      clear hp
      rw [hpv]
      clear hpv
      go_wp2_with fail
      go_ret
      exact ⟨rfl, HBY.out⟩
    | some b =>
      have hpv : parseV t = (b, 0) := by unfold parseV; rw [hp]
      have HB0 := Lib.hid ((parse_iff t b).mp hp)
      rw [hpv]
      clear hp hpv
      go_wp2_with fail
      refine (mvalid_any b wy).mono ?_
      rintro e w' ⟨rfl, rfl⟩
      rw [(amtB_iff b).mpr HB0.out.1]
      go_wp2_with fail
      refine (text_known b t wy HKY.out HB0.out.2).mono ?_
      rintro e wz ⟨rfl, hb⟩
      have HBZ := Lib.hid (HBY.out.trans (hb.mono HBY.out.size))
      clear hb
      have q9 : ((bs t).toList == (bs t).toList) = true := by simp
      go_wp2_with fail
      go_ret
      exact ⟨rfl, HBZ.out⟩
  · have hamt := (amtB_iff n).mp HV.out
    have hne : u ≠ [] := by rw [← HU.out]; exact text_some.mpr hamt
    have hpu : parseV u = (n, 0) := by rw [← HU.out]; exact parse_textS hamt
    rw [hpu]
    have hul : (bs u).toList = u := bs_toList u
    have q1 : ((bs u).toList == []) = false := by rw [hul]; cases u <;> simp at hne ⊢
    have q2 : ((bs u).toList != []) = true := by rw [bne, q1]; rfl
    have q3 : (bs u).toList.isEmpty = false := by rw [hul]; cases u <;> simp at hne ⊢
    have q4 : (n != n) = false := by simp
    have hinj : (u = textS m) ↔ n = m := by rw [← HU.out]; exact text_inj hamt
    have HINJ := Lib.hid hinj
    have HTM := Lib.hid (text_any m w3 HK3.out)
    clear hinj hpu hne hul hamt
    go_wp2_with fail
    refine (mvalid_any n w3).mono ?_
    rintro e w' ⟨rfl, rfl⟩
    rw [HV.out]
    go_wp2_with fail
    refine HTM.out.mono ?_
    rintro e w4 ⟨rfl, hb⟩
    have HBX := Lib.hid (HB3.out.trans (hb.mono HB3.out.size))
    have HKX := Lib.hid (HK3.out.below hb)
    clear hb HB3 HK3 HTM
    by_cases hnm : n = m
    · have q5 : ((bs u).toList == (bs (textS m)).toList) = true := by rw [bs_beq]; simp; exact HINJ.out.mpr hnm
      have q6 : (n == m) = true := by simp; exact hnm
      clear hnm
      have HPT := Lib.hid (hrest.out w4 HBX.out HKX.out)
      clear hrest
      go_upto_region 8 with fail
      go_wp2_with fail
      refine HPT.out.mono ?_
      rintro e wy ⟨rfl, hb⟩
      have HBY := Lib.hid (HBX.out.trans (hb.mono HBX.out.size))
      have HKY := Lib.hid (HKX.out.below hb)
      clear hb HBX HKX HPT
      cases hp : parseS t with
      | none =>
        have hpv : parseV t = (0, 4) := by unfold parseV; rw [hp]
        clear hp
        rw [hpv]
        clear hpv
        go_wp2_with fail
        go_ret
        exact ⟨rfl, HBY.out⟩
      | some b =>
        have hpv : parseV t = (b, 0) := by unfold parseV; rw [hp]
        have HB0 := Lib.hid ((parse_iff t b).mp hp)
        rw [hpv]
        clear hp hpv
        go_wp2_with fail
        refine (mvalid_any b wy).mono ?_
        rintro e w' ⟨rfl, rfl⟩
        rw [(amtB_iff b).mpr HB0.out.1]
        go_wp2_with fail
        refine (text_known b t wy HKY.out HB0.out.2).mono ?_
        rintro e wz ⟨rfl, hb⟩
        have HBZ := Lib.hid (HBY.out.trans (hb.mono HBY.out.size))
        clear hb
        have q9 : ((bs t).toList == (bs t).toList) = true := by simp
        go_wp2_with fail
        go_ret
        exact ⟨rfl, HBZ.out⟩
    · have q5 : ((bs u).toList == (bs (textS m)).toList) = false := by rw [bs_beq]; simp; exact fun h => hnm (HINJ.out.mp h)
      have q6 : (n == m) = false := by simp; exact hnm
      clear hnm
      have HPT := Lib.hid (hrest.out w4 HBX.out HKX.out)
      clear hrest
      go_upto_region 8 with fail
      go_wp2_with fail
      refine HPT.out.mono ?_
      rintro e wy ⟨rfl, hb⟩
      have HBY := Lib.hid (HBX.out.trans (hb.mono HBX.out.size))
      have HKY := Lib.hid (HKX.out.below hb)
      clear hb HBX HKX HPT
      cases hp : parseS t with
      | none =>
        have hpv : parseV t = (0, 4) := by unfold parseV; rw [hp]
        clear hp
        rw [hpv]
        clear hpv
        go_wp2_with fail
        go_ret
        exact ⟨rfl, HBY.out⟩
      | some b =>
        have hpv : parseV t = (b, 0) := by unfold parseV; rw [hp]
        have HB0 := Lib.hid ((parse_iff t b).mp hp)
        rw [hpv]
        clear hp hpv
        go_wp2_with fail
        refine (mvalid_any b wy).mono ?_
        rintro e w' ⟨rfl, rfl⟩
        rw [(amtB_iff b).mpr HB0.out.1]
        go_wp2_with fail
        refine (text_known b t wy HKY.out HB0.out.2).mono ?_
        rintro e wz ⟨rfl, hb⟩
        have HBZ := Lib.hid (HBY.out.trans (hb.mono HBY.out.size))
        clear hb
        have q9 : ((bs t).toList == (bs t).toList) = true := by simp
        go_wp2_with fail
        go_ret
        exact ⟨rfl, HBZ.out⟩
end Go.Proofs.YtiapfpdkcdhhoaaDoor
