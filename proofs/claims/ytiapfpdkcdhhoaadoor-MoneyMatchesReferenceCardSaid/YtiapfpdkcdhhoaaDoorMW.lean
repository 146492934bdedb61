/- foyerref01: Ratio, Share: the walks. -/
import Derived.Test.YtiapfpdkcdhhoaaDoorMV
import Derived.Test.YtiapfpdkcdhhoaaDoorMX
namespace Go.Proofs.YtiapfpdkcdhhoaaDoor
open Go.RowKit Go.IntWalk

def ratB (num den : Int) : Bool := inB num 0 1000000 && inB den 1 1000000

set_option maxRecDepth 10000 in
set_option maxHeartbeats 1600000 in
theorem ratio_any (num den : Int) (w : World) : Calls Tryd.prog 36 #[.agg #[.int .i64 num, .int .i64 den]] w fun e w' => e = .returned (.bool (ratB num den)) ∧ Below w.heap.size w w' := by
  have hb0 : Below w.heap.size w (w.alloc (.cells #[.int .i64 num, .int .i64 den] 23)) := (Below.refl _ _).alloc (Nat.le_refl _) _
  have HB := Lib.hid hb0
  clear hb0
  have HR : Hid (ratB num den = (decide (0 ≤ num) && decide (num ≤ 1000000) && (decide (1 ≤ den) && decide (den ≤ 1000000)))) := rfl
  go_enter Tryd.func36, Tryd.ntmps36
  go_upto_region 1 with fail
  have HX : Hid (Box0 (w.alloc (.cells #[.int .i64 num, .int .i64 den] 23)) w.heap.size num den) := ⟨by simp [World.cell?_alloc_new], by simp [World.cell?_alloc_new]⟩
  generalize (w.alloc (.cells #[.int .i64 num, .int .i64 den] 23)) = w1 at *
  have x0 := HX.out.1
  have x1 := HX.out.2
  obtain ⟨b1, h1⟩ : ∃ b, decide (0 ≤ num) = b := ⟨_, rfl⟩
  obtain ⟨b2, h2⟩ : ∃ b, decide (num ≤ 1000000) = b := ⟨_, rfl⟩
  obtain ⟨b3, h3⟩ : ∃ b, decide (1 ≤ den) = b := ⟨_, rfl⟩
  obtain ⟨b4, h4⟩ : ∃ b, decide (den ≤ 1000000) = b := ⟨_, rfl⟩
  rw [h1, h2, h3, h4] at HR
  cases b1 <;> cases b2 <;> cases b3 <;> cases b4
  all_goals
    go_wp2_with fail
    go_ret
    exact ⟨by rw [HR.out]; rfl, HB.out⟩

set_option maxRecDepth 10000 in
set_option maxHeartbeats 6400000 in
theorem rshare_any (n num den : Int) (w : World) : Calls Tryd.prog 20 #[.int .i64 n, .agg #[.int .i64 num, .int .i64 den]] w (SharePost (shareS n num den) w) := by
  have hb0 : Below w.heap.size w (w.alloc (.cells #[.int .i64 num, .int .i64 den] 23)) := (Below.refl _ _).alloc (Nat.le_refl _) _
  have HB := Lib.hid hb0
  clear hb0
  obtain ⟨b1, h1⟩ : ∃ b, amtB n = b := ⟨_, rfl⟩
  obtain ⟨b2, h2⟩ : ∃ b, ratB num den = b := ⟨_, rfl⟩
  have H1 := Lib.hid h1; have H2 := Lib.hid h2
  have HS : Hid (shareS n num den = if b1 = true ∧ b2 = true then (if amtB (roundS (n * num) den) = true then (roundS (n * num) den, 0) else (0, 2)) else (0, 1)) := by
    show _ = _
    unfold shareS
    have e : (amtB n = true ∧ inB num 0 1000000 = true ∧ inB den 1 1000000 = true) ↔ (b1 = true ∧ b2 = true) := by
      rw [← h1, ← h2]; unfold ratB; simp
    by_cases h : b1 = true ∧ b2 = true
    · rw [if_pos h, if_pos (e.mpr h)]
    · rw [if_neg h, if_neg (fun a => h (e.mp a))]
  clear h1 h2
  go_enter Tryd.func20, Tryd.ntmps20
  go_upto_region 1 with fail
  have HX : Hid (Box0 (w.alloc (.cells #[.int .i64 num, .int .i64 den] 23)) w.heap.size num den) := ⟨by simp [World.cell?_alloc_new], by simp [World.cell?_alloc_new]⟩
  generalize (w.alloc (.cells #[.int .i64 num, .int .i64 den] 23)) = w1 at *
  have x0 := HX.out.1
  have x1 := HX.out.2
  cases b1
  · have HF : Hid (shareS n num den = (0, 1)) := HS.out
    go_wp2_with fail
    refine (rvalid_any n w1).mono ?_
    rintro e w' ⟨rfl, rfl⟩
    rw [H1.out]
    go_wp2_with fail
    exact bodyPost_ret (v := .tuple #[.int .i64 0, .int .i64 1]) (by simp [results, Tryd.results20, go_sem]) rfl (by rw [HF.out]; exact ⟨rfl, HB.out⟩)
  go_wp2_with fail
  refine (rvalid_any n w1).mono ?_
  rintro e w' ⟨rfl, rfl⟩
  rw [H1.out]
  go_wp2_with fail
  refine (ratio_any num den w1).mono ?_
  rintro e w2 ⟨rfl, hb2⟩
  rw [H2.out]
  have HB2 := Lib.hid (HB.out.trans (hb2.mono HB.out.size))
  have HX2 : Hid (Box0 w2 w.heap.size num den) := ⟨Below.cell_of hb2 x0, Below.cell_of hb2 x1⟩
  clear hb2 x0 x1 HX HB
  have x0 := HX2.out.1
  have x1 := HX2.out.2
  cases b2
  · have HF : Hid (shareS n num den = (0, 1)) := HS.out
    go_wp2_with fail
    exact bodyPost_ret (v := .tuple #[.int .i64 0, .int .i64 1]) (by simp [results, Tryd.results20, go_sem]) rfl (by rw [HF.out]; exact ⟨rfl, HB2.out⟩)
  have hn := (amtB_iff n).mp H1.out
  have hnd : (0 ≤ num ∧ num ≤ 1000000) ∧ 1 ≤ den ∧ den ≤ 1000000 := by have := H2.out; unfold ratB inB at this; simpa using this
  have hden : 1 ≤ den ∧ den ≤ 1000000 := hnd.2
  have hpr := prod_range hn hnd.1.1 hnd.1.2
  have hrs := refShare_eq n num den (by omega)
  unfold refShare at hrs
  dsimp only at hrs
  obtain ⟨x, hx⟩ : ∃ x, n * num = x := ⟨_, rfl⟩
  rw [hx] at hpr HS hrs
  obtain ⟨y, hy⟩ : ∃ y, (if x < 0 then 0 - x else x) = y := ⟨_, rfl⟩
  rw [hy] at hrs
  have hyr : 0 ≤ y ∧ y ≤ 1000000000000000 := by rw [← hy]; split <;> omega
  have hmod := div_mod (x := y) (d := den) (by omega)
  have hdr := div_range (x := y) (d := den) (B := 1000000000000000) hden.1 (by omega) (by omega) hyr.2
  have htq : y.tdiv den = y / den := Int.tdiv_eq_ediv_of_nonneg hyr.1
  have htm : y.tmod den = y % den := Int.tmod_eq_emod_of_nonneg hyr.1
  have hq0 : 0 ≤ y / den := Int.ediv_nonneg hyr.1 (by omega)
  obtain ⟨q, hq⟩ : ∃ q, y / den = q := ⟨_, rfl⟩
  obtain ⟨r, hr⟩ : ∃ r, y % den = r := ⟨_, rfl⟩
  rw [hq, hr] at hmod hrs
  rw [hq] at hdr hq0
  have hq1 : q ≤ 1000000000000000 := hdr.2.1
  have hr1 : 0 ≤ r := hmod.2.1
  have hr2 : r < den := hmod.2.2
  obtain ⟨z, hz⟩ : ∃ z, (if den < 2 * r ∨ (2 * r = den ∧ q % 2 = 1) then q + 1 else q) = z := ⟨_, rfl⟩
  rw [hz] at hrs
  have HZ := Lib.hid hz
  have HRS := Lib.hid hrs
  have HW : Hid ((IntKind.i64.wrap x = x ∧ IntKind.i64.wrap q = q) ∧ IntKind.i64.wrap r = r ∧ (den == 0) = false) := ⟨⟨i64_in _ (by omega), i64_in _ (by omega)⟩, i64_in _ (by omega), by simp; omega⟩
  have HTU : Hid (y.tdiv den = q ∧ y.tmod den = r) := ⟨by rw [htq, hq], by rw [htm, hr]⟩
  have HXX := Lib.hid hx
  have HYY := Lib.hid hy
  have HT2 : Hid (q.tmod 2 = q % 2) := Int.tmod_eq_emod_of_nonneg hq0
  clear hmod hdr htq htm hq hr hz hrs hx hy hnd
  have hx := HXX.out
  have w1' := HW.out.1.1
  obtain ⟨sg, hsg⟩ : ∃ sg : Int, (if x < 0 then -1 else 1) = sg := ⟨_, rfl⟩
  have HSG := Lib.hid hsg
  clear hsg
  go_upto_if 23 with fail
  clear hx w1'
  go_cut [6, 7] (fun v6 v7 wx => v6 = .int .i64 y ∧ v7 = .int .i64 sg ∧ wx = w2)
  case first =>
    by_cases h : x < 0
    · have e1 : decide (x < 0) = true := by simp; exact h
      have hy : y = 0 - x := by rw [← HYY.out, if_pos h]
      have hs : sg = -1 := by rw [← HSG.out, if_pos h]
      have HH := Lib.hid hy
      have HH2 := Lib.hid hs
      clear hy hs
      go_wp2_with fail
      go_meet
      case rel => exact ⟨by rw [HH.out, show (0 : Int) - x = -x from by omega], by rw [HH2.out], rfl⟩
    · have e1 : decide (x < 0) = false := by simp; omega
      have hy : y = x := by rw [← HYY.out, if_neg h]
      have hs : sg = 1 := by rw [← HSG.out, if_neg h]
      have HH := Lib.hid hy
      have HH2 := Lib.hid hs
      clear hy hs
      go_wp2_with fail
      go_meet
      case rel => exact ⟨by rw [HH.out], by rw [HH2.out], rfl⟩
  case rest =>
    obtain ⟨rfl, rfl, rfl⟩ := hcut
    obtain ⟨w3, rfl⟩ : ∃ y, y = wc := ⟨_, rfl⟩
    have HSGN : Hid (sg = 1 ∨ sg = -1) := by show _ ∨ _; rw [← HSG.out]; split <;> simp
    have HFIN : Hid (roundS x den = sg * z) := by
      show _ = _
      rw [HRS.out, ← HSG.out]
      split <;> omega
    rw [HFIN.out] at HS
    have hzr : 0 ≤ z ∧ z ≤ 1000000000000001 := by rw [← HZ.out]; split <;> omega
    have HSZ : Hid (shareS n num den = if amtB z = true then (sg * z, 0) else (0, 2)) := by
      have e : amtB (sg * z) = amtB z := by
        rcases HSGN.out with e | e
        · rw [e, Int.one_mul]
        · rw [e, show -1 * z = -z from by omega, amt_neg]
      show _ = _
      rw [HS.out, if_pos (by simp), e]
    clear HS HRS HYY HSG HXX
    have w5' : IntKind.i64.wrap (sg * z) = sg * z := i64_in _ (by rcases HSGN.out with e | e <;> rw [e] <;> omega)
    have W5 := Lib.hid w5'
    clear w5'
    have w2' := HW.out.1.2
    have w3' := HW.out.2.1
    have w4' := HW.out.2.2
    have ht := HTU.out.1
    have hu := HTU.out.2
    go_upto_region 10 with fail
    clear w2' w3' w4' ht hu
    obtain ⟨av, hav⟩ : ∃ b, amtB z = b := ⟨_, rfl⟩
    have HAV := Lib.hid hav
    rw [hav] at HSZ
    clear hav
    by_cases c1 : den < 2 * r
    · have hz' : q + 1 = z := by rw [← HZ.out, if_pos (Or.inl c1)]
      have e1 : decide (den < 2 * r) = true := by simp; exact c1
      clear HZ
      go_wp2_with fail
      refine (rvalid_any z w3).mono ?_
      rintro e w' ⟨rfl, rfl⟩
      rw [HAV.out]
      cases av
      · have HF : Hid (shareS n num den = (0, 2)) := HSZ.out
        go_wp2_with fail
        exact bodyPost_ret (v := .tuple #[.int .i64 0, .int .i64 2]) (by simp [results, Tryd.results20, go_sem]) rfl (by rw [HF.out]; exact ⟨rfl, HB2.out⟩)
      · have HF : Hid (shareS n num den = (sg * z, 0)) := HSZ.out
        have w5' := W5.out
        go_wp2_with fail
        exact bodyPost_ret (v := .tuple #[.int .i64 (sg * z), .int .i64 0]) (by simp [results, Tryd.results20, go_sem]) rfl (by rw [HF.out]; exact ⟨rfl, HB2.out⟩)
    · have e1 : decide (den < 2 * r) = false := by simp; omega
      by_cases c2 : 2 * r = den
      · have e2 : (2 * r == den) = true := by simp; exact c2
        by_cases c3 : q % 2 = 1
        · have hz' : q + 1 = z := by rw [← HZ.out, if_pos (Or.inr ⟨c2, c3⟩)]
          have e3 : (q % 2 == 1) = true := by simp; exact c3
          clear c2 c3
          clear HZ
          go_wp2_with fail
          refine (rvalid_any z w3).mono ?_
          rintro e w' ⟨rfl, rfl⟩
          rw [HAV.out]
          cases av
          · have HF : Hid (shareS n num den = (0, 2)) := HSZ.out
            go_wp2_with fail
            exact bodyPost_ret (v := .tuple #[.int .i64 0, .int .i64 2]) (by simp [results, Tryd.results20, go_sem]) rfl (by rw [HF.out]; exact ⟨rfl, HB2.out⟩)
          · have HF : Hid (shareS n num den = (sg * z, 0)) := HSZ.out
            have w5' := W5.out
            go_wp2_with fail
            exact bodyPost_ret (v := .tuple #[.int .i64 (sg * z), .int .i64 0]) (by simp [results, Tryd.results20, go_sem]) rfl (by rw [HF.out]; exact ⟨rfl, HB2.out⟩)
        · obtain rfl : z = q := by rw [← HZ.out, if_neg (by omega)]
          have e3 : (z % 2 == 1) = false := by simp; omega
          clear c2 c3
          clear HZ
          go_wp2_with fail
          refine (rvalid_any z w3).mono ?_
          rintro e w' ⟨rfl, rfl⟩
          rw [HAV.out]
          cases av
          · have HF : Hid (shareS n num den = (0, 2)) := HSZ.out
            go_wp2_with fail
            exact bodyPost_ret (v := .tuple #[.int .i64 0, .int .i64 2]) (by simp [results, Tryd.results20, go_sem]) rfl (by rw [HF.out]; exact ⟨rfl, HB2.out⟩)
          · have HF : Hid (shareS n num den = (sg * z, 0)) := HSZ.out
            have w5' := W5.out
            go_wp2_with fail
            exact bodyPost_ret (v := .tuple #[.int .i64 (sg * z), .int .i64 0]) (by simp [results, Tryd.results20, go_sem]) rfl (by rw [HF.out]; exact ⟨rfl, HB2.out⟩)
      · obtain rfl : z = q := by rw [← HZ.out, if_neg (by omega)]
        have e2 : (2 * r == den) = false := by simp; exact c2
        clear c2
        clear HZ
        go_wp2_with fail
        refine (rvalid_any z w3).mono ?_
        rintro e w' ⟨rfl, rfl⟩
        rw [HAV.out]
        cases av
        · have HF : Hid (shareS n num den = (0, 2)) := HSZ.out
          go_wp2_with fail
          exact bodyPost_ret (v := .tuple #[.int .i64 0, .int .i64 2]) (by simp [results, Tryd.results20, go_sem]) rfl (by rw [HF.out]; exact ⟨rfl, HB2.out⟩)
        · have HF : Hid (shareS n num den = (sg * z, 0)) := HSZ.out
          have w5' := W5.out
          go_wp2_with fail
          exact bodyPost_ret (v := .tuple #[.int .i64 (sg * z), .int .i64 0]) (by simp [results, Tryd.results20, go_sem]) rfl (by rw [HF.out]; exact ⟨rfl, HB2.out⟩)
end Go.Proofs.YtiapfpdkcdhhoaaDoor
