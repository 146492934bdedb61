/- money.within, Valid, Share: the walks. -/
import Derived.Test.YtiapfpdkcdhhoaaDoorProg
import Derived.Test.YtiapfpdkcdhhoaaDoorRow
import Derived.Test.YtiapfpdkcdhhoaaDoorMC
import Derived.IntWalk
import Derived.Deep.DeepCutAuto
namespace Go.Proofs.YtiapfpdkcdhhoaaDoor
open Go.RowKit Go.IntWalk

def inB (n lo hi : Int) : Bool := decide (lo ≤ n) && decide (n ≤ hi)
def amtB (n : Int) : Bool := inB n (-1000000000) 1000000000

theorem amtB_iff (n : Int) : amtB n = true ↔ Amt n := by unfold amtB inB Amt; simp

theorem within_any (n lo hi : Int) (w : World) : Calls Tryd.prog 25 #[.int .i64 n, .int .i64 lo, .int .i64 hi] w fun e w' => e = .returned (.bool (inB n lo hi)) ∧ w = w' := by
  have HI : Hid (inB n lo hi = (decide (lo ≤ n) && decide (n ≤ hi))) := rfl
  obtain ⟨b1, h1⟩ : ∃ b, decide (lo ≤ n) = b := ⟨_, rfl⟩
  obtain ⟨b2, h2⟩ : ∃ b, decide (n ≤ hi) = b := ⟨_, rfl⟩
  rw [h1, h2] at HI
  cases b1
  all_goals
    go_enter Tryd.func25, Tryd.ntmps25
    go_wp2_with fail
    go_ret
    exact ⟨by rw [HI.out]; rfl, rfl⟩

theorem mvalid_any (n : Int) (w : World) : Calls Tryd.prog 12 #[.int .i64 n] w fun e w' => e = .returned (.bool (amtB n)) ∧ w = w' := by
  have HI : Hid (amtB n = inB n (-1000000000) 1000000000) := rfl
  go_enter Tryd.func12, Tryd.ntmps12
  go_wp2_with fail
  refine (within_any n _ _ w).mono ?_
  rintro e w' ⟨rfl, rfl⟩
  rw [← HI.out]
  go_wp2_with fail
  go_ret
  exact ⟨rfl, rfl⟩

/-- Two integers in a block. -/
structure Box0 (w : World) (b : Nat) (x y : Int) : Prop where
  c0 : w.cell? ⟨b, 0, none⟩ = some (.int .i64 x)
  c1 : w.cell? ⟨b, 1, none⟩ = some (.int .i64 y)

/-- What Share answers: the number and the error. -/
def shareS (n num den : Int) : Int × Int :=
  if amtB n = true ∧ inB num 0 1000000 = true ∧ inB den 1 1000000 = true then (if amtB (roundS (n * num) den) = true then (roundS (n * num) den, 0) else (0, 2)) else (0, 1)

def SharePost (r : Int × Int) (w : World) (e : Ending) (w' : World) : Prop := e = .returned (.tuple #[.int .i64 r.1, .int .i64 r.2]) ∧ Below w.heap.size w w'

theorem div_range {x d B : Int} (hd : 1 ≤ d) (hB : 0 ≤ B) (h1 : -B ≤ x) (h2 : x ≤ B) : -B ≤ x / d ∧ x / d ≤ B ∧ -B ≤ x.tdiv d ∧ x.tdiv d ≤ B + 1 := by
  have a : -B * d ≤ -B * 1 := Int.mul_le_mul_of_nonpos_left (by omega) hd
  have b : B * 1 ≤ B * d := Int.mul_le_mul_of_nonneg_left hd hB
  have c1 : -B * d / d ≤ x / d := Int.ediv_le_ediv (by omega) (by omega)
  have c2 : x / d ≤ B * d / d := Int.ediv_le_ediv (by omega) (by omega)
  rw [Int.mul_ediv_cancel _ (by omega)] at c1 c2
  rcases go_div (x := x) (d := d) (by omega) with h | h <;> omega

theorem prod_range {n num : Int} (hn : Amt n) (h0 : 0 ≤ num) (h1 : num ≤ 1000000) : -1000000000000000 ≤ n * num ∧ n * num ≤ 1000000000000000 := by
  unfold Amt at hn
  have a := Int.mul_le_mul_of_nonneg_right hn.1 h0
  have b := Int.mul_le_mul_of_nonneg_right hn.2 h0
  omega

set_option maxRecDepth 10000 in
set_option maxHeartbeats 3200000 in
theorem share_any (n num den : Int) (w : World) : Calls Tryd.prog 11 #[.int .i64 n, .agg #[.int .i64 num, .int .i64 den]] w (SharePost (shareS n num den) w) := by
  have hb0 : Below w.heap.size w (w.alloc (.cells #[.int .i64 num, .int .i64 den] 23)) := (Below.refl _ _).alloc (Nat.le_refl _) _
  have HB := Lib.hid hb0
  clear hb0
  obtain ⟨b1, h1⟩ : ∃ b, amtB n = b := ⟨_, rfl⟩
  obtain ⟨b2, h2⟩ : ∃ b, inB num 0 1000000 = b := ⟨_, rfl⟩
  obtain ⟨b3, h3⟩ : ∃ b, inB den 1 1000000 = b := ⟨_, rfl⟩
  have H1 := Lib.hid h1; have H2 := Lib.hid h2; have H3 := Lib.hid h3
  have HS : Hid (shareS n num den = if b1 = true ∧ b2 = true ∧ b3 = true then (if amtB (roundS (n * num) den) = true then (roundS (n * num) den, 0) else (0, 2)) else (0, 1)) := by show _ = _; unfold shareS; rw [h1, h2, h3]
  clear h1 h2 h3
  go_enter Tryd.func11, Tryd.ntmps11
  go_upto_region 1 with fail
  have HX : Hid (Box0 (w.alloc (.cells #[.int .i64 num, .int .i64 den] 23)) w.heap.size num den) := ⟨by simp [World.cell?_alloc_new], by simp [World.cell?_alloc_new]⟩
  generalize (w.alloc (.cells #[.int .i64 num, .int .i64 den] 23)) = w1 at *
  have x0 := HX.out.1
  have x1 := HX.out.2
  go_wp2_with fail
  refine (mvalid_any n w1).mono ?_
  rintro e w' ⟨rfl, rfl⟩
  rw [H1.out]
  cases b1
  · have HF : Hid (shareS n num den = (0, 1)) := HS.out
    go_wp2_with fail
    exact bodyPost_ret (v := .tuple #[.int .i64 0, .int .i64 1]) (by simp [results, Tryd.results11, go_sem]) rfl (by rw [HF.out]; exact ⟨rfl, HB.out⟩)
  go_wp2_with fail
  refine (within_any num _ _ w1).mono ?_
  rintro e w' ⟨rfl, rfl⟩
  rw [H2.out]
  cases b2
  · have HF : Hid (shareS n num den = (0, 1)) := HS.out
    go_wp2_with fail
    exact bodyPost_ret (v := .tuple #[.int .i64 0, .int .i64 1]) (by simp [results, Tryd.results11, go_sem]) rfl (by rw [HF.out]; exact ⟨rfl, HB.out⟩)
  go_wp2_with fail
  refine (within_any den _ _ w1).mono ?_
  rintro e w' ⟨rfl, rfl⟩
  rw [H3.out]
  cases b3
  · have HF : Hid (shareS n num den = (0, 1)) := HS.out
    go_wp2_with fail
    exact bodyPost_ret (v := .tuple #[.int .i64 0, .int .i64 1]) (by simp [results, Tryd.results11, go_sem]) rfl (by rw [HF.out]; exact ⟨rfl, HB.out⟩)
  have hn := (amtB_iff n).mp H1.out
  have hnum : 0 ≤ num ∧ num ≤ 1000000 := by have := H2.out; unfold inB at this; simpa using this
  have hden : 1 ≤ den ∧ den ≤ 1000000 := by have := H3.out; unfold inB at this; simpa using this
  have hpr := prod_range hn hnum.1 hnum.2
  obtain ⟨x, hx⟩ : ∃ x, n * num = x := ⟨_, rfl⟩
  rw [hx] at hpr HS
  have HXX := Lib.hid hx
  obtain ⟨t, ht⟩ : ∃ t, x.tdiv den = t := ⟨_, rfl⟩
  obtain ⟨u, hu⟩ : ∃ u, x.tmod den = u := ⟨_, rfl⟩
  have hgd := go_div (x := x) (d := den) (by omega)
  have hdr := div_range (d := den) (B := 1000000000000000) hden.1 (by omega) hpr.1 hpr.2
  rw [ht] at hgd hdr
  rw [hu] at hgd
  have hmod := div_mod (x := x) (d := den) (by omega)
  obtain ⟨q, hq⟩ : ∃ q, x / den = q := ⟨_, rfl⟩
  obtain ⟨r, hr⟩ : ∃ r, x % den = r := ⟨_, rfl⟩
  rw [hq, hr] at hgd hmod
  rw [hq] at hdr
  have HSQ : Hid (roundS x den = if den < 2 * r ∨ (2 * r = den ∧ q % 2 ≠ 0) then q + 1 else q) := by show _ = _; unfold roundS; rw [hq, hr]
  have hr1 : 0 ≤ r := hmod.2.1
  have hr2 : r < den := hmod.2.2
  have HW : Hid ((IntKind.i64.wrap x = x ∧ IntKind.i64.wrap t = t) ∧ IntKind.i64.wrap u = u ∧ (den == 0) = false) := ⟨⟨i64_in _ (by omega), i64_in _ (by omega)⟩, i64_in _ (by omega), by simp; omega⟩
  have HTU : Hid (x.tdiv den = t ∧ x.tmod den = u) := ⟨ht, hu⟩
  clear hmod hq hr ht hu hx
  have hx := HXX.out
  have w1' := HW.out.1.1
  have w2' := HW.out.1.2
  have w3' := HW.out.2.1
  have w4' := HW.out.2.2
  have ht := HTU.out.1
  have hu := HTU.out.2
  go_wp2_with fail
  go_quiet (fail)
  go_upto_region 4 with fail
  have HB2 : Hid (Below w.heap.size w (w1.drewN nq)) := below_drewN HB.out nq
  have HX2 : Hid (Box0 (w1.drewN nq) w.heap.size num den) := ⟨x0, x1⟩
  generalize w1.drewN nq = w2 at *
  have HGD := Lib.hid hgd
  clear hx w1' w2' w3' w4' ht hu hpr HW HTU x0 x1 HX HB hgd
  have x1 := HX2.out.c1
  go_upto_if 38 with fail
  go_cut [6, 7] (fun v6 v7 wx => v6 = .int .i64 q ∧ v7 = .int .i64 r ∧ Hid (Below w.heap.size w wx ∧ Box0 wx w.heap.size num den))
  case first =>
    by_cases hu0 : u < 0
    · have e1 : decide (u < 0) = true := by simp; exact hu0
      have hg : q = t - 1 ∧ r = u + den := by have := HGD.out; omega
      have HG : Hid (IntKind.i64.wrap (t - 1) = q ∧ IntKind.i64.wrap (u + den) = r) := ⟨by rw [hg.1]; exact i64_in _ (by omega), by rw [hg.2]; exact i64_in _ (by omega)⟩
      clear hg
      have w1' := HG.out.1
      have w2' := HG.out.2
      go_wp2_with fail
      go_quiet (fail)
      go_wp2_with fail
      go_meet
      case rel => exact ⟨rfl, rfl, below_drewN HB2.out _, HX2.out.c0, HX2.out.c1⟩
    · have e1 : decide (u < 0) = false := by simp; omega
      have hg : t = q ∧ u = r := by have := HGD.out; omega
      have HG := Lib.hid hg
      clear hg
      go_wp2_with fail
      go_meet
      case rel => rw [HG.out.1, HG.out.2]; exact ⟨rfl, rfl, HB2.out, HX2.out⟩
  case rest =>
    obtain ⟨rfl, rfl, HC⟩ := hcut
    obtain ⟨w3, rfl⟩ : ∃ y, y = wc := ⟨_, rfl⟩
    clear x1 HB2 HX2
    have x1 := HC.out.2.c1
    obtain ⟨z, hz⟩ : ∃ z, roundS x den = z := ⟨_, rfl⟩
    rw [hz] at HS HSQ
    have HS2 : Hid (shareS n num den = if amtB z = true then (z, 0) else (0, 2)) := HS.out
    clear hz HS
    obtain ⟨av, hav⟩ : ∃ b, amtB z = b := ⟨_, rfl⟩
    have HAV := Lib.hid hav
    rw [hav] at HS2
    clear hav
    by_cases c1 : den < 2 * r
    · have HZ : Hid (z = q + 1) := by show _ = _; rw [HSQ.out, if_pos (Or.inl c1)]
      have HAV2 : Hid (amtB (q + 1) = av) := by rw [← HZ.out]; exact HAV.out
      rw [HZ.out] at HS2
      clear HZ HAV HSQ
      have e1 : decide (den < 2 * r) = true := by simp; exact c1
      go_wp2_with fail
      refine (mvalid_any (q + 1) w3).mono ?_
      rintro e w' ⟨rfl, rfl⟩
      rw [HAV2.out]
      cases av
      · have HF : Hid (shareS n num den = (0, 2)) := HS2.out
        go_wp2_with fail
        exact bodyPost_ret (v := .tuple #[.int .i64 0, .int .i64 2]) (by simp [results, Tryd.results11, go_sem]) rfl (by rw [HF.out]; exact ⟨rfl, HC.out.1⟩)
      · have HF : Hid (shareS n num den = (q + 1, 0)) := HS2.out
        go_wp2_with fail
        exact bodyPost_ret (v := .tuple #[.int .i64 (q + 1), .int .i64 0]) (by simp [results, Tryd.results11, go_sem]) rfl (by rw [HF.out]; exact ⟨rfl, HC.out.1⟩)
    · by_cases c2 : 2 * r = den
      · by_cases c3 : q % 2 = 0
        · have HZ : Hid (z = q) := by show _ = _; rw [HSQ.out, if_neg (by omega)]
          have HAV2 : Hid (amtB (q) = av) := by rw [← HZ.out]; exact HAV.out
          rw [HZ.out] at HS2
          clear HZ HAV HSQ
          have e1 : decide (den < 2 * r) = false := by simp; omega
          have e2 : (2 * r == den) = true := by simp; exact c2
          have e3 : (q.tmod 2 != 0) = false := by have := (tmod_two q).mpr c3; simp; exact this
          clear c2
          go_wp2_with fail
          refine (mvalid_any (q) w3).mono ?_
          rintro e w' ⟨rfl, rfl⟩
          rw [HAV2.out]
          cases av
          · have HF : Hid (shareS n num den = (0, 2)) := HS2.out
            go_wp2_with fail
            exact bodyPost_ret (v := .tuple #[.int .i64 0, .int .i64 2]) (by simp [results, Tryd.results11, go_sem]) rfl (by rw [HF.out]; exact ⟨rfl, HC.out.1⟩)
          · have HF : Hid (shareS n num den = (q, 0)) := HS2.out
            go_wp2_with fail
            exact bodyPost_ret (v := .tuple #[.int .i64 (q), .int .i64 0]) (by simp [results, Tryd.results11, go_sem]) rfl (by rw [HF.out]; exact ⟨rfl, HC.out.1⟩)
        · have HZ : Hid (z = q + 1) := by show _ = _; rw [HSQ.out, if_pos (Or.inr ⟨c2, c3⟩)]
          have HAV2 : Hid (amtB (q + 1) = av) := by rw [← HZ.out]; exact HAV.out
          rw [HZ.out] at HS2
          clear HZ HAV HSQ
          have e1 : decide (den < 2 * r) = false := by simp; omega
          have e2 : (2 * r == den) = true := by simp; exact c2
          have e3 : (q.tmod 2 != 0) = true := by have := fun h => c3 ((tmod_two q).mp h); simp; exact this
          clear c2
          go_wp2_with fail
          refine (mvalid_any (q + 1) w3).mono ?_
          rintro e w' ⟨rfl, rfl⟩
          rw [HAV2.out]
          cases av
          · have HF : Hid (shareS n num den = (0, 2)) := HS2.out
            go_wp2_with fail
            exact bodyPost_ret (v := .tuple #[.int .i64 0, .int .i64 2]) (by simp [results, Tryd.results11, go_sem]) rfl (by rw [HF.out]; exact ⟨rfl, HC.out.1⟩)
          · have HF : Hid (shareS n num den = (q + 1, 0)) := HS2.out
            go_wp2_with fail
            exact bodyPost_ret (v := .tuple #[.int .i64 (q + 1), .int .i64 0]) (by simp [results, Tryd.results11, go_sem]) rfl (by rw [HF.out]; exact ⟨rfl, HC.out.1⟩)
      · have HZ : Hid (z = q) := by show _ = _; rw [HSQ.out, if_neg (by omega)]
        have HAV2 : Hid (amtB (q) = av) := by rw [← HZ.out]; exact HAV.out
        rw [HZ.out] at HS2
        clear HZ HAV HSQ
        have e1 : decide (den < 2 * r) = false := by simp; omega
        have e2 : (2 * r == den) = false := by simp; exact c2
        go_wp2_with fail
        refine (mvalid_any (q) w3).mono ?_
        rintro e w' ⟨rfl, rfl⟩
        rw [HAV2.out]
        cases av
        · have HF : Hid (shareS n num den = (0, 2)) := HS2.out
          go_wp2_with fail
          exact bodyPost_ret (v := .tuple #[.int .i64 0, .int .i64 2]) (by simp [results, Tryd.results11, go_sem]) rfl (by rw [HF.out]; exact ⟨rfl, HC.out.1⟩)
        · have HF : Hid (shareS n num den = (q, 0)) := HS2.out
          go_wp2_with fail
          exact bodyPost_ret (v := .tuple #[.int .i64 (q), .int .i64 0]) (by simp [results, Tryd.results11, go_sem]) rfl (by rw [HF.out]; exact ⟨rfl, HC.out.1⟩)
end Go.Proofs.YtiapfpdkcdhhoaaDoor
