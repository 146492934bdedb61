/- foyerlaw29.RefundFair returns true: the walk. -/
import Derived.Test.YtgpmhaeiccljaaaDoorXP
namespace Go.Proofs.YtgpmhaeiccljaaaDoor
open Go.RowKit Go.IntWalk

set_option maxRecDepth 20000 in
set_option maxHeartbeats 3200000 in
theorem refundFair_any (ra : Option Addr) (n c : Nat) (l : List MeanT) (a : Int) (w : World) (hn : n ≤ 9223372036854775807) (hM : Means w ra n l) (hl : ∀ i, i < n → (nm l i).length ≤ 9223372036854775807) :
    Calls Tryd.prog 5 #[.slice ra n c, .int .i64 a] w fun e w' => e = .returned (.bool true) ∧ Below w.heap.size w w' := by
  have HM := Lib.hid hM
  have HL := Lib.hid hl
  have hlen := hM.1
  clear hM hl
  go_enter Tryd.func5, Tryd.ntmps5
  go_wp2_with fail
  refine (head_any w).mono ?_
  rintro e w1 ⟨rfl, hb1⟩
  have HB1 := Lib.hid hb1
  clear hb1
  go_wp2_with fail
  refine (few_any ra none n c 0 0 l [] w1 (HM.out.below HB1.out) (Recs.none _) hn (by decide) HL.out (fun i hi => absurd hi (Nat.not_lt_zero _))).mono ?_
  rintro e w2 ⟨rfl, rfl⟩
  cases hf : fewO l []
  · clear hf
    go_wp2_with fail
    go_ret
    exact ⟨rfl, HB1.out⟩
  have HF := Lib.hid (fewO_p hf)
  have hn30 := HF.out.len
  clear hf
  go_wp2_with fail
  refine (rfsplit_any ra n c l a w1 (HM.out.below HB1.out) (by omega) (fun i hi => HF.out.name i (by omega))).mono ?_
  rintro e w2 ⟨la, ka, ca, rfl, hb2, ho2⟩
  have HB2 := Lib.hid (HB1.out.trans (hb2.mono HB1.out.size))
  have H1 := Lib.hid ho2.recs
  have hka := ho2.1
  clear hb2 ho2
  rcases rspl_cases l a with hr | hr | ⟨hR, h0, h1, hne, hr⟩
  · rw [hr] at hka ⊢
    obtain rfl : 0 = ka := hka
    go_wp2_with fail
    go_ret
    exact ⟨rfl, HB2.out⟩
  · rw [hr] at hka ⊢
    obtain rfl : 0 = ka := hka
    go_wp2_with fail
    go_ret
    exact ⟨rfl, HB2.out⟩
  have HRR := Lib.hid hR
  have HG := Lib.hid hR.good
  have HNE := Lib.hid hne
  rw [hr] at hka H1 ⊢
  clear hr hR hne
  have hps : (splitS a (wts l)).length = l.length := by rw [splitS_length, wts_len]
  have HPE0 : Hid (partList l a = outS l (splitS a (wts l)) l.length) := (out_all hps).symm
  have HOK : Hid (∀ i, i < l.length → 0 ≤ ix (splitS a (wts l)) i ∧ ix (splitS a (wts l)) i ≤ am l i) := fun i hi => have h := part_ok HG.out h0 h1 HNE.out i hi; ⟨h.lo, h.hi⟩
  have HTOT : Hid (totS (partList l a) = a) := part_tot HG.out h0 h1 HNE.out
  have HPP : Hid (∀ i, i < (partList l a).length → 0 ≤ am (partList l a) i ∧ am (partList l a) i ≤ 1000000000) := fun i hi => by
    obtain ⟨q, hq, _, h2, h3⟩ := (part_partOf HG.out h0 h1 HNE.out).here i hi
    have := HG.out.le q hq
    omega
  have hkl : (partList l a).length ≤ l.length := by rw [HPE0.out]; exact out_len l _ l.length
  have hs := HG.out.sum
  have HNEAR : Hid (∀ i, i < l.length → ix (splitS a (wts l)) i * totS l - a * am l i < totS l ∧ -totS l < ix (splitS a (wts l)) i * totS l - a * am l i) := fun i hi => (part_ok HG.out h0 h1 HNE.out i hi).near
  have HOF : Hid (∀ i, i < l.length → ofS (partList l a) (nm l i) = ix (splitS a (wts l)) i) := fun i hi => part_of HG.out h0 h1 HNE.out i hi
  have HMONO : Hid (∀ i k, i < l.length → k < l.length → am l i < am l k → ix (splitS a (wts l)) i ≤ ix (splitS a (wts l)) k) := fun i k hi hk hlt => by
    have hs := split_nums (part_splitB HG.out h0 h1 HNE.out) (by rw [wts_len]; exact HG.out.len)
    have hm := part_mono hs.2.lo hs.2.pos k i (by rw [wts_at l i hi, wts_at l k hk]; omega) (.inl (by rw [wts_at l i hi, wts_at l k hk]; exact hlt))
    rw [splitS_at _ _ i (by rw [wts_len]; exact hi), splitS_at _ _ k (by rw [wts_len]; exact hk)]
    rcases sign_cases a with ⟨h, _⟩ | ⟨_, e⟩
    · omega
    · rw [e] at hm ⊢
      omega
  have HPOS : Hid (∀ q, q < n → 0 ≤ am l q ∧ am l q ≤ 1000000000) := fun q hq => by have := HG.out.le q (by omega); omega
  replace hka : (partList l a).length = ka := hka
  have hkn : ka ≤ n := by omega
  go_wp2_with fail
  refine (rtotal_any ra n c l w2 (HM.out.below HB2.out) (by omega) HPOS.out).mono ?_
  rintro e w3 ⟨rfl, rfl⟩
  obtain ⟨T, hT⟩ : ∃ T, totS l = T := ⟨_, rfl⟩
  rw [hT] at HNEAR hs h1 ⊢
  clear hT
  go_wp2_with fail
  go_loopw [9] (fun v9 wr => ∃ i : Nat, v9 = .int .i64 i ∧ i ≤ n ∧ ∃ q, wr = w2.drewN q) (fun v9 _ => n - (intOf v9).toNat)
  case atStart => exact ⟨0, rfl, Nat.zero_le _, 0, rfl⟩
  case round =>
    obtain ⟨i, rfl, hi, q, rfl⟩ := hrel
    by_cases hlt : i < n
    · obtain ⟨b, o, rfl, c0, c1⟩ := Means.at (HM.out.below (below_drewN HB2.out q)) i hlt
      have HLE := HOK.out i (by omega)
      have hle2 := HG.out.le i (by omega)
      have hnear := HNEAR.out i (by omega)
      have HP1 := Lib.hid (H1.out.drewN q)
      have HB3 := Lib.hid (below_drewN HB2.out q)
      generalize hw : w2.drewN q = wq at *
      have HWQ := Lib.hid hw
      clear hw
      have ho := of_any la ka ca (partList l a) (nm l i) wq HP1.out (by omega)
      rw [HOF.out i (by omega)] at ho
      have HO1 := Lib.hid ho
      have HMI := Lib.hid (fun k (hk : k < l.length) (hlt : am l i < am l k) => HMONO.out i k (by omega) hk hlt)
      obtain ⟨p, hp⟩ : ∃ p, ix (splitS a (wts l)) i = p := ⟨_, rfl⟩
      rw [hp] at HO1 HLE hnear HMI
      clear hp ho
      have m1 : 0 ≤ p * T ∧ p * T ≤ 1000000000000000000 := ⟨Int.mul_nonneg (by omega) (by omega), Int.le_trans (Int.mul_le_mul (show p ≤ 1000000000 by omega) (show T ≤ 1000000000 by omega) (by omega) (by omega)) (by decide)⟩
      have m2 : 0 ≤ a * am l i ∧ a * am l i ≤ 1000000000000000000 := ⟨Int.mul_nonneg (by omega) (by omega), Int.le_trans (Int.mul_le_mul (show a ≤ 1000000000 by omega) (show am l i ≤ 1000000000 by omega) (by omega) (by omega)) (by decide)⟩
      go_wp2_with fail
      refine HO1.out.mono ?_
      rintro e w4 ⟨rfl, rfl⟩
      clear HO1
      go_upto_region 13 with fail
      generalize p * T = u at *
      generalize a * am l i = v at *
      have t1 : ¬ u - v ≤ -T := by omega
      have t2 : ¬ T ≤ u - v := by omega
      go_wp2_with fail
      go_loopw [12] (fun v12 wx => ∃ k : Nat, v12 = .int .i64 k ∧ k ≤ n ∧ ∃ q, wx = wq.drewN q) (fun v12 _ => n - (intOf v12).toNat)
      case atStart => exact ⟨0, rfl, Nat.zero_le _, 0, rfl⟩
      case round =>
        obtain ⟨k, rfl, hk, q2, rfl⟩ := hrel
        by_cases hkl : k < n
        · obtain ⟨b2, o2, e2, d0, d1⟩ := Means.at (HM.out.below (below_drewN HB3.out q2)) k hkl
          obtain ⟨b3, o3, e3, f0, f1⟩ := Means.at (HM.out.below (below_drewN HB3.out q2)) i hlt
          simp only [Option.some.injEq, Addr.mk.injEq, and_true] at e2 e3
          obtain ⟨rfl, rfl⟩ := e2
          obtain ⟨rfl, rfl⟩ := e3
          have HP2 := Lib.hid (HP1.out.drewN q2)
          generalize hw : wq.drewN q2 = wz at *
          have HWZ := Lib.hid hw
          clear hw c0 c1
          by_cases hgt : am l i < am l k
          · have hmn := HMI.out k (by omega) hgt
            have HO2 : Hid (∀ q, Calls Tryd.prog 22 #[.slice la ka ca, .string (bs (nm l k))] (wz.drewN q) fun e w' => e = .returned (.int .i64 (ix (splitS a (wts l)) k)) ∧ w' = wz.drewN q) := fun q => by
              have h := of_any la ka ca (partList l a) (nm l k) (wz.drewN q) (HP2.out.drewN q) (by omega)
              rw [HOF.out k (by omega)] at h
              exact h.mono fun e w' ⟨h1, h2⟩ => ⟨h1, h2.symm⟩
            obtain ⟨p2, hp2⟩ : ∃ p2, ix (splitS a (wts l)) k = p2 := ⟨_, rfl⟩
            rw [hp2] at HO2 hmn
            clear hp2
            have t3 : ¬ p2 < p := by omega
            have t4 : decide (am l i < am l k) = true := by simp [hgt]
            go_wp2_with fail
            go_quiet (exact Calls.quiet_of_same (HO2.out _))
            go_wp2_with fail
            go_roundw
            case rel => exact ⟨k + 1, by go_num, by omega, q2 + nq, by rw [← HWZ.out, World.drewN_drewN]⟩
            case measure => simp [intOf]; omega
          · have t4 : decide (am l i < am l k) = false := by simp [hgt]
            go_wp2_with fail
            go_quiet (fail)
            go_wp2_with fail
            go_roundw
            case rel => exact ⟨k + 1, by go_num, by omega, q2 + nq, by rw [← HWZ.out, World.drewN_drewN]⟩
            case measure => simp [intOf]; omega
        · go_wp2_with fail
          go_roundw
          case rel => exact ⟨i + 1, by go_num, by omega, q + q2, by rw [← HWQ.out, World.drewN_drewN]⟩
          case measure => simp [intOf]; omega
    · go_wp2_with fail
      go_ret
      exact ⟨rfl, below_drewN HB2.out q⟩
end Go.Proofs.YtgpmhaeiccljaaaDoor
