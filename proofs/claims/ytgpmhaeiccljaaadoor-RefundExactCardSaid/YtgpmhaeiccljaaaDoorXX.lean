/- foyerlaw29.RefundExact returns true: the walk. -/
import Derived.Test.YtgpmhaeiccljaaaDoorXP
namespace Go.Proofs.YtgpmhaeiccljaaaDoor
open Go.RowKit Go.IntWalk

set_option maxRecDepth 20000 in
set_option maxHeartbeats 3200000 in
theorem refundExact_any (ra : Option Addr) (n c : Nat) (l : List MeanT) (a : Int) (w : World) (hn : n ≤ 9223372036854775807) (hM : Means w ra n l) (hl : ∀ i, i < n → (nm l i).length ≤ 9223372036854775807) :
    Calls Tryd.prog 4 #[.slice ra n c, .int .i64 a] w fun e w' => e = .returned (.bool true) ∧ Below w.heap.size w w' := by
  have HM := Lib.hid hM
  have HL := Lib.hid hl
  have hlen := hM.1
  clear hM hl
  go_enter Tryd.func4, Tryd.ntmps4
  go_wp2_with fail
  refine (head_any w).mono ?_
  rintro e w1 ⟨rfl, hb1⟩
  have HB1 := Lib.hid hb1
  clear hb1
  go_wp2_with fail
  refine (few_any ra none n c 0 0 l [] w1 (HM.out.below HB1.out) (Recs.none _) hn (by decide) HL.out (fun i hi => absurd hi (Nat.not_lt_zero _))).mono ?_
  rintro e w2 ⟨rfl, rfl⟩
  cases hf : fewO l []
  · clear hf
    go_wp2_with fail
    go_ret
    exact ⟨rfl, HB1.out⟩
  have HF := Lib.hid (fewO_p hf)
  have hn30 := HF.out.len
  clear hf
  go_wp2_with fail
  refine (rfsplit_any ra n c l a w1 (HM.out.below HB1.out) (by omega) (fun i hi => HF.out.name i (by omega))).mono ?_
  rintro e w2 ⟨la, ka, ca, rfl, hb2, ho2⟩
  have HB2 := Lib.hid (HB1.out.trans (hb2.mono HB1.out.size))
  have H1 := Lib.hid ho2.recs
  have hka := ho2.1
  clear hb2 ho2
  rcases rspl_cases l a with hr | hr | ⟨hR, h0, h1, hne, hr⟩
  · rw [hr] at hka ⊢
    obtain rfl : 0 = ka := hka
    go_wp2_with fail
    go_ret
    exact ⟨rfl, HB2.out⟩
  · rw [hr] at hka ⊢
    obtain rfl : 0 = ka := hka
    go_wp2_with fail
    go_ret
    exact ⟨rfl, HB2.out⟩
  have HRR := Lib.hid hR
  have HG := Lib.hid hR.good
  have HNE := Lib.hid hne
  rw [hr] at hka H1 ⊢
  clear hr hR hne
  have hps : (splitS a (wts l)).length = l.length := by rw [splitS_length, wts_len]
  have HPE : Hid (partList l a = outS l (splitS a (wts l)) l.length) := (out_all hps).symm
  have HOK : Hid (∀ i, i < l.length → 0 ≤ ix (splitS a (wts l)) i ∧ ix (splitS a (wts l)) i ≤ am l i) := fun i hi => have h := part_ok HG.out h0 h1 HNE.out i hi; ⟨h.lo, h.hi⟩
  have HTOT : Hid (totS (partList l a) = a) := part_tot HG.out h0 h1 HNE.out
  have HPP : Hid (∀ i, i < (partList l a).length → 0 ≤ am (partList l a) i ∧ am (partList l a) i ≤ 1000000000) := fun i hi => by
    obtain ⟨q, hq, _, h2, h3⟩ := (part_partOf HG.out h0 h1 HNE.out).here i hi
    have := HG.out.le q hq
    omega
  have hkl : (partList l a).length ≤ l.length := by rw [HPE.out]; exact out_len l _ l.length
  have hs := HG.out.sum
  go_wp2_with fail
  go_loopw [8, 9] (fun v8 v9 wr => ∃ i : Nat, v9 = .int .i64 i ∧ v8 = .int .i64 (outS l (splitS a (wts l)) i).length ∧ i ≤ n ∧ ∃ q, wr = w2.drewN q) (fun _ v9 _ => n - (intOf v9).toNat)
  case atStart => exact ⟨0, rfl, rfl, Nat.zero_le _, 0, rfl⟩
  case round =>
    obtain ⟨i, rfl, rfl, hi, q, rfl⟩ := hrel
    obtain ⟨K, hK⟩ : ∃ K, (outS l (splitS a (wts l)) i).length = K := ⟨_, rfl⟩
    by_cases hlt : i < n
    · obtain ⟨b, o, rfl, c0, c1⟩ := Means.at (HM.out.below (below_drewN HB2.out q)) i hlt
      have HLE := HOK.out i (by omega)
      have HNX := Lib.hid (out_next (l := l) (ps := splitS a (wts l)) (i := i) (by omega) hps)
      by_cases hp0 : 0 < ix (splitS a (wts l)) i
      · obtain ⟨g1, g2, g3⟩ := out_yes (l := l) (i := i) (by omega) hps hp0
        rw [← HPE.out, hK] at g1 g2 g3
        rw [hka] at g1
        rw [if_pos hp0] at HNX
        have HNXL : Hid ((outS l (splitS a (wts l)) (i + 1)).length = K + 1) := by show _ = _; rw [HNX.out, List.length_append, hK]; rfl
        obtain ⟨b', o', rfl, d0, d1⟩ := Means.at (H1.out.below (below_drewN (Below.refl _ _) q)) K g1
        rw [g2] at d0
        rw [g3] at d1
        rw [hK]
        obtain ⟨p, hp⟩ : ∃ p, ix (splitS a (wts l)) i = p := ⟨_, rfl⟩
        rw [hp] at d1 HLE hp0
        have hle2 := HG.out.le i (by omega)
        have e1 : ((bs (nm l i)).toList == (bs (nm l i)).toList) = true := by simp
        have t1 : ¬ p < 1 := by omega
        have t2 : ¬ am l i < p := by omega
        clear g2 g3 hp hK HNX
        generalize hw : w2.drewN q = wq at *
        have HWQ := Lib.hid hw
        clear hw
        go_wp2_with fail
        go_quiet (fail)
        go_upto_region 12 with fail
        have c1' : (wq.drewN nq).cell? ⟨b, o + i * 2 + 1, none⟩ = some (.int .i64 (am l i)) := c1
        have d1' : (wq.drewN nq).cell? ⟨b', o' + K * 2 + 1, none⟩ = some (.int .i64 p) := d1
        have HWY : Hid (∃ q, wq.drewN nq = w2.drewN q) := ⟨q + nq, by rw [← HWQ.out, World.drewN_drewN]⟩
        clear c0 c1 d0 d1 HWQ
        generalize wq.drewN nq = wy at *
        go_quiet (fail)
        go_wp2_with fail
        go_roundw
        case rel => exact ⟨i + 1, by go_num, by rw [HNXL.out]; go_num, by omega, by obtain ⟨q', hq'⟩ := HWY.out; exact ⟨q' + nq, by rw [hq', World.drewN_drewN]⟩⟩
        case measure => simp [intOf]; omega
      · rw [if_neg hp0, List.append_nil] at HNX
        have HNXL : Hid ((outS l (splitS a (wts l)) (i + 1)).length = K) := by show _ = _; rw [HNX.out, hK]
        rw [hK]
        by_cases hKl : K < ka
        · have g2 := out_no (l := l) (i := i) HG.out.diff (by omega) hps hp0 (by rw [hK, ← HPE.out, hka]; exact hKl)
          rw [← HPE.out, hK] at g2
          obtain ⟨b', o', rfl, d0, d1⟩ := Means.at (H1.out.below (below_drewN (Below.refl _ _) q)) K hKl
          have e1 : ((bs (nm (partList l a) K)).toList == (bs (nm l i)).toList) = false := by rw [bs_beq]; simp [g2]
          clear g2 hK HNX hp0
          generalize hw : w2.drewN q = wq at *
          have HWQ := Lib.hid hw
          clear hw
          go_wp2_with fail
          go_quiet (fail)
          go_wp2_with fail
          go_roundw
          case rel => exact ⟨i + 1, by go_num, by rw [HNXL.out], by omega, q + nq, by rw [← HWQ.out, World.drewN_drewN]⟩
          case measure => simp [intOf]; omega
        · clear hK HNX hp0
          generalize hw : w2.drewN q = wq at *
          have HWQ := Lib.hid hw
          clear hw
          go_wp2_with fail
          go_quiet (fail)
          go_wp2_with fail
          go_roundw
          case rel => exact ⟨i + 1, by go_num, by rw [HNXL.out], by omega, q + nq, by rw [← HWQ.out, World.drewN_drewN]⟩
          case measure => simp [intOf]; omega
    · have hi' : i = n := by omega
      have hKK : K = ka := by rw [← hK, hi', ← hlen, ← HPE.out, hka]
      subst hi'
      rw [hK, hKK]
      have HB3 := Lib.hid (below_drewN HB2.out q)
      have HM3 := Lib.hid (HM.out.below HB3.out)
      have H13 := Lib.hid (H1.out.drewN q)
      have HPOS : Hid (∀ q, q < i → 0 ≤ am l q ∧ am l q ≤ 1000000000) := fun q hq => by have := HG.out.le q (by omega); omega
      clear hK hKK K
      generalize w2.drewN q = w3 at *
      go_wp2_with fail
      refine (rtotal_any ra i c l w3 HM3.out (by omega) HPOS.out).mono ?_
      rintro e w4 ⟨rfl, rfl⟩
      go_wp2_with fail
      refine (rfsplit_any ra i c l (totS l) w3 HM3.out (by omega) (fun q hq => HF.out.name q (by omega))).mono ?_
      rintro e w4 ⟨lb, kb, cb, rfl, hb4, ho4⟩
      rw [rspl_ok HRR.out hs.1 (Int.le_refl _), part_whole HG.out HNE.out] at ho4 ⊢
      have hkb := ho4.1
      have HB4 := Lib.hid (HB3.out.trans (hb4.mono HB3.out.size))
      have HM4 := Lib.hid (HM3.out.below hb4)
      have H14 := Lib.hid (H13.out.below hb4)
      have H24 := Lib.hid ho4.recs
      clear hb4 ho4
      go_wp2_with fail
      refine (rfsplit_any ra i c l 0 w4 HM4.out (by omega) (fun q hq => HF.out.name q (by omega))).mono ?_
      rintro e w5 ⟨lc, kc, cc, rfl, hb5, ho5⟩
      rw [rspl_ok HRR.out (Int.le_refl _) hs.1, part_nothing HG.out HNE.out] at ho5 ⊢
      obtain rfl : 0 = kc := ho5.1
      have HB5 := Lib.hid (HB4.out.trans (hb5.mono HB4.out.size))
      have HM5 := Lib.hid (HM4.out.below hb5)
      have H15 := Lib.hid (H14.out.below hb5)
      have H25 := Lib.hid (H24.out.below hb5)
      clear hb5 ho5
      go_wp2_with fail
      refine (rtotal_any la ka ca (partList l a) w5 H15.out (by omega) (fun q hq => HPP.out q (by omega))).mono ?_
      rintro e w6 ⟨rfl, rfl⟩
      rw [HTOT.out]
      have ea : (a == a) = true := by simp
      go_wp2_with fail
      refine (same_yes lb ra kb i cb c l w5 H25.out HM5.out (by omega) (by omega)).mono ?_
      rintro e w6 ⟨rfl, hb6⟩
      have HB6 := Lib.hid (HB5.out.trans (hb6.mono HB5.out.size))
      clear hb6
      go_wp2_with fail
      go_ret
      exact ⟨rfl, HB6.out⟩
end Go.Proofs.YtgpmhaeiccljaaaDoor
