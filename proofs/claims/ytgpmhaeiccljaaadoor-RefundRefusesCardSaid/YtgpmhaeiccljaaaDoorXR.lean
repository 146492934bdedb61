/- foyerlaw29.RefundRefuses returns true: the walk. -/
import Derived.Test.YtgpmhaeiccljaaaDoorRK0
namespace Go.Proofs.YtgpmhaeiccljaaaDoor
open Go.RowKit Go.IntWalk

set_option maxRecDepth 20000 in
set_option maxHeartbeats 3200000 in
theorem refundRefuses_any (ra : Option Addr) (n c : Nat) (l : List MeanT) (ro : Option Addr) (m d : Nat) (ops : List OpT) (a : Int) (w : World) (hn : n ≤ 9223372036854775807) (hM : Means w ra n l) (hl : ∀ i, i < n → (nm l i).length ≤ 9223372036854775807)
    (hm : m ≤ 9223372036854775807) (hO : OpsAt w ro m ops) (hol : ∀ i, i < m → (on ops i).length ≤ 9223372036854775807) :
    Calls Tryd.prog 8 #[.slice ra n c, .slice ro m d, .int .i64 a] w fun e w' => e = .returned (.bool true) ∧ Below w.heap.size w w' := by
  have HM := Lib.hid hM
  have HO := Lib.hid hO
  have HL := Lib.hid hl
  have HOL := Lib.hid hol
  have hlen := hM.1
  have holen := hO.1
  clear hM hO hl hol
  go_enter Tryd.func8, Tryd.ntmps8
  go_wp2_with fail
  refine (head_any w).mono ?_
  rintro e w1 ⟨rfl, hb1⟩
  have HB1 := Lib.hid hb1
  clear hb1
  go_wp2_with fail
  refine (few_any ra ro n c m d l ops w1 (HM.out.below HB1.out) (HO.out.below HB1.out) hn hm HL.out HOL.out).mono ?_
  rintro e w2 ⟨rfl, rfl⟩
  cases hf : fewO l ops
  · clear hf
    go_wp2_with fail
    go_ret
    exact ⟨rfl, HB1.out⟩
  have HF := Lib.hid (fewO_p hf)
  have hn30 := HF.out.len
  have hm30 := HF.out.olen
  clear hf
  go_wp2_with fail
  refine (new_any ra n c l w1 (HM.out.below HB1.out) (by omega) (fun i hi => HF.out.name i (by omega))).mono ?_
  rintro e w2 ⟨hb2, ⟨_, rfl⟩ | ⟨hr, g, rfl, ha⟩⟩
  · have HB2 := Lib.hid (HB1.out.trans (hb2.mono HB1.out.size))
    clear hb2
    go_wp2_with fail
    go_ret
    exact ⟨rfl, HB2.out⟩
  have HB2 := Lib.hid (HB1.out.trans (hb2.mono HB1.out.size))
  have HG := Lib.hid (doN_good (right_iff.mp hr).good ops)
  have HA := Lib.hid (ha.low HB1.out.size)
  have hgl := HA.out.le.1
  clear hb2 hr ha
  go_wp2_with fail
  go_loopw [10] (fun v10 wr => ∃ i : Nat, v10 = .int .i64 i ∧ i ≤ m ∧ Hid (Below w.heap.size w wr) ∧ Hid (RefAt wr w.heap.size g (doN l ops i))) (fun v10 _ => m - (intOf v10).toNat)
  case atStart => exact ⟨0, rfl, Nat.zero_le _, HB2, HA⟩
  case round =>
    clear HB2 HA
    obtain ⟨i, rfl, hi, HB, HA⟩ := hrel
    have hdl := doN_len l ops i
    by_cases hlt : i < m
    · obtain ⟨b, o, rfl, c0, c1⟩ := OpsAt.at (HO.out.below HB.out) i hlt
      go_wp2_with fail
      refine (do_any w.heap.size g (doN l ops i) (oa ops i) (on ops i) wr HA.out (HG.out i) (by omega)).mono ?_
      rintro e w3 ⟨la, k, c', rfl, hg3, _, ha3⟩
      have HB3 := Lib.hid (below_grown HB.out hg3 hgl)
      have HA3 : Hid (RefAt w3 w.heap.size g (doN l ops (i + 1))) := ha3
      clear hg3 ha3 c0 c1
      go_wp2_with fail
      go_roundw
      case rel => exact ⟨i + 1, by go_num, hlt, HB3, HA3⟩
      case measure => simp [intOf]; omega
    · have hi' : i = m := by omega
      subst hi'
      have HGL := Lib.hid (HG.out i)
      generalize doN l ops i = L at *
      have hs := HGL.out.sum
      have HPos : Hid (∀ i, i < L.length → 0 ≤ am L i ∧ am L i ≤ 1000000000) := fun i hi => by have := HGL.out.le i hi; omega
      go_wp2_with fail
      refine (left_any w.heap.size g L wr HA.out (by omega)).mono ?_
      rintro e w3 ⟨ll, kl, cl, rfl, _, hb3, ho3⟩
      have hkl := ho3.1
      have HB3 := Lib.hid (HB.out.trans (hb3.mono HB.out.size))
      have HA3 := Lib.hid (HA.out.below hb3)
      have HL3 := Lib.hid ho3.recs
      clear hb3 ho3
      go_wp2_with fail
      refine (back_any w.heap.size g L a w3 HA3.out HGL.out (by omega)).mono ?_
      rintro e w4 ⟨lb, kb, cb, rfl, hg4, ho4, ha4⟩
      have HB4 := Lib.hid (below_grown HB3.out hg4 hgl)
      have HL4 := Lib.hid (HL3.out.farA HA3.out hg4)
      have HA4 := Lib.hid ha4
      have hkb := ho4.1
      clear hg4 ho4 ha4
      by_cases h0 : a < 0
      · have hp := part_neg (l := L) h0
        rw [hp] at hkb
        have HBK : Hid (backS L a = L) := back_err (by rw [hp]; decide)
        have hkb' : kb = 0 := hkb.symm
        subst hkb'
        rw [hp]
        clear hp hkb
        go_wp2_with fail
        refine (rtotal_any ll kl cl L w4 HL4.out (by omega) (fun i hi => HPos.out i (by omega))).mono ?_
        rintro e w5 ⟨rfl, rfl⟩
        go_wp2_with fail
        refine (left_any w.heap.size g L w4 (by have := HA4.out; rwa [HBK.out] at this) (by omega)).mono ?_
        rintro e w5 ⟨l2, k2, c2, rfl, _, hb5, ho5⟩
        have hk2 := ho5.1
        have HB5 := Lib.hid (HB4.out.trans (hb5.mono HB4.out.size))
        have HL5 := Lib.hid (HL4.out.below hb5)
        have HO5 := Lib.hid ho5.recs
        clear hb5 ho5
        go_wp2_with fail
        refine (same_yes l2 ll k2 kl c2 cl L w5 HO5.out HL5.out (by omega) (by omega)).mono ?_
        rintro e w6 ⟨rfl, hb6⟩
        have HB6 := Lib.hid (HB5.out.trans (hb6.mono HB5.out.size))
        clear hb6
        go_wp2_with fail
        go_ret
        exact ⟨rfl, HB6.out⟩
      · by_cases h1 : totS L < a
        · have hp := part_big (l := L) (by omega) h1
          rw [hp] at hkb
          have HBK : Hid (backS L a = L) := back_err (by rw [hp]; decide)
          have hkb' : kb = 0 := hkb.symm
          subst hkb'
          rw [hp]
          clear hp hkb
          go_wp2_with fail
          refine (rtotal_any ll kl cl L w4 HL4.out (by omega) (fun i hi => HPos.out i (by omega))).mono ?_
          rintro e w5 ⟨rfl, rfl⟩
          go_wp2_with fail
          refine (left_any w.heap.size g L w4 (by have := HA4.out; rwa [HBK.out] at this) (by omega)).mono ?_
          rintro e w5 ⟨l2, k2, c2, rfl, _, hb5, ho5⟩
          have hk2 := ho5.1
          have HB5 := Lib.hid (HB4.out.trans (hb5.mono HB4.out.size))
          have HL5 := Lib.hid (HL4.out.below hb5)
          have HO5 := Lib.hid ho5.recs
          clear hb5 ho5
          go_wp2_with fail
          refine (same_yes l2 ll k2 kl c2 cl L w5 HO5.out HL5.out (by omega) (by omega)).mono ?_
          rintro e w6 ⟨rfl, hb6⟩
          have HB6 := Lib.hid (HB5.out.trans (hb6.mono HB5.out.size))
          clear hb6
          go_wp2_with fail
          go_ret
          exact ⟨rfl, HB6.out⟩
        · have hp := part_fit (l := L) (a := a) (by omega) (by omega)
          rw [hp]
          clear hp hkb
          go_wp2_with fail
          refine (rtotal_any ll kl cl L w4 HL4.out (by omega) (fun i hi => HPos.out i (by omega))).mono ?_
          rintro e w5 ⟨rfl, rfl⟩
          go_wp2_with fail
          go_ret
          exact ⟨rfl, HB4.out⟩
end Go.Proofs.YtgpmhaeiccljaaaDoor
