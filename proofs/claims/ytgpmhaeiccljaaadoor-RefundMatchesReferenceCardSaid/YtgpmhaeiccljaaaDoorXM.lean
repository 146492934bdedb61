/- foyerlaw29.RefundMatchesReference returns true: the walk. -/
import Derived.Test.YtgpmhaeiccljaaaDoorRK0
namespace Go.Proofs.YtgpmhaeiccljaaaDoor
open Go.RowKit Go.IntWalk

set_option maxRecDepth 20000 in
set_option maxHeartbeats 3200000 in
theorem refundMatches_any (ra : Option Addr) (n c : Nat) (l : List MeanT) (a : Int) (ro : Option Addr) (m d : Nat) (ops : List OpT) (w : World) (hn : n ≤ 9223372036854775807) (hM : Means w ra n l) (hl : ∀ i, i < n → (nm l i).length ≤ 9223372036854775807)
    (hm : m ≤ 9223372036854775807) (hO : OpsAt w ro m ops) (hol : ∀ i, i < m → (on ops i).length ≤ 9223372036854775807) :
    Calls Tryd.prog 3 #[.slice ra n c, .int .i64 a, .slice ro m d] w fun e w' => e = .returned (.bool true) ∧ Below w.heap.size w w' := by
  have HM := Lib.hid hM
  have HO := Lib.hid hO
  have HL := Lib.hid hl
  have HOL := Lib.hid hol
  have hlen := hM.1
  have holen := hO.1
  clear hM hO hl hol
  go_enter Tryd.func3, Tryd.ntmps3
  go_wp2_with fail
  refine (head_any w).mono ?_
  rintro e w1 ⟨rfl, hb1⟩
  have HB1 := Lib.hid hb1
  clear hb1
  go_wp2_with fail
  refine (few_any ra ro n c m d l ops w1 (HM.out.below HB1.out) (HO.out.below HB1.out) hn hm HL.out HOL.out).mono ?_
  rintro e w2 ⟨rfl, rfl⟩
  cases hf : fewO l ops
  · clear hf
    go_wp2_with fail
    go_ret
    exact ⟨rfl, HB1.out⟩
  have HF := Lib.hid (fewO_p hf)
  have hn30 := HF.out.len
  have hm30 := HF.out.olen
  clear hf
  go_wp2_with fail
  refine (rfsplit_any ra n c l a w1 (HM.out.below HB1.out) (by omega) (fun i hi => HF.out.name i (by omega))).mono ?_
  rintro e w2 ⟨la, ka, ca, rfl, hb2, ho2⟩
  have HB2 := Lib.hid (HB1.out.trans (hb2.mono HB1.out.size))
  have H1 := Lib.hid ho2.recs
  have hka := ho2.1
  have hrl : (rsplS l a).1.length ≤ 30 := by
    unfold rsplS
    split
    · have := mpart_len l a; omega
    · simp
  obtain ⟨r1, hr1⟩ : ∃ r1, rsplS l a = r1 := ⟨_, rfl⟩
  have HRS := Lib.hid hr1
  rw [hr1] at H1 hka hrl ⊢
  obtain ⟨RL, er⟩ := r1
  have xer : (er == er) = true := by simp
  clear hb2 ho2 hr1
  go_wp2_with fail
  refine (rrfsplit_any ra n c l a w2 (HM.out.below HB2.out) (by omega) (fun i hi => HF.out.name i (by omega))).mono ?_
  rintro e w3 ⟨lb, kb, cb, rfl, hb3, ho3⟩
  have HB3 := Lib.hid (HB2.out.trans (hb3.mono HB2.out.size))
  rw [HRS.out] at ho3 ⊢
  have H1b := Lib.hid (H1.out.below hb3)
  have H2 := Lib.hid ho3.recs
  have hkb := ho3.1
  clear hb3 ho3
  go_wp2_with fail
  refine (new_any ra n c l w3 (HM.out.below HB3.out) (by omega) (fun i hi => HF.out.name i (by omega))).mono ?_
  rintro e w4 ⟨hb4, ⟨hr, rfl⟩ | ⟨hr, g, rfl, ha⟩⟩
  · have HB4 := Lib.hid (HB3.out.trans (hb4.mono HB3.out.size))
    have H1c := Lib.hid (H1b.out.below hb4)
    have H2c := Lib.hid (H2.out.below hb4)
    have HRR := Lib.hid hr
    clear hb4 hr
    go_wp2_with fail
    refine (rnew_any ra n c l w4 (HM.out.below HB4.out) (by omega) (fun i hi => HF.out.name i (by omega))).mono ?_
    rintro e w5 ⟨hb5, ⟨_, rfl⟩ | ⟨hr, _⟩⟩
    rotate_left
    · rw [HRR.out] at hr; simp at hr
    have HB5 := Lib.hid (HB4.out.trans (hb5.mono HB4.out.size))
    have H1d := Lib.hid (H1c.out.below hb5)
    have H2d := Lib.hid (H2c.out.below hb5)
    clear hb5
    go_wp2_with fail
    refine (same_yes la lb ka kb ca cb RL w5 H1d.out H2d.out (by omega) (by omega)).mono ?_
    rintro e w6 ⟨rfl, hb6⟩
    have HB6 := Lib.hid (HB5.out.trans (hb6.mono HB5.out.size))
    clear hb6
    go_wp2_with fail
    go_loopw [16] (fun v16 wr => v16 = .int .i64 0 ∧ w6 = wr) (fun _ _ => 0)
    case atStart => exact ⟨rfl, rfl⟩
    case round =>
      obtain ⟨rfl, rfl⟩ := hrel
      by_cases hm0 : 0 < m
      · go_wp2_with fail
        go_ret
        exact ⟨rfl, HB6.out⟩
      · go_wp2_with fail
        go_ret
        exact ⟨rfl, HB6.out⟩
  have HB4 := Lib.hid (HB3.out.trans (hb4.mono HB3.out.size))
  have H1c := Lib.hid (H1b.out.below hb4)
  have H2c := Lib.hid (H2.out.below hb4)
  have HRR := Lib.hid hr
  have HA4 := Lib.hid (ha.low HB3.out.size)
  have hgl := HA4.out.le.1
  clear hb4 hr ha
  go_wp2_with fail
  refine (rnew_any ra n c l w4 (HM.out.below HB4.out) (by omega) (fun i hi => HF.out.name i (by omega))).mono ?_
  rintro e w5 ⟨hb5, ⟨hr, _⟩ | ⟨_, g2, rfl, ha2⟩⟩
  · rw [HRR.out] at hr; simp at hr
  have HB5 := Lib.hid (HB4.out.trans (hb5.mono HB4.out.size))
  have H1d := Lib.hid (H1c.out.below hb5)
  have H2d := Lib.hid (H2c.out.below hb5)
  have HA5 := Lib.hid (HA4.out.below hb5)
  have HR5 := Lib.hid (ha2.low HB4.out.size)
  have hgl2 := HR5.out.le.1
  have HG := Lib.hid (doN_good (right_iff.mp HRR.out).good ops)
  clear hb5 ha2 HA4 HB4 H1c H2c HB3 H1b H2 HB2 H1
  go_wp2_with fail
  refine (same_yes la lb ka kb ca cb RL w5 H1d.out H2d.out (by omega) (by omega)).mono ?_
  rintro e w6 ⟨rfl, hb6⟩
  have HB6 := Lib.hid (HB5.out.trans (hb6.mono HB5.out.size))
  have HA6 := Lib.hid (HA5.out.below hb6)
  have HR6 := Lib.hid (HR5.out.below hb6)
  clear hb6 HB5 HA5 HR5 H1d H2d xer
  go_wp2_with fail
  go_loopw [16] (fun v16 wr => ∃ i : Nat, v16 = .int .i64 i ∧ i ≤ m ∧ Hid (Below w.heap.size w wr) ∧ Hid (RefAt wr w.heap.size g (doN l ops i)) ∧ Hid (RefAtR wr w.heap.size g2 (doN l ops i))) (fun v16 _ => m - (intOf v16).toNat)
  case atStart => exact ⟨0, rfl, Nat.zero_le _, HB6, HA6, HR6⟩
  case round =>
    clear HB6 HA6 HR6
    obtain ⟨i, rfl, hi, HB, HA, HR⟩ := hrel
    have hdl := doN_len l ops i
    have hdl2 := doN_len l ops (i + 1)
    by_cases hlt : i < m
    · have HNL : Hid (doN l ops (i + 1) = doLeft (doN l ops i) (oa ops i) (on ops i)) := rfl
      rw [HNL.out] at hdl2
      obtain ⟨b, o, rfl, c0, c1⟩ := OpsAt.at (HO.out.below HB.out) i hlt
      have HGL := Lib.hid (HG.out i)
      obtain ⟨L, hLe⟩ : ∃ L, doN l ops i = L := ⟨_, rfl⟩
      obtain ⟨x, hxe⟩ : ∃ x, oa ops i = x := ⟨_, rfl⟩
      obtain ⟨t, hte⟩ : ∃ t, on ops i = t := ⟨_, rfl⟩
      have HOX := Lib.hid hxe
      have HOT := Lib.hid hte
      rw [hLe] at HGL HA HR HNL hdl hdl2
      rw [hxe] at c0 HNL hdl2
      rw [hte] at c1 HNL hdl2
      clear hLe hxe hte
      go_wp2_with fail
      refine (do_any w.heap.size g L x t wr HA.out HGL.out (by omega)).mono ?_
      rintro e w3 ⟨lx, kx, cx, rfl, hg3, ho3, ha3⟩
      have HB3 := Lib.hid (below_grown HB.out hg3 hgl)
      have HR3 := Lib.hid (HR.out.far HA.out hg3)
      have HA3 := Lib.hid ha3
      have HX3 := Lib.hid ho3.recs
      clear hg3 ho3 ha3 c0 c1 HA HR HB
      obtain ⟨b', o', e', c0, c1⟩ := OpsAt.at (HO.out.below HB3.out) i hlt
      simp only [Option.some.injEq, Addr.mk.injEq, and_true] at e'
      obtain ⟨rfl, rfl⟩ := e'
      rw [HOX.out] at c0
      rw [HOT.out] at c1
      obtain ⟨NL, hNL⟩ : ∃ NL, doLeft L x t = NL := ⟨_, rfl⟩
      have HNE := Lib.hid hNL
      rw [hNL] at HNL HA3 hdl2
      clear hNL
      by_cases ht : t = []
      · have hbq' : (bs t).toList.isEmpty = true := by rw [bs_toList, ht]; rfl
        have HV : Hid (doLost L t = 0 ∧ doErr L x t = (mpartS L x).2 ∧ doBack L x t = (mpartS L x).1 ∧ NL = backS L x) := by rw [← HNE.out]; unfold doLost doErr doBack doLeft; simp [Hid, ht]
        have hbk30 := mpart_len L x
        rw [HV.out.1, HV.out.2.1]
        rw [HV.out.2.2.1] at HX3
        clear ht
        go_wp2_with fail
        refine (rback_any w.heap.size g2 L x w3 HR3.out HGL.out (by omega)).mono ?_
        rintro e w4 ⟨ly, ky, cy, rfl, hg4, ho4, ha4⟩
        have HB4 := Lib.hid (below_grown HB3.out hg4 hgl2)
        have HA4 := Lib.hid (HA3.out.far HR3.out hg4)
        have HX := Lib.hid (HX3.out.farR HR3.out hg4)
        have HY := Lib.hid ho4.recs
        rw [← HV.out.2.2.2] at ha4
        have HR4 := Lib.hid ha4
        clear hg4 ho4 ha4 c0 c1 HB3 HA3 HR3 HX3
        obtain ⟨BK, hBK⟩ : ∃ BK, (mpartS L x).1 = BK := ⟨_, rfl⟩
        obtain ⟨er, her⟩ : ∃ er, (mpartS L x).2 = er := ⟨_, rfl⟩
        obtain ⟨lo, hlo⟩ : ∃ lo : Int, lo = 0 := ⟨_, rfl⟩
        rw [hBK] at HX HY hbk30
        rw [her]
        clear hBK her HV
        replace hbk30 : BK.length ≤ 30 := by omega
        have hkx := HX.out.1
        have hky := HY.out.1
        have xer : (er == er) = true := by simp
        clear hlo lo
        have hbl : BK.length ≤ 30 := hbk30
        go_wp2_with fail
        refine (same_yes lx ly kx ky cx cy BK w4 HX.out HY.out (by omega) (by omega)).mono ?_
        rintro e w5 ⟨rfl, hb5⟩
        have HB5 := Lib.hid (HB4.out.trans (hb5.mono HB4.out.size))
        have HA5 := Lib.hid (HA4.out.below hb5)
        have HR5 := Lib.hid (HR4.out.below hb5)
        clear hb5 HB4 HA4 HR4 HX HY
        go_wp2_with fail
        refine (left_any w.heap.size g NL w5 HA5.out (by omega)).mono ?_
        rintro e w6 ⟨l6, k6, c6, rfl, _, hb6, ho6⟩
        have HB6 := Lib.hid (HB5.out.trans (hb6.mono HB5.out.size))
        have HA6 := Lib.hid (HA5.out.below hb6)
        have HR6 := Lib.hid (HR5.out.below hb6)
        have H6 := Lib.hid ho6.recs
        have hk6 := ho6.1
        clear hb6 ho6 HB5 HA5 HR5
        go_wp2_with fail
        refine (rleft_any w.heap.size g2 NL w6 HR6.out).mono ?_
        rintro e w7 ⟨rfl, l7, k7, c7, rfl, ho7⟩
        have H7 := Lib.hid ho7.recs
        have hk7 := ho7.1
        clear ho7
        go_wp2_with fail
        refine (same_yes l6 l7 k6 k7 c6 c7 NL w6 H6.out H7.out (by omega) (by omega)).mono ?_
        rintro e w8 ⟨rfl, hb8⟩
        have HB8 := Lib.hid (HB6.out.trans (hb8.mono HB6.out.size))
        have HA8 : Hid (RefAt w8 w.heap.size g (doN l ops (i + 1))) := by have := HA6.out.below hb8; rw [← HNL.out] at this; exact this
        have HR8 : Hid (RefAtR w8 w.heap.size g2 (doN l ops (i + 1))) := by have := HR6.out.below hb8; rw [← HNL.out] at this; exact this
        clear hb8 HB6 HA6 HR6 H6 H7
        go_wp2_with fail
        go_roundw
        case rel => exact ⟨i + 1, by go_num, hlt, HB8, HA8, HR8⟩
        case measure => simp [intOf]; omega
      · have hbq' : (bs t).toList.isEmpty = false := by rw [bs_toList]; simp [ht]
        have HV : Hid (doLost L t = (lostS L t).1 ∧ doErr L x t = (lostS L t).2 ∧ doBack L x t = [] ∧ NL = chgS L t) := by rw [← HNE.out]; unfold doLost doErr doBack doLeft; simp [Hid, ht]
        rw [HV.out.1, HV.out.2.1]
        rw [HV.out.2.2.1] at HX3
        clear ht
        go_wp2_with fail
        refine (rcharge_any w.heap.size g2 L t w3 HR3.out HGL.out (by omega)).mono ?_
        rintro e w4 ⟨rfl, hg4, ha4⟩
        have HB4 := Lib.hid (below_grown HB3.out hg4 hgl2)
        have HA4 := Lib.hid (HA3.out.far HR3.out hg4)
        have HX := Lib.hid (HX3.out.farR HR3.out hg4)
        rw [← HV.out.2.2.2] at ha4
        have HR4 := Lib.hid ha4
        clear hg4 ha4 c0 c1 HB3 HA3 HR3 HX3
        obtain ⟨er, her⟩ : ∃ er, (lostS L t).2 = er := ⟨_, rfl⟩
        obtain ⟨lo, hlo⟩ : ∃ lo, (lostS L t).1 = lo := ⟨_, rfl⟩
        rw [her, hlo]
        clear her hlo HV
        have HY : Hid (Means w4 none 0 []) := Recs.none _
        obtain rfl : 0 = kx := HX.out.1
        have xer : (er == er) = true := by simp
        have xlo : (lo == lo) = true := by simp
        go_wp2_with fail
        refine (same_yes lx none 0 0 cx 0 [] w4 HX.out HY.out (by omega) (by omega)).mono ?_
        rintro e w5 ⟨rfl, hb5⟩
        have HB5 := Lib.hid (HB4.out.trans (hb5.mono HB4.out.size))
        have HA5 := Lib.hid (HA4.out.below hb5)
        have HR5 := Lib.hid (HR4.out.below hb5)
        clear hb5 HB4 HA4 HR4 HX HY
        go_wp2_with fail
        refine (left_any w.heap.size g NL w5 HA5.out (by omega)).mono ?_
        rintro e w6 ⟨l6, k6, c6, rfl, _, hb6, ho6⟩
        have HB6 := Lib.hid (HB5.out.trans (hb6.mono HB5.out.size))
        have HA6 := Lib.hid (HA5.out.below hb6)
        have HR6 := Lib.hid (HR5.out.below hb6)
        have H6 := Lib.hid ho6.recs
        have hk6 := ho6.1
        clear hb6 ho6 HB5 HA5 HR5
        go_wp2_with fail
        refine (rleft_any w.heap.size g2 NL w6 HR6.out).mono ?_
        rintro e w7 ⟨rfl, l7, k7, c7, rfl, ho7⟩
        have H7 := Lib.hid ho7.recs
        have hk7 := ho7.1
        clear ho7
        go_wp2_with fail
        refine (same_yes l6 l7 k6 k7 c6 c7 NL w6 H6.out H7.out (by omega) (by omega)).mono ?_
        rintro e w8 ⟨rfl, hb8⟩
        have HB8 := Lib.hid (HB6.out.trans (hb8.mono HB6.out.size))
        have HA8 : Hid (RefAt w8 w.heap.size g (doN l ops (i + 1))) := by have := HA6.out.below hb8; rw [← HNL.out] at this; exact this
        have HR8 : Hid (RefAtR w8 w.heap.size g2 (doN l ops (i + 1))) := by have := HR6.out.below hb8; rw [← HNL.out] at this; exact this
        clear hb8 HB6 HA6 HR6 H6 H7
        go_wp2_with fail
        go_roundw
        case rel => exact ⟨i + 1, by go_num, hlt, HB8, HA8, HR8⟩
        case measure => simp [intOf]; omega
    · have hi' : i = m := by omega
      subst hi'
      go_wp2_with fail
      go_ret
      exact ⟨rfl, HB.out⟩
end Go.Proofs.YtgpmhaeiccljaaaDoor
