/- merge: MergeMatchesReference: the walk. -/
import Derived.Test.YtpmoelkblngamaaQMMR33
import Derived.Test.YtpmoelkblngamaaQMMR34
import Derived.Test.YtpmoelkblngamaaQMMR38
import Derived.Test.YtpmoelkblngamaaQMMR44

namespace Go.Proofs.Ytpmoelkblngamaa
open Go.RowKit Go.IntWalk Go.Maps Go.WideMaps

set_option maxRecDepth 100000 in
set_option maxHeartbeats 6400000 in
theorem matches_law (w : World) (la : Option Addr) (na ca : Nat) (a : List Scn) (lb : Option Addr) (nb cb : Nat) (b : List Scn) (ga : Option Addr) (gn gc : Nat) (gone : List GoR) (stale : Int) (ha : Recs ScnE w la na a) (hna : na ≤ 9223372036854775807) (hca : la = none → ca = 0) (hoa : ∀ s ∈ a, s.owner.length ≤ 9223372036854775807) (hwa : ∀ s ∈ a, WfS s)
    (hb : Recs ScnE w lb nb b) (hnb : nb ≤ 9223372036854775807) (hcb : lb = none → cb = 0) (hob : ∀ s ∈ b, s.owner.length ≤ 9223372036854775807) (hwb : ∀ s ∈ b, WfS s) (hg : Recs GoE w ga gn gone) (hgn : gn ≤ 9223372036854775807) (_ : ∀ g ∈ gone, (Lit.int .i64 g.gone).wf = true) (_ : (Lit.int .i64 stale).wf = true) :
    Calls Try.prog 3 #[.slice la na ca, .slice lb nb cb, .slice ga gn gc, .int .i64 stale] w fun e w' => e = .returned (.bool true) ∧ Below w.heap.size w w' := by
  obtain rfl : a.length = na := ha.1
  obtain rfl : b.length = nb := hb.1
  have HA := Lib.hid ha
  have HB := Lib.hid hb
  have HG := Lib.hid hg
  have HCA := Lib.hid hca
  have HCB := Lib.hid hcb
  have HOA := Lib.hid hoa
  have HOB := Lib.hid hob
  have HWA := Lib.hid hwa
  have HWB := Lib.hid hwb
  clear ha hb hg hca hcb hoa hob hwa hwb
  go_enter Try.func3, Try.ntmps3
  go_wp2_with fail
  refine (head_any w).mono ?_
  rintro e w1 ⟨rfl, hbl⟩
  have HA1 := Lib.hid (HA.out.below hbl)
  have HB1 := Lib.hid (HB.out.below hbl)
  have HG1 := Lib.hid (HG.out.below hbl)
  have HW1 := Lib.hid hbl
  clear hbl HA HB HG
  go_wp2_with fail
  refine (few_any la a.length ca a 40 w1 HA1.out hna HOA.out).mono ?_
  rintro e w2 ⟨rfl, rfl⟩
  cases hf : fewB a 40
  · go_wp2_with fail
    go_ret
    exact ⟨rfl, HW1.out⟩
  go_wp2_with fail
  refine (few_any lb b.length cb b 40 w1 HB1.out hnb HOB.out).mono ?_
  rintro e w2 ⟨rfl, rfl⟩
  cases hfb : fewB b 40
  · go_wp2_with fail
    go_ret
    exact ⟨rfl, HW1.out⟩
  by_cases hg40 : gn ≤ 40
  rotate_left
  · go_wp2_with fail
    go_ret
    exact ⟨rfl, HW1.out⟩
  have hna40 : a.length ≤ 40 := by have h1 := (fewB_iff.mp hf).2; omega
  have hnb40 : b.length ≤ 40 := by have h1 := (fewB_iff.mp hfb).2; omega
  clear HOA HOB hf hfb
  go_wp2_with fail
  refine (light_any la a.length ca a w1 HA1.out (by omega)).mono ?_
  rintro e w2 ⟨rfl, rfl⟩
  cases hl1 : lightB a
  · go_wp2_with fail
    go_ret
    exact ⟨rfl, HW1.out⟩
  go_wp2_with fail
  refine (light_any lb b.length cb b w1 HB1.out (by omega)).mono ?_
  rintro e w2 ⟨rfl, rfl⟩
  cases hl2 : lightB b
  · go_wp2_with fail
    go_ret
    exact ⟨rfl, HW1.out⟩
  clear hl1 hl2
  have HSA : Hid (Scs w1 (.slice la a.length ca) a) := ⟨la, ca, rfl, HA1.out, HCA.out⟩
  have HSB : Hid (Scs w1 (.slice lb b.length cb) b) := ⟨lb, cb, rfl, HB1.out, HCB.out⟩
  have HLG : Hid (∀ w1 : World, Scs w1 (.slice la a.length ca) a → Scs w1 (.slice lb b.length cb) b → LogsAt (w1.alloc (.cells #[.slice la a.length ca, .slice lb b.length cb] 22)) (some ⟨w1.heap.size, 0, none⟩) 2 [a, b]) := fun w1 h1 h2 => by
    have hA := Joins.below_alloc1 w1 (.cells #[.slice la a.length ca, .slice lb b.length cb] 22)
    have hN := World.alloc_heap_new w1 (.cells #[.slice la a.length ca, .slice lb b.length cb] 22)
    refine ⟨rfl, fun i hi => ?_⟩
    match i, hi with
    | 0, _ => exact ⟨_, 0, _, rfl, cell_of_row (j := 0) _ _ _ _ _ hN, h1.below hA⟩
    | 1, _ => exact ⟨_, 0, _, rfl, cell_of_row (j := 1) _ _ _ _ _ hN, h2.below hA⟩
  have hsm : sumL [a, b] ≤ 80 := by show (List.flatten [a, b]).length ≤ _; simp only [List.flatten_cons, List.flatten_nil, List.length_append, List.length_nil]; omega
  go_upto_region 4 with fail
  go_wp2_with fail
  refine (merge_any _ 2 2 [a, b] _ (HLG.out w1 HSA.out HSB.out) (by decide) (by omega)).mono ?_
  rintro e w3 ⟨xa, xc, rfl, ho, _, hbl⟩
  rw [show List.flatten [a, b] = a ++ b from by simp] at ho ⊢
  obtain ⟨X, hX⟩ : ∃ X, X = mergeS (a ++ b) := ⟨_, rfl⟩
  rw [← hX] at ho ⊢
  have HXD := Lib.hid hX
  have hXL : X.length ≤ 80 := by
    rw [hX]
    refine Nat.le_trans (mergeS_len _) ?_
    rw [List.length_append]
    omega
  clear hX
  have HX3 := Lib.hid ho.recs
  have hbl := (Joins.below_alloc1 w1 (.cells #[.slice la a.length ca, .slice lb b.length cb] 22)).trans (hbl.mono (by simp))
  have HA3 := Lib.hid (HSA.out.below hbl)
  have HB3 := Lib.hid (HSB.out.below hbl)
  have HG3 := Lib.hid (HG1.out.below hbl)
  have HW3 := Lib.hid (HW1.out.trans (hbl.mono HW1.out.size))
  clear ho hbl HA1 HB1 HG1 HW1 HSA HSB
  go_upto_region 5 with fail
  go_wp2_with fail
  refine (rmerge_any _ 2 2 [a, b] _ (HLG.out w3 HA3.out HB3.out) (by decide) (by omega)).mono ?_
  rintro e w4 ⟨v4, rfl, ho, hbl⟩
  rw [show List.flatten [a, b] = a ++ b from by simp, ← HXD.out] at ho
  obtain ⟨ya, yc, rfl, _, _, _, hyr⟩ := row_slice ho
  have HY4 := Lib.hid hyr
  have hbl := (Joins.below_alloc1 w3 (.cells #[.slice la a.length ca, .slice lb b.length cb] 22)).trans (hbl.mono (by simp))
  have HA4 := Lib.hid (HA3.out.below hbl)
  have HB4 := Lib.hid (HB3.out.below hbl)
  have HX4 := Lib.hid (HX3.out.below hbl)
  have HG4 := Lib.hid (HG3.out.below hbl)
  have HW4 := Lib.hid (HW3.out.trans (hbl.mono HW3.out.size))
  clear ho hyr hbl HLG HA3 HB3 HX3 HG3 HW3 hsm
  go_upto_region 6 with fail
  have hb9 := Joins.below_alloc1 w4 (.cells #[] 39)
  have HV9 : Hid (World.ownsRow (w4.alloc (.cells #[] 39)) w4.heap.size 39 6 (.slice (some ⟨w4.heap.size, 0, none⟩) 0 0) 0 (flat ScnE [])) := ⟨rfl, Or.inr ⟨w4.heap.size, 0, #[], rfl, Nat.le_refl _, World.alloc_heap_new w4 _, Nat.le_refl _, by decide, rfl, rfl⟩⟩
  have HB9 := Lib.hid hb9
  have HA9 := Lib.hid (HA4.out.below hb9)
  clear hb9
  go_wp2_with (first | (at_builtin; refine wpList_append_scs rfl (.tmp 46) (.tmp 47) rfl rfl rfl HV9.out HA9.out (by omega) HB9.out.size ?_; intro v10 w10 ho10 hg10 _; have HO10 := Lib.hid ho10; have HB10 : Hid (Below w4.heap.size w4 w10) := (HB9.out.grown hg10 HB9.out.size (fun k e => by cases e; exact Nat.le_refl _)); clear ho10 hg10) | (at_builtin; refine wpList_append_scs rfl (.tmp 48) (.tmp 49) rfl rfl rfl HO10.out (HB4.out.below HB10.out) (by omega) HB10.out.size ?_; intro v11 w11 ho11 hg11 _; have HB11 : Hid (Below w4.heap.size w4 w11) := (HB10.out.grown hg11 HB10.out.size (fun k e => (HO10.out.lt k e).1)); rw [Nat.zero_add, List.nil_append] at ho11; obtain ⟨qa, qc, hv11, ho12, hqc⟩ := OwnRecs.of_row2 ho11; subst hv11; have HQ11 := Lib.hid ho12.recs; have HQC := Lib.hid hqc; clear ho11 hg11 ho12 hqc))
  have HX5 := Lib.hid (HX4.out.below HB11.out)
  have HY5 := Lib.hid (HY4.out.below HB11.out)
  have HG5 := Lib.hid (HG4.out.below HB11.out)
  have HW5 := Lib.hid (HW4.out.trans (HB11.out.mono HW4.out.size))
  clear HX4 HY4 HG4 HW4 HB11 HO10 HB10 HV9 HB9 HA9 HA4 HB4
  refine (scn_same xa ya X.length xc X.length yc X X w11 HX5.out HY5.out (by omega) (by omega)).mono ?_
  rintro e w12 ⟨he, hq⟩
  rw [show decide (X = X) = true from decide_eq_true rfl] at he
  subst he
  obtain ⟨Q, hQ⟩ : ∃ Q, Q = a ++ b := ⟨_, rfl⟩
  have hQL : Q.length = a.length + b.length := by rw [hQ, List.length_append]
  have HQW : Hid (∀ s ∈ Q, WfS s) := fun s hs => by
    rw [hQ] at hs
    rcases List.mem_append.mp hs with h | h
    · exact HWA.out s h
    · exact HWB.out s h
  have hb := hq.below
  rw [← hQ] at HQ11
  rw [← hQL] at HQ11 ⊢
  have hQ80 : Q.length ≤ 80 := by omega
  have HQS : Hid (Scs w12 (.slice qa Q.length qc) Q) := ⟨_, _, rfl, HQ11.out.below hb, HQC.out⟩
  have HQR := Lib.hid (HQ11.out.below hb)
  have HG12 := Lib.hid (HG5.out.below hb)
  have HW12 := Lib.hid (HW5.out.trans (hb.mono HW5.out.size))
  have hmq : (mergeS Q).length ≤ 80 := Nat.le_trans (mergeS_len Q) hQ80
  have hBL : (blamesS (goneOf gone) stale Q).length ≤ 1000000 := blamesS_len (Nat.le_trans hmq (by decide))
  have hIL : (insideS Q).length ≤ 80 := Nat.le_trans (insideS_len Q) hQ80
  clear hQ hQL hb hq HQ11 HG5 HW5 HX5 HY5 HQC
  have HC1 := Lib.hid (mblames_any w12 _ Q ga gn gc gone stale HQS.out (by omega) (Nat.le_trans hmq (by decide)) HG12.out (by omega) HQW.out)
  go_wp2_with fail
  refine HC1.out.mono ?_
  rintro e w13 ⟨pa, pc, rfl, ho, hb⟩
  have HP13 := Lib.hid ho.recs
  have HQS13 := Lib.hid (HQS.out.below hb)
  have HQR13 := Lib.hid (HQR.out.below hb)
  have HG13 := Lib.hid (HG12.out.below hb)
  have HW13 := Lib.hid (HW12.out.trans (hb.mono HW12.out.size))
  clear ho hb HQS HQR HG12 HW12 HC1
  have HC2 := Lib.hid (rblames_any w13 qa Q.length qc Q ga gn gc gone stale HQR13.out (by omega) (Nat.le_trans hmq (by decide)) HG13.out (by omega))
  go_wp2_with fail
  refine HC2.out.mono ?_
  rintro e w14 ⟨v14, rfl, ho, hb⟩
  obtain ⟨ra, rc, rfl, _, _, _, hrr⟩ := row_slice ho
  have HR14 := Lib.hid hrr
  have HP14 := Lib.hid (HP13.out.below hb)
  have HQS14 := Lib.hid (HQS13.out.below hb)
  have HQR14 := Lib.hid (HQR13.out.below hb)
  have HW14 := Lib.hid (HW13.out.trans (hb.mono HW13.out.size))
  clear ho hrr hb HQS13 HQR13 HG13 HW13 HP13 HC2
  generalize blamesS (goneOf gone) stale Q = B at *
  go_wp2_with fail
  refine (blm_same pa ra B.length pc B.length rc B B w14 HP14.out HR14.out (by omega) (by omega)).mono ?_
  rintro e w15 ⟨he, hq⟩
  rw [show decide (B = B) = true from decide_eq_true rfl] at he
  subst he
  have hb := hq.below
  have HQS15 := Lib.hid (HQS14.out.below hb)
  have HQR15 := Lib.hid (HQR14.out.below hb)
  have HW15 := Lib.hid (HW14.out.trans (hb.mono HW14.out.size))
  clear hb hq HQS14 HQR14 HW14 HP14 HR14
  have HC3 := Lib.hid (inside_any w15 _ Q HQS15.out (by omega) (Nat.le_trans hmq (by decide)) HQW.out)
  go_wp2_with fail
  refine HC3.out.mono ?_
  rintro e w16 ⟨u16, rfl, hio, hb⟩
  obtain ⟨ia, ic, rfl, hI⟩ := Ints.of_own hio
  have HI16 := Lib.hid hI
  have HQR16 := Lib.hid (HQR15.out.below hb)
  have HW16 := Lib.hid (HW15.out.trans (hb.mono HW15.out.size))
  clear hb hio hI HQS15 HQR15 HW15 HC3
  have HC4 := Lib.hid (rinside_any w16 qa Q.length qc Q HQR16.out (by omega))
  go_wp2_with fail
  refine HC4.out.mono ?_
  rintro e w17 ⟨v17, rfl, hio, hb⟩
  obtain ⟨ja, jc, rfl, hJ⟩ := Ints.of_own hio
  have HI17 := Lib.hid (HI16.out.below hb)
  have HJ17 := Lib.hid hJ
  have HW17 := Lib.hid (HW16.out.trans (hb.mono HW16.out.size))
  clear hb hio hJ HI16 HQR16 HW16 HC4
  generalize insideS Q = I at *
  go_wp2_with fail
  refine (ints_any ia ja I.length ic I.length jc I I w17 HI17.out HJ17.out (by omega) (by omega)).mono ?_
  rintro e w18 ⟨he, hq⟩
  rw [show decide (I = I) = true from decide_eq_true rfl] at he
  subst he
  have HW18 := Lib.hid (HW17.out.trans (hq.below.mono HW17.out.size))
  clear hq
  go_wp2_with fail
  go_ret
  exact ⟨rfl, HW18.out⟩
end Go.Proofs.Ytpmoelkblngamaa
