/- merge: MergeSets: the walk. -/
import Derived.Test.YtpmoelkblngamaaD6
import Derived.Test.YtpmoelkblngamaaMB
namespace Go.Proofs.Ytpmoelkblngamaa
open Go.RowKit Go.IntWalk Go.Maps Go.WideMaps

theorem set_two {a b X : List Scn} (hX : X = mergeS (a ++ b)) : mergeS (List.flatten [b, X, [], a]) = X := by
  rw [hX]
  refine setK_congr KS fun s => ?_
  have h := setK_mem KS (a ++ b) s
  have h : s ∈ mergeS (a ++ b) ↔ s ∈ a ++ b := h
  simp only [List.flatten_cons, List.flatten_nil, List.mem_append, List.not_mem_nil, or_false, h]
  constructor
  · rintro (h | (h | h) | h | h) <;> simp_all
  · rintro (h | h) <;> simp_all
theorem set_one {a b X : List Scn} (hX : X = mergeS (a ++ b)) : mergeS (List.flatten [X]) = X := by
  rw [show List.flatten [X] = X from by simp, hX]
  exact set_again _

set_option maxRecDepth 100000 in
set_option maxHeartbeats 6400000 in
theorem sets_law (w : World) (la : Option Addr) (na ca : Nat) (a : List Scn) (lb : Option Addr) (nb cb : Nat) (b : List Scn) (ga : Option Addr) (gn gc : Nat) (gone : List GoR) (stale : Int) (ha : Recs ScnE w la na a) (hna : na ≤ 9223372036854775807) (hca : la = none → ca = 0) (hoa : ∀ s ∈ a, s.owner.length ≤ 9223372036854775807) (hwa : ∀ s ∈ a, WfS s)
    (hb : Recs ScnE w lb nb b) (hnb : nb ≤ 9223372036854775807) (hcb : lb = none → cb = 0) (hob : ∀ s ∈ b, s.owner.length ≤ 9223372036854775807) (hwb : ∀ s ∈ b, WfS s) (hg : Recs GoE w ga gn gone) (hgn : gn ≤ 9223372036854775807) (_ : ∀ g ∈ gone, (Lit.int .i64 g.gone).wf = true) (_ : (Lit.int .i64 stale).wf = true) :
    Calls Try.prog 4 #[.slice la na ca, .slice lb nb cb, .slice ga gn gc, .int .i64 stale] w fun e w' => e = .returned (.bool true) ∧ Below w.heap.size w w' := by
  obtain rfl : a.length = na := ha.1
  obtain rfl : b.length = nb := hb.1
  have HA := Lib.hid ha
  have HB := Lib.hid hb
  have HG := Lib.hid hg
  have HCA := Lib.hid hca
  have HCB := Lib.hid hcb
  have HOA := Lib.hid hoa
  have HOB := Lib.hid hob
  have HWA := Lib.hid hwa
  have HWB := Lib.hid hwb
  clear ha hb hg hca hcb hoa hob hwa hwb
  go_enter Try.func4, Try.ntmps4
  go_wp2_with fail
  refine (head_any w).mono ?_
  rintro e w1 ⟨rfl, hbl⟩
  have HA1 := Lib.hid (HA.out.below hbl)
  have HB1 := Lib.hid (HB.out.below hbl)
  have HG1 := Lib.hid (HG.out.below hbl)
  have HW1 := Lib.hid hbl
  clear hbl HA HB HG
  go_wp2_with fail
  refine (few_any la a.length ca a 40 w1 HA1.out hna HOA.out).mono ?_
  rintro e w2 ⟨rfl, rfl⟩
  cases hf : fewB a 40
  · go_wp2_with fail
    go_ret
    exact ⟨rfl, HW1.out⟩
  go_wp2_with fail
  refine (few_any lb b.length cb b 40 w1 HB1.out hnb HOB.out).mono ?_
  rintro e w2 ⟨rfl, rfl⟩
  cases hfb : fewB b 40
  · go_wp2_with fail
    go_ret
    exact ⟨rfl, HW1.out⟩
  by_cases hg40 : gn ≤ 40
  rotate_left
  · go_wp2_with fail
    go_ret
    exact ⟨rfl, HW1.out⟩
  have hna40 : a.length ≤ 40 := by have h1 := (fewB_iff.mp hf).2; omega
  have hnb40 : b.length ≤ 40 := by have h1 := (fewB_iff.mp hfb).2; omega
  clear HOA HOB hf hfb
  have HSA : Hid (Scs w1 (.slice la a.length ca) a) := ⟨la, ca, rfl, HA1.out, HCA.out⟩
  have HSB : Hid (Scs w1 (.slice lb b.length cb) b) := ⟨lb, cb, rfl, HB1.out, HCB.out⟩
  have HLG : Hid (LogsAt (w1.alloc (.cells #[.slice la a.length ca, .slice lb b.length cb] 22)) (some ⟨w1.heap.size, 0, none⟩) 2 [a, b]) := by
    have hA := Joins.below_alloc1 w1 (.cells #[.slice la a.length ca, .slice lb b.length cb] 22)
    have hN := World.alloc_heap_new w1 (.cells #[.slice la a.length ca, .slice lb b.length cb] 22)
    refine ⟨rfl, fun i hi => ?_⟩
    match i, hi with
    | 0, _ => exact ⟨_, 0, _, rfl, cell_of_row (j := 0) _ _ _ _ _ hN, HSA.out.below hA⟩
    | 1, _ => exact ⟨_, 0, _, rfl, cell_of_row (j := 1) _ _ _ _ _ hN, HSB.out.below hA⟩
  go_upto_region 4 with fail
  go_wp2_with fail
  refine (merge_any _ 2 2 [a, b] _ HLG.out (by decide) (by show (List.flatten [a, b]).length ≤ _; simp only [List.flatten_cons, List.flatten_nil, List.length_append, List.length_nil]; omega)).mono ?_
  rintro e w3 ⟨xa, xc, rfl, ho, ⟨hlc, hcap⟩, hbl⟩
  rw [show List.flatten [a, b] = a ++ b from by simp] at ho hcap ⊢
  obtain ⟨X, hX⟩ : ∃ X, X = mergeS (a ++ b) := ⟨_, rfl⟩
  rw [← hX] at ho hcap ⊢
  have HXD := Lib.hid hX
  have hXL : X.length ≤ 80 := by
    rw [hX]
    refine Nat.le_trans (mergeS_len _) ?_
    rw [List.length_append]
    omega
  have HXW : Hid (∀ s ∈ X, WfS s) := fun s hs => by
    rw [hX] at hs
    rcases List.mem_append.mp ((setK_mem KS _ s).mp hs) with h | h
    · exact HWA.out s h
    · exact HWB.out s h
  clear hX hcap
  have HX3 : Hid (Scs w3 (.slice xa X.length xc) X) := Scs.of_own ho hlc
  have hbl := (Joins.below_alloc1 w1 (.cells #[.slice la a.length ca, .slice lb b.length cb] 22)).trans (hbl.mono (by simp))
  have HA3 := Lib.hid (HSA.out.below hbl)
  have HB3 := Lib.hid (HSB.out.below hbl)
  have HG3 := Lib.hid (HG1.out.below hbl)
  have HW3 := Lib.hid (HW1.out.trans (hbl.mono HW1.out.size))
  clear ho hlc hbl HLG HA1 HB1 HG1 HW1 HSA HSB
  have HLG : Hid (LogsAt (w3.alloc (.cells #[.slice lb b.length cb, .slice xa X.length xc, .slice none 0 0, .slice la a.length ca] 22)) (some ⟨w3.heap.size, 0, none⟩) 4 [b, X, [], a]) := by
    have hA := Joins.below_alloc1 w3 (.cells #[.slice lb b.length cb, .slice xa X.length xc, .slice none 0 0, .slice la a.length ca] 22)
    have hN := World.alloc_heap_new w3 (.cells #[.slice lb b.length cb, .slice xa X.length xc, .slice none 0 0, .slice la a.length ca] 22)
    refine ⟨rfl, fun i hi => ?_⟩
    match i, hi with
    | 0, _ => exact ⟨_, 0, _, rfl, cell_of_row (j := 0) _ _ _ _ _ hN, HB3.out.below hA⟩
    | 1, _ => exact ⟨_, 0, _, rfl, cell_of_row (j := 1) _ _ _ _ _ hN, HX3.out.below hA⟩
    | 2, _ => exact ⟨_, 0, _, rfl, cell_of_row (j := 2) _ _ _ _ _ hN, Scs.nil _⟩
    | 3, _ => exact ⟨_, 0, _, rfl, cell_of_row (j := 3) _ _ _ _ _ hN, HA3.out.below hA⟩
  go_upto_region 5 with fail
  go_wp2_with fail
  refine (merge_any _ 4 4 [b, X, [], a] _ HLG.out (by decide) (by show (List.flatten [b, X, [], a]).length ≤ _; simp only [List.flatten_cons, List.flatten_nil, List.length_append, List.length_nil]; omega)).mono ?_
  rintro e w4 ⟨ya, yc, rfl, ho, _, hbl⟩
  rw [set_two HXD.out] at ho ⊢
  have HY4 := Lib.hid ho.recs
  have hbl := (Joins.below_alloc1 w3 (.cells #[.slice lb b.length cb, .slice xa X.length xc, .slice none 0 0, .slice la a.length ca] 22)).trans (hbl.mono (by simp))
  have HA4 := Lib.hid (HA3.out.below hbl)
  have HB4 := Lib.hid (HB3.out.below hbl)
  have HX4 := Lib.hid (HX3.out.below hbl)
  have HG4 := Lib.hid (HG3.out.below hbl)
  have HW4 := Lib.hid (HW3.out.trans (hbl.mono HW3.out.size))
  clear ho hbl HLG HA3 HB3 HX3 HG3 HW3
  go_upto_region 6 with fail
  go_wp2_with fail
  have HXR4 : Hid (Recs ScnE w4 xa X.length X) := by
    obtain ⟨_, _, e, h, _⟩ := HX4.out
    cases e
    exact h
  refine (scn_same xa ya X.length xc X.length yc X X w4 HXR4.out HY4.out (by omega) (by omega)).mono ?_
  rintro e w5 ⟨he, hq⟩
  rw [show decide (X = X) = true from decide_eq_true rfl] at he
  subst he
  have hbl := hq.below
  have HA5 := Lib.hid (HA4.out.below hbl)
  have HB5 := Lib.hid (HB4.out.below hbl)
  have HX5 := Lib.hid (HX4.out.below hbl)
  have HG5 := Lib.hid (HG4.out.below hbl)
  have HW5 := Lib.hid (HW4.out.trans (hbl.mono HW4.out.size))
  clear hq hbl HA4 HB4 HX4 HG4 HW4 HXR4 HY4
  have HLG : Hid (LogsAt (w5.alloc (.cells #[.slice xa X.length xc] 22)) (some ⟨w5.heap.size, 0, none⟩) 1 [X]) := by
    have hA := Joins.below_alloc1 w5 (.cells #[.slice xa X.length xc] 22)
    have hN := World.alloc_heap_new w5 (.cells #[.slice xa X.length xc] 22)
    refine ⟨rfl, fun i hi => ?_⟩
    match i, hi with
    | 0, _ => exact ⟨_, 0, _, rfl, cell_of_row (j := 0) _ _ _ _ _ hN, HX5.out.below hA⟩
  go_wp2_with fail
  refine (merge_any _ 1 1 [X] _ HLG.out (by decide) (by show (List.flatten [X]).length ≤ _; simp only [List.flatten_cons, List.flatten_nil, List.length_append, List.length_nil]; omega)).mono ?_
  rintro e w6 ⟨za, zc, rfl, ho, _, hbl⟩
  rw [set_one HXD.out] at ho ⊢
  have HZ6 := Lib.hid ho.recs
  have hbl := (Joins.below_alloc1 w5 (.cells #[.slice xa X.length xc] 22)).trans (hbl.mono (by simp))
  have HA6 := Lib.hid (HA5.out.below hbl)
  have HB6 := Lib.hid (HB5.out.below hbl)
  have HX6 := Lib.hid (HX5.out.below hbl)
  have HG6 := Lib.hid (HG5.out.below hbl)
  have HW6 := Lib.hid (HW5.out.trans (hbl.mono HW5.out.size))
  clear ho hbl HLG HA5 HB5 HX5 HG5 HW5
  have HXR6 : Hid (Recs ScnE w6 xa X.length X) := by
    obtain ⟨_, _, e, h, _⟩ := HX6.out
    cases e
    exact h
  go_wp2_with fail
  refine (scn_same za xa X.length zc X.length xc X X w6 HZ6.out HXR6.out (by omega) (by omega)).mono ?_
  rintro e w7 ⟨he, hq⟩
  rw [show decide (X = X) = true from decide_eq_true rfl] at he
  subst he
  have hbl := hq.below
  have HA7 := Lib.hid (HA6.out.below hbl)
  have HB7 := Lib.hid (HB6.out.below hbl)
  have HX7 := Lib.hid (HX6.out.below hbl)
  have HXR7 := Lib.hid (HXR6.out.below hbl)
  have HG7 := Lib.hid (HG6.out.below hbl)
  have HW7 := Lib.hid (HW6.out.trans (hbl.mono HW6.out.size))
  clear hq hbl HA6 HB6 HX6 HXR6 HG6 HW6 HZ6
  have HSTR : Hid (Strict KS X) := by
    show Strict KS X
    rw [HXD.out]
    exact setK_strict KS _
  go_wp2_with fail
  go_loopw [12] (fun v12 wr => ∃ j : Nat, v12 = .int .i64 ((j : Int) + 1) ∧ j ≤ X.length ∧ Hid (Below w7.heap.size w7 wr)) (fun v12 _ => X.length + 1 - (intOf v12).toNat)
  case atStart => exact ⟨0, rfl, Nat.zero_le _, Below.refl _ _⟩
  case round =>
    obtain ⟨j, rfl, hj, HBr⟩ := hrel
    by_cases hlt : j + 1 < X.length
    · obtain ⟨b1, o1, rfl, c0, c1, c2, c3, c4, c5⟩ := scn_at (HXR7.out.below HBr.out) j (by omega) (by omega)
      obtain ⟨b1', o1', e', d0, d1, d2, d3, d4, d5⟩ := scn_at (HXR7.out.below HBr.out) (j + 1) hlt hlt
      cases e'
      have HK : Hid (KLt KS X[j] X[j + 1]) := List.pairwise_iff_getElem.mp HSTR.out j (j + 1) (by omega) hlt (by omega)
      generalize X[j] = y at *
      generalize X[j + 1] = z at *
      have HKK : Hid (∀ w' : World, Below wr.heap.size wr w' → w'.cell? ⟨b1, o1 + j * 6, none⟩ = some (.int .i64 y.gate) ∧ w'.cell? ⟨b1, o1 + j * 6 + 1, none⟩ = some (.int .i64 y.number) ∧ w'.cell? ⟨b1, o1 + j * 6 + 2, none⟩ = some (.int .i64 y.time) ∧ w'.cell? ⟨b1, o1 + j * 6 + 3, none⟩ = some (.int .i64 y.serial) ∧ w'.cell? ⟨b1, o1 + j * 6 + 4, none⟩ = some (.int .i64 y.kind) ∧ w'.cell? ⟨b1, o1 + j * 6 + 5, none⟩ = some (.string (bs y.owner)) ∧ w'.cell? ⟨b1, o1 + (j + 1) * 6, none⟩ = some (.int .i64 z.gate) ∧ w'.cell? ⟨b1, o1 + (j + 1) * 6 + 1, none⟩ = some (.int .i64 z.number) ∧ w'.cell? ⟨b1, o1 + (j + 1) * 6 + 2, none⟩ = some (.int .i64 z.time) ∧ w'.cell? ⟨b1, o1 + (j + 1) * 6 + 3, none⟩ = some (.int .i64 z.serial) ∧ w'.cell? ⟨b1, o1 + (j + 1) * 6 + 4, none⟩ = some (.int .i64 z.kind) ∧ w'.cell? ⟨b1, o1 + (j + 1) * 6 + 5, none⟩ = some (.string (bs z.owner))) := fun w' hb =>
        ⟨Below.cell_of hb c0, Below.cell_of hb c1, Below.cell_of hb c2, Below.cell_of hb c3, Below.cell_of hb c4, Below.cell_of hb c5, Below.cell_of hb d0, Below.cell_of hb d1, Below.cell_of hb d2, Below.cell_of hb d3, Below.cell_of hb d4, Below.cell_of hb d5⟩
      clear c0 c1 c2 c3 c4 c5 d0 d1 d2 d3 d4 d5
      have HLS := Lib.hid (less_any y z wr.drew)
      rw [show decide (KLt KS y z) = true from decide_eq_true HK.out] at HLS
      clear HK
      have hj0 : (0 : Int) ≤ (j : Int) + 1 := by omega
      have hjl : j < X.length := by omega
      go_upto_region 11 with fail
      refine wp_region_held_drew (S := fun w' => w'.cell? ⟨b1, o1 + j * 6, none⟩ = some (.int .i64 y.gate) ∧ w'.cell? ⟨b1, o1 + j * 6 + 1, none⟩ = some (.int .i64 y.number) ∧ w'.cell? ⟨b1, o1 + j * 6 + 2, none⟩ = some (.int .i64 y.time) ∧ w'.cell? ⟨b1, o1 + j * 6 + 3, none⟩ = some (.int .i64 y.serial) ∧ w'.cell? ⟨b1, o1 + j * 6 + 4, none⟩ = some (.int .i64 y.kind) ∧ w'.cell? ⟨b1, o1 + j * 6 + 5, none⟩ = some (.string (bs y.owner)) ∧ w'.cell? ⟨b1, o1 + (j + 1) * 6, none⟩ = some (.int .i64 z.gate) ∧ w'.cell? ⟨b1, o1 + (j + 1) * 6 + 1, none⟩ = some (.int .i64 z.number) ∧ w'.cell? ⟨b1, o1 + (j + 1) * 6 + 2, none⟩ = some (.int .i64 z.time) ∧ w'.cell? ⟨b1, o1 + (j + 1) * 6 + 3, none⟩ = some (.int .i64 z.serial) ∧ w'.cell? ⟨b1, o1 + (j + 1) * 6 + 4, none⟩ = some (.int .i64 z.kind) ∧ w'.cell? ⟨b1, o1 + (j + 1) * 6 + 5, none⟩ = some (.string (bs z.owner))) (by kernel_rfl) (HKK.out wr (Below.refl _ _)) (fun hHeld => ?_)
      refine take_at (i := 0) (v := ?_) 60 rfl rfl (by kernel_rfl) (by kernel_rfl) (by kernel_rfl) (fun _ _ _ h => h) (Or.inl ⟨by rfl, ?_⟩) (by assumption) ?_
      rotate_left
      · intro w hSw; go_simp <;> with_reducible rfl
      try simp only [Act.put, List.setIfInBounds_toArray, List.set_cons_zero, List.set_cons_succ]
      refine take_at (i := 1) (v := ?_) 61 rfl rfl (by kernel_rfl) (by kernel_rfl) (by kernel_rfl) (fun _ _ _ h => h) (Or.inl ⟨by rfl, ?_⟩) (by assumption) ?_
      rotate_left
      · intro w hSw; go_simp <;> with_reducible rfl
      try simp only [Act.put, List.setIfInBounds_toArray, List.set_cons_zero, List.set_cons_succ]
      refine take_at (i := 2) (v := .int .i64 (j : Int)) 62 rfl rfl (by kernel_rfl) (by kernel_rfl) (by kernel_rfl) (fun _ _ _ h => h) (Or.inl ⟨by rfl, ?_⟩) (by assumption) ?_
      · intro w' hSw
        go_simp
        exact i64_in _ (by omega)
      try simp only [Act.put, List.setIfInBounds_toArray, List.set_cons_zero, List.set_cons_succ]
      refine take_at (i := 3) (v := ?_) 63 rfl rfl (by kernel_rfl) (by kernel_rfl) (by kernel_rfl) (fun _ _ _ h => h) (Or.inl ⟨by rfl, ?_⟩) (by assumption) ?_
      rotate_left
      · intro w hSw; go_simp <;> with_reducible rfl
      try simp only [Act.put, List.setIfInBounds_toArray, List.set_cons_zero, List.set_cons_succ]
      refine take_at (i := 4) (v := ?_) 64 rfl rfl (by kernel_rfl) (by kernel_rfl) (by kernel_rfl) (fun _ _ _ h => h) (Or.inl ⟨by rfl, ?_⟩) (by assumption) ?_
      rotate_left
      · intro w hSw; go_simp <;> with_reducible rfl
      try simp only [Act.put, List.setIfInBounds_toArray, List.set_cons_zero, List.set_cons_succ]
      refine take_at (i := 5) (v := ?_) 65 rfl rfl (by kernel_rfl) (by kernel_rfl) (by kernel_rfl) (fun _ _ _ h => h) (Or.inl ⟨by rfl, ?_⟩) (by assumption) ?_
      rotate_left
      · intro w hSw; go_simp <;> with_reducible rfl
      try simp only [Act.put, List.setIfInBounds_toArray, List.set_cons_zero, List.set_cons_succ]
      refine take_at (i := 6) (v := ?_) 66 rfl rfl (by kernel_rfl) (by kernel_rfl) (by kernel_rfl) (fun _ _ _ h => h) (Or.inl ⟨by rfl, ?_⟩) (by assumption) ?_
      rotate_left
      · intro w hSw; go_simp <;> with_reducible rfl
      try simp only [Act.put, List.setIfInBounds_toArray, List.set_cons_zero, List.set_cons_succ]
      refine take_at (i := 7) (v := ?_) 67 rfl rfl (by kernel_rfl) (by kernel_rfl) (by kernel_rfl) (fun _ _ _ h => h) (Or.inl ⟨by rfl, ?_⟩) (by assumption) ?_
      rotate_left
      · intro w hSw; go_simp <;> with_reducible rfl
      try simp only [Act.put, List.setIfInBounds_toArray, List.set_cons_zero, List.set_cons_succ]
      refine take_at (i := 8) (v := ?_) 68 rfl rfl (by kernel_rfl) (by kernel_rfl) (by kernel_rfl) (fun _ _ _ h => h) (Or.inl ⟨by rfl, ?_⟩) (by assumption) ?_
      rotate_left
      · intro w hSw; go_simp <;> with_reducible rfl
      try simp only [Act.put, List.setIfInBounds_toArray, List.set_cons_zero, List.set_cons_succ]
      refine wpAnyH_ready (rs := [9]) (by kernel_rfl) (by simp) ?_
      refine AllReadyH.cons rfl (fun K' hK => ?_) AllReadyH.nil
      go_simp
      refine HLS.out.mono ?_
      rintro e w8 ⟨rfl, hb8⟩
      have hb9 : Below wr.heap.size wr w8 := (Below.refl _ wr).drew.trans hb8
      go_simp
      refine hK.out _ _ (HKK.out _ hb9) (fun hHeld => ?_)
      clear hK K'
      try simp only [Act.put, List.setIfInBounds_toArray, List.set_cons_zero, List.set_cons_succ]
      refine take_at (i := 10) (v := ?_) 70 rfl rfl (by kernel_rfl) (by kernel_rfl) (by kernel_rfl) (fun _ _ _ h => h) (Or.inl ⟨by rfl, ?_⟩) (by assumption) ?_
      rotate_left
      · intro w hSw; go_simp <;> with_reducible rfl
      try simp only [Act.put, List.setIfInBounds_toArray, List.set_cons_zero, List.set_cons_succ]
      refine wpAnyH_done (by kernel_rfl) ?_ _
      have HB8 := Lib.hid (HBr.out.trans (hb9.mono HBr.out.size))
      clear hb8 hb9 hHeld HKK HLS
      go_wp2_with fail
      go_roundw
      case rel => exact ⟨j + 1, by go_num, by omega, HB8.out⟩
      case measure => simp [intOf]; omega
    · have HA8 := Lib.hid (HA7.out.below HBr.out)
      have HB8 := Lib.hid (HB7.out.below HBr.out)
      have HX8 := Lib.hid (HX7.out.below HBr.out)
      have HXR8 := Lib.hid (HXR7.out.below HBr.out)
      have HG8 := Lib.hid (HG7.out.below HBr.out)
      have HW8 := Lib.hid (HW7.out.trans (HBr.out.mono HW7.out.size))
      clear HA7 HB7 HX7 HXR7 HG7 HW7 HBr
      go_upto_region 13 with fail
      have hb9 := Joins.below_alloc1 wr (.cells #[] 39)
      have HV9 : Hid (World.ownsRow (wr.alloc (.cells #[] 39)) wr.heap.size 39 6 (.slice (some ⟨wr.heap.size, 0, none⟩) 0 0) 0 (flat ScnE [])) := ⟨rfl, Or.inr ⟨wr.heap.size, 0, #[], rfl, Nat.le_refl _, World.alloc_heap_new wr _, Nat.le_refl _, by decide, rfl, rfl⟩⟩
      have HB9 := Lib.hid hb9
      have HA9 := Lib.hid (HA8.out.below hb9)
      clear hb9
      go_wp2_with (first | (at_builtin; refine wpList_append_scs rfl (.tmp 71) (.tmp 72) rfl rfl rfl HV9.out HA9.out (by omega) HB9.out.size ?_; intro v10 w10 ho10 hg10 _; have HO10 := Lib.hid ho10; have HB10 : Hid (Below wr.heap.size wr w10) := (HB9.out.grown hg10 HB9.out.size (fun k e => by cases e; exact Nat.le_refl _)); clear ho10 hg10) | (at_builtin; refine wpList_append_scs rfl (.tmp 73) (.tmp 74) rfl rfl rfl HO10.out (HB8.out.below HB10.out) (by omega) HB10.out.size ?_; intro v11 w11 ho11 hg11 _; have HB11 : Hid (Below wr.heap.size wr w11) := (HB10.out.grown hg11 HB10.out.size (fun k e => (HO10.out.lt k e).1)); rw [Nat.zero_add, List.nil_append] at ho11; obtain ⟨qa, qc, hv11, ho12, hqc⟩ := OwnRecs.of_row2 ho11; subst hv11; have HQ11 := Lib.hid ho12.recs; clear ho11 hg11 ho12))
      obtain ⟨Q, hQ⟩ : ∃ Q, Q = a ++ b := ⟨_, rfl⟩
      have hQL : Q.length = a.length + b.length := by rw [hQ, List.length_append]
      have HQX : Hid (∀ s, s ∈ Q ↔ s ∈ X) := fun s => by
        rw [hQ, HXD.out]
        exact (setK_mem KS _ s).symm
      have HQW : Hid (∀ s ∈ Q, WfS s) := fun s hs => HXW.out s ((HQX.out s).mp hs)
      rw [← hQ] at HQ11
      rw [← hQL] at HQ11 ⊢
      have hQ80 : Q.length ≤ 80 := by omega
      clear hQ hQL HO10 HB10 HV9 HB9 HA9 HA8 HB8
      have HX9 := Lib.hid (HX8.out.below HB11.out)
      have HXR9 := Lib.hid (HXR8.out.below HB11.out)
      have HG9 := Lib.hid (HG8.out.below HB11.out)
      have HW9 := Lib.hid (HW8.out.trans (HB11.out.mono HW8.out.size))
      clear HX8 HXR8 HG8 HW8 HB11 HSTR
      go_loopw [14] (fun v14 wx => ∃ i : Nat, v14 = .int .i64 i ∧ i ≤ Q.length ∧ Hid (Below w11.heap.size w11 wx)) (fun v14 _ => Q.length - (intOf v14).toNat)
      case atStart => exact ⟨0, rfl, Nat.zero_le _, Below.refl _ _⟩
      case round =>
        obtain ⟨i, rfl, hi, HBr⟩ := hrel
        by_cases hlt2 : i < Q.length
        · obtain ⟨b1, o1, rfl, c0, c1, c2, c3, c4, c5⟩ := scn_at (HQ11.out.below HBr.out) i hlt2 hlt2
          have HIN : Hid (Q[i] ∈ X) := (HQX.out _).mp (List.getElem_mem hlt2)
          generalize Q[i] = y at *
          have HH := Lib.hid (has_any xa X.length xc X y wr (HXR9.out.below HBr.out) (by omega))
          rw [show decide (y ∈ X) = true from decide_eq_true HIN.out] at HH
          clear HIN
          go_wp2_with fail
          refine HH.out.mono ?_
          rintro e w12 ⟨rfl, hb12⟩
          have HB12 := Lib.hid (HBr.out.trans (hb12.mono HBr.out.size))
          clear hb12 HH
          go_wp2_with fail
          go_roundw
          case rel => exact ⟨i + 1, by go_num, hlt2, HB12.out⟩
          case measure => simp [intOf]; omega
        · have HX10 := Lib.hid (HX9.out.below HBr.out)
          have HXR10 := Lib.hid (HXR9.out.below HBr.out)
          have HG10 := Lib.hid (HG9.out.below HBr.out)
          have HQ10 := Lib.hid (HQ11.out.below HBr.out)
          have HW10 := Lib.hid (HW9.out.trans (HBr.out.mono HW9.out.size))
          clear HX9 HXR9 HG9 HQ11 HW9 HBr
          go_wp2_with fail
          go_loopw [15] (fun v15 wx => ∃ i : Nat, v15 = .int .i64 i ∧ i ≤ X.length ∧ Hid (Below wr.heap.size wr wx)) (fun v15 _ => X.length - (intOf v15).toNat)
          case atStart => exact ⟨0, rfl, Nat.zero_le _, Below.refl _ _⟩
          case round =>
            obtain ⟨k, rfl, hk, HBr⟩ := hrel
            by_cases hlt3 : k < X.length
            · obtain ⟨b1, o1, rfl, c0, c1, c2, c3, c4, c5⟩ := scn_at (HXR10.out.below HBr.out) k hlt3 hlt3
              have HIN : Hid (X[k] ∈ Q) := (HQX.out _).mpr (List.getElem_mem hlt3)
              generalize X[k] = y at *
              have HH := Lib.hid (has_any qa Q.length qc Q y wr (HQ10.out.below HBr.out) (by omega))
              rw [show decide (y ∈ Q) = true from decide_eq_true HIN.out] at HH
              clear HIN
              go_wp2_with fail
              refine HH.out.mono ?_
              rintro e w12 ⟨rfl, hb12⟩
              have HB12 := Lib.hid (HBr.out.trans (hb12.mono HBr.out.size))
              clear hb12 HH
              go_wp2_with fail
              go_roundw
              case rel => exact ⟨k + 1, by go_num, hlt3, HB12.out⟩
              case measure => simp [intOf]; omega
            · have HX13 := Lib.hid (HX10.out.below HBr.out)
              have HG13 := Lib.hid (HG10.out.below HBr.out)
              have HQ13 := Lib.hid (HQ10.out.below HBr.out)
              have HW13 := Lib.hid (HW10.out.trans (HBr.out.mono HW10.out.size))
              clear HX10 HXR10 HG10 HQ10 HW10 HBr
              generalize wr = w13 at *
              go_wp2_with fail
              go_loopw [16, 17] (fun v16 v17 wx => ∃ (j : Nat) (Lb : List Scn), v17 = .int .i64 ((j : Int) - 1) ∧ j ≤ Q.length ∧ Hid (Lb.length = 2 * (Q.length - j)) ∧ Hid (∀ s, s ∈ Lb ↔ s ∈ Q.drop j) ∧ Hid (wx.ownsRow w13.heap.size 39 6 v16 Lb.length (flat ScnE Lb)) ∧ Hid (Below w13.heap.size w13 wx)) (fun _ v17 _ => (intOf v17 + 1).toNat)
              case atStart => exact ⟨Q.length, [], rfl, Nat.le_refl _, (by show _ = _; simp), (fun s => by rw [List.drop_length]), ⟨rfl, Or.inl ⟨rfl, rfl⟩⟩, Below.refl _ _⟩
              case round =>
                obtain ⟨j, Lb, h17, hj, HLL, HLM, HLO, HBr⟩ := hrel
                by_cases hj0 : j = 0
                · subst hj0
                  subst h17
                  obtain ⟨ra, rc, rfl, ho, hrc⟩ := OwnRecs.of_row2 HLO.out
                  have HS14 : Hid (Scs _ (.slice ra Lb.length rc) Lb) := Scs.of_own ho hrc
                  have HX14 := Lib.hid (HX13.out.below HBr.out)
                  have HG14 := Lib.hid (HG13.out.below HBr.out)
                  have HW14 := Lib.hid (HW13.out.trans (HBr.out.mono HW13.out.size))
                  have HME : Hid (∀ s, s ∈ Lb ↔ s ∈ X) := fun s => by
                    rw [HLM.out s, List.drop_zero]
                    exact HQX.out s
                  have hLb : Lb.length ≤ 160 := by have := HLL.out; omega
                  have HLW : Hid (∀ s ∈ Lb, WfS s) := fun s hs => HXW.out s ((HME.out s).mp hs)
                  have HMX : Hid ((mergeS X).length ≤ 80) := Nat.le_trans (mergeS_len X) hXL
                  have HML : Hid (mergeS Lb = mergeS X) := setK_congr KS HME.out
                  have HBE := Lib.hid (blames_congr (gone := goneOf gone) (stale := stale) HME.out)
                  have HIE := Lib.hid (inside_congr HME.out)
                  have hBL : (blamesS (goneOf gone) stale X).length ≤ 1000000 := blamesS_len (Nat.le_trans HMX.out (by decide))
                  have hIL : (insideS X).length ≤ 80 := Nat.le_trans (insideS_len X) hXL
                  clear HX13 HG13 HW13 HBr HLO ho hrc
                  go_wp2_with fail
                  refine (mblames_any _ _ Lb ga gn gc gone stale HS14.out (by omega) (by rw [HML.out]; exact Nat.le_trans HMX.out (by decide)) HG14.out (by omega) HLW.out).mono ?_
                  rintro e w15 ⟨pa, pc, rfl, ho, hb⟩
                  rw [HBE.out] at ho ⊢
                  have HP15 := Lib.hid ho.recs
                  have HS15 := Lib.hid (HS14.out.below hb)
                  have HX15 := Lib.hid (HX14.out.below hb)
                  have HG15 := Lib.hid (HG14.out.below hb)
                  have HW15 := Lib.hid (HW14.out.trans (hb.mono HW14.out.size))
                  clear ho hb HS14 HX14 HG14 HW14
                  have HC := Lib.hid (mblames_any w15 _ X ga gn gc gone stale HX15.out (by omega) (Nat.le_trans HMX.out (by decide)) HG15.out (by omega) HXW.out)
                  generalize blamesS (goneOf gone) stale X = B at *
                  go_wp2_with fail
                  refine HC.out.mono ?_
                  rintro e w16 ⟨pb, pd, rfl, ho, hb⟩
                  have HP16 := Lib.hid (HP15.out.below hb)
                  have HR16 := Lib.hid ho.recs
                  have HS16 := Lib.hid (HS15.out.below hb)
                  have HX16 := Lib.hid (HX15.out.below hb)
                  have HW16 := Lib.hid (HW15.out.trans (hb.mono HW15.out.size))
                  clear ho hb HS15 HX15 HG15 HW15 HP15 HC
                  go_wp2_with fail
                  refine (blm_same pa pb B.length pc B.length pd B B w16 HP16.out HR16.out (by omega) (by omega)).mono ?_
                  rintro e w17 ⟨he, hq⟩
                  rw [show decide (B = B) = true from decide_eq_true rfl] at he
                  subst he
                  have hb := hq.below
                  have HS17 := Lib.hid (HS16.out.below hb)
                  have HX17 := Lib.hid (HX16.out.below hb)
                  have HW17 := Lib.hid (HW16.out.trans (hb.mono HW16.out.size))
                  clear hb hq HS16 HX16 HW16 HP16 HR16
                  go_wp2_with fail
                  refine (inside_any w17 _ Lb HS17.out (by omega) (by rw [HML.out]; exact Nat.le_trans HMX.out (by decide)) HLW.out).mono ?_
                  rintro e w18 ⟨u18, rfl, hio, hb⟩
                  rw [HIE.out] at hio
                  obtain ⟨ia, ic, rfl, hI⟩ := Ints.of_own hio
                  have HI18 := Lib.hid hI
                  have HX18 := Lib.hid (HX17.out.below hb)
                  have HW18 := Lib.hid (HW17.out.trans (hb.mono HW17.out.size))
                  clear hb hio hI HS17 HX17 HW17
                  have HC := Lib.hid (inside_any w18 _ X HX18.out (by omega) (Nat.le_trans HMX.out (by decide)) HXW.out)
                  generalize insideS X = I at *
                  go_wp2_with fail
                  refine HC.out.mono ?_
                  rintro e w19 ⟨u19, rfl, hio, hb⟩
                  obtain ⟨ja, jc, rfl, hJ⟩ := Ints.of_own hio
                  have HI19 := Lib.hid (HI18.out.below hb)
                  have HJ19 := Lib.hid hJ
                  have HW19 := Lib.hid (HW18.out.trans (hb.mono HW18.out.size))
                  clear hb hio hJ HI18 HX18 HW18 HC
                  go_wp2_with fail
                  refine (ints_any ia ja I.length ic I.length jc I I w19 HI19.out HJ19.out (by omega) (by omega)).mono ?_
                  rintro e w20 ⟨he, hq⟩
                  rw [show decide (I = I) = true from decide_eq_true rfl] at he
                  subst he
                  have HW20 := Lib.hid (HW19.out.trans (hq.below.mono HW19.out.size))
                  clear hq
                  go_wp2_with fail
                  go_ret
                  exact ⟨rfl, HW20.out⟩
                · obtain ⟨i, rfl⟩ : ∃ i, j = i + 1 := ⟨j - 1, by omega⟩
                  rw [show ((i + 1 : Nat) : Int) - 1 = (i : Int) from by omega] at h17
                  subst h17
                  obtain ⟨b1, o1, rfl, c0, c1, c2, c3, c4, c5⟩ := scn_at (HQ13.out.below HBr.out) i (by omega) (by omega)
                  have HDR := Lib.hid (List.drop_eq_getElem_cons (show i < Q.length by omega))
                  have HKK : Hid (∀ w' : World, Below w13.heap.size w13 w' → w'.cell? ⟨b1, o1 + i * 6, none⟩ = some (.int .i64 Q[i].gate) ∧ w'.cell? ⟨b1, o1 + i * 6 + 1, none⟩ = some (.int .i64 Q[i].number) ∧ w'.cell? ⟨b1, o1 + i * 6 + 2, none⟩ = some (.int .i64 Q[i].time) ∧ w'.cell? ⟨b1, o1 + i * 6 + 3, none⟩ = some (.int .i64 Q[i].serial) ∧ w'.cell? ⟨b1, o1 + i * 6 + 4, none⟩ = some (.int .i64 Q[i].kind) ∧ w'.cell? ⟨b1, o1 + i * 6 + 5, none⟩ = some (.string (bs Q[i].owner))) := fun w' hb => by
                    obtain ⟨_, _, e', d0, d1, d2, d3, d4, d5⟩ := scn_at (HQ13.out.below hb) i (by omega) (by omega)
                    cases e'
                    exact ⟨d0, d1, d2, d3, d4, d5⟩
                  generalize Q[i] = y at *
                  clear c0 c1 c2 c3 c4 c5
                  have hil : i < Q.length := by omega
                  go_upto_region 28 with fail
                  refine wp_region_held_drew (S := fun w' => w'.cell? ⟨b1, o1 + i * 6, none⟩ = some (.int .i64 y.gate) ∧ w'.cell? ⟨b1, o1 + i * 6 + 1, none⟩ = some (.int .i64 y.number) ∧ w'.cell? ⟨b1, o1 + i * 6 + 2, none⟩ = some (.int .i64 y.time) ∧ w'.cell? ⟨b1, o1 + i * 6 + 3, none⟩ = some (.int .i64 y.serial) ∧ w'.cell? ⟨b1, o1 + i * 6 + 4, none⟩ = some (.int .i64 y.kind) ∧ w'.cell? ⟨b1, o1 + i * 6 + 5, none⟩ = some (.string (bs y.owner))) (by kernel_rfl) (HKK.out wr HBr.out) (fun hHeld => ?_)
                  refine take_at (i := 0) (v := ?_) 109 rfl rfl (by kernel_rfl) (by kernel_rfl) (by kernel_rfl) (fun _ _ _ h => h) (Or.inl ⟨by rfl, ?_⟩) (by assumption) ?_
                  rotate_left
                  · intro w hSw; go_simp <;> with_reducible rfl
                  try simp only [Act.put, List.setIfInBounds_toArray, List.set_cons_zero, List.set_cons_succ]
                  refine take_at (i := 1) (v := ?_) 110 rfl rfl (by kernel_rfl) (by kernel_rfl) (by kernel_rfl) (fun _ _ _ h => h) (Or.inl ⟨by rfl, ?_⟩) (by assumption) ?_
                  rotate_left
                  · intro w hSw; go_simp <;> with_reducible rfl
                  try simp only [Act.put, List.setIfInBounds_toArray, List.set_cons_zero, List.set_cons_succ]
                  refine take_at (i := 2) (v := ?_) 111 rfl rfl (by kernel_rfl) (by kernel_rfl) (by kernel_rfl) (fun _ _ _ h => h) (Or.inl ⟨by rfl, ?_⟩) (by assumption) ?_
                  rotate_left
                  · intro w hSw; go_simp <;> with_reducible rfl
                  try simp only [Act.put, List.setIfInBounds_toArray, List.set_cons_zero, List.set_cons_succ]
                  refine take_at (i := 3) (v := ?_) 112 rfl rfl (by kernel_rfl) (by kernel_rfl) (by kernel_rfl) (fun _ _ _ h => h) (Or.inl ⟨by rfl, ?_⟩) (by assumption) ?_
                  rotate_left
                  · intro w hSw; go_simp <;> with_reducible rfl
                  try simp only [Act.put, List.setIfInBounds_toArray, List.set_cons_zero, List.set_cons_succ]
                  refine take_at (i := 4) (v := ?_) 113 rfl rfl (by kernel_rfl) (by kernel_rfl) (by kernel_rfl) (fun _ _ _ h => h) (Or.inl ⟨by rfl, ?_⟩) (by assumption) ?_
                  rotate_left
                  · intro w hSw; go_simp <;> with_reducible rfl
                  try simp only [Act.put, List.setIfInBounds_toArray, List.set_cons_zero, List.set_cons_succ]
                  refine take_at (i := 5) (v := ?_) 114 rfl rfl (by kernel_rfl) (by kernel_rfl) (by kernel_rfl) (fun _ _ _ h => h) (Or.inl ⟨by rfl, ?_⟩) (by assumption) ?_
                  rotate_left
                  · intro w hSw; go_simp <;> with_reducible rfl
                  try simp only [Act.put, List.setIfInBounds_toArray, List.set_cons_zero, List.set_cons_succ]
                  refine take_at (i := 6) (v := ?_) 115 rfl rfl (by kernel_rfl) (by kernel_rfl) (by kernel_rfl) (fun _ _ _ h => h) (Or.inl ⟨by rfl, ?_⟩) (by assumption) ?_
                  rotate_left
                  · intro w hSw; go_simp <;> with_reducible rfl
                  try simp only [Act.put, List.setIfInBounds_toArray, List.set_cons_zero, List.set_cons_succ]
                  refine take_at (i := 7) (v := ?_) 116 rfl rfl (by kernel_rfl) (by kernel_rfl) (by kernel_rfl) (fun _ _ _ h => h) (Or.inl ⟨by rfl, ?_⟩) (by assumption) ?_
                  rotate_left
                  · intro w hSw; go_simp <;> with_reducible rfl
                  try simp only [Act.put, List.setIfInBounds_toArray, List.set_cons_zero, List.set_cons_succ]
                  refine take_at (i := 8) (v := ?_) 117 rfl rfl (by kernel_rfl) (by kernel_rfl) (by kernel_rfl) (fun _ _ _ h => h) (Or.inl ⟨by rfl, ?_⟩) (by assumption) ?_
                  rotate_left
                  · intro w hSw; go_simp <;> with_reducible rfl
                  try simp only [Act.put, List.setIfInBounds_toArray, List.set_cons_zero, List.set_cons_succ]
                  have hA := Joins.below_alloc1 wr (.cells #[.int .i64 y.gate, .int .i64 y.number, .int .i64 y.time, .int .i64 y.serial, .int .i64 y.kind, .string (bs y.owner), .int .i64 y.gate, .int .i64 y.number, .int .i64 y.time, .int .i64 y.serial, .int .i64 y.kind, .string (bs y.owner)] 39)
                  have hr15 : RecRow ScnE (wr.alloc (.cells #[.int .i64 y.gate, .int .i64 y.number, .int .i64 y.time, .int .i64 y.serial, .int .i64 y.kind, .string (bs y.owner), .int .i64 y.gate, .int .i64 y.number, .int .i64 y.time, .int .i64 y.serial, .int .i64 y.kind, .string (bs y.owner)] 39)).drew wr.heap.size 39 [y, y] := (rec_new (w := wr.alloc (.cells #[.int .i64 y.gate, .int .i64 y.number, .int .i64 y.time, .int .i64 y.serial, .int .i64 y.kind, .string (bs y.owner), .int .i64 y.gate, .int .i64 y.number, .int .i64 y.time, .int .i64 y.serial, .int .i64 y.kind, .string (bs y.owner)] 39)) [y, y] (World.alloc_heap_new wr _)).below (Below.refl _ _).drew
                  have hb15 : Below wr.heap.size wr (wr.alloc (.cells #[.int .i64 y.gate, .int .i64 y.number, .int .i64 y.time, .int .i64 y.serial, .int .i64 y.kind, .string (bs y.owner), .int .i64 y.gate, .int .i64 y.number, .int .i64 y.time, .int .i64 y.serial, .int .i64 y.kind, .string (bs y.owner)] 39)).drew := hA.drew
                  clear hA
                  have ho15 := row_of_heap HLO.out fun r hr => hb15.block r (HLO.out.lt r hr).2
                  have HB15 := HBr.out.trans (hb15.mono HBr.out.size)
                  refine wpAnyH_ready (rs := [9]) (by kernel_rfl) (by simp) ?_
                  refine AllReadyH.cons rfl (fun K' hK => ?_) AllReadyH.nil
                  go_simp
                  go_simp
                  refine hK.out _ _ (HKK.out _ HB15) (fun hHeld => ?_)
                  clear hK K'
                  try simp only [Act.put, List.setIfInBounds_toArray, List.set_cons_zero, List.set_cons_succ]
                  obtain ⟨v16, w16, hrun, ho16, hg16, _⟩ := run_append_scs 22 ho15 (scs_row hr15) (by have := HLL.out; show Lb.length + 2 ≤ 1000000; omega) HB15.size
                  have HB16 : Hid (Below w13.heap.size w13 w16) := HB15.grown hg16 HB15.size (fun k e => (ho15.lt k e).1)
                  refine wpAnyH_ready (rs := [10]) (by kernel_rfl) (by simp) ?_
                  refine AllReadyH.cons rfl (fun K' hK => ?_) AllReadyH.nil
                  refine step_append_w (by rfl) (.tmp 109) (.tmp 118) 22 rfl 22 rfl hrun rfl rfl ?_
                  go_simp
                  refine hK.out _ _ (HKK.out _ HB16.out) (fun hHeld => ?_)
                  clear hK K'
                  try simp only [Act.put, List.setIfInBounds_toArray, List.set_cons_zero, List.set_cons_succ]
                  refine take_at (i := 11) (v := ?_) 16 rfl rfl (by kernel_rfl) (by kernel_rfl) (by kernel_rfl) (fun _ _ _ h => h) (Or.inl ⟨by rfl, ?_⟩) (by assumption) ?_
                  rotate_left
                  · intro w hSw; go_simp <;> with_reducible rfl
                  try simp only [Act.put, List.setIfInBounds_toArray, List.set_cons_zero, List.set_cons_succ]
                  refine wpAnyH_done (by kernel_rfl) ?_ _
                  have HO16 := Lib.hid ho16
                  have HL16 : Hid ((Lb ++ [y, y]).length = 2 * (Q.length - i)) := by
                    have := HLL.out
                    show _ = _
                    rw [List.length_append]
                    show Lb.length + 2 = _
                    omega
                  have HM16 : Hid (∀ s, s ∈ Lb ++ [y, y] ↔ s ∈ Q.drop i) := fun s => by
                    rw [HDR.out, List.mem_append, HLM.out s]
                    simp only [List.mem_cons, List.not_mem_nil, or_false]
                    constructor
                    · rintro (h | h | h)
                      · exact Or.inr h
                      · exact Or.inl h
                      · exact Or.inl h
                    · rintro (h | h)
                      · exact Or.inr (Or.inl h)
                      · exact Or.inl h
                  clear hHeld HKK hrun ho16 hg16 ho15 hb15 hr15 HB15 HLO HLL HLM HDR
                  go_wp2_with fail
                  go_roundw
                  case rel => exact ⟨i, Lb ++ [y, y], by go_num, by omega, HL16.out, HM16.out, by rw [List.length_append]; exact HO16.out, HB16.out⟩
                  case measure => simp [intOf]
end Go.Proofs.Ytpmoelkblngamaa
