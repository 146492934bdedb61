/- foyerref29.part, Split, New: the walks. -/
import Derived.Test.YtgpmhaeiccljaaaDoorRG
import Derived.Test.YtgpmhaeiccljaaaDoorRB
import Derived.Test.YtgpmhaeiccljaaaDoorMZ
import Derived.Deep.AppendLies
import Derived.Deep.RegionLaw
namespace Go.Proofs.YtgpmhaeiccljaaaDoor
open Go.RowKit Go.IntWalk

set_option maxRecDepth 10000 in
set_option maxHeartbeats 1600000 in
theorem rpart_any (ra : Option Addr) (n c : Nat) (l : List MeanT) (a : Int) (w : World) (h : Means w ra n l) (hg : Good l) (h0 : 0 ≤ a) (h1 : a ≤ totS l) (hn : n ≤ 30) :
    Calls Tryd.prog 30 #[.slice ra n c, .int .i64 a] w fun e w' => ∃ la k c', e = .returned (.slice la k c') ∧ Below w.heap.size w w' ∧ OwnRecs MeanE w' w.heap.size 46 la k (mpartS l a).1 := by
  have HM := Lib.hid h
  have HG := Lib.hid hg
  have hlen := h.1
  have HLE := Lib.hid hg.le
  clear h hg
  by_cases hz : n = 0
  · have HR : Hid (mpartS l a = ([], 0)) := by show _ = _; unfold mpartS; rw [if_neg (by omega), if_neg (by omega), if_pos (List.length_eq_zero_iff.mp (by omega))]
    subst hz
    go_enter Tryd.func30, Tryd.ntmps30
    go_wp2_with fail
    go_ret
    exact ⟨none, 0, 0, rfl, Below.refl _ _, by rw [HR.out]; exact OwnRecs.nil⟩
  have hne : l ≠ [] := by intro e; rw [e] at hlen; simp at hlen; omega
  have HR : Hid (mpartS l a = (partList l a, 0)) := by show _ = _; unfold mpartS; rw [if_neg (by omega), if_neg (by omega), if_neg hne]
  have HSB : Hid (splitB a (wts l) = true) := part_splitB HG.out (by omega) (by omega) hne
  have HNN := Lib.hid (fun i hi => (part_ok HG.out h0 h1 hne i hi).lo)
  have e0 : ((n : Int) == 0) = false := by simp; omega
  obtain ⟨i0, hi, hi0, hi1, hi2⟩ := info_parts Tryd_infoInt
  obtain ⟨i1, hj, hj0, hj1, hj2⟩ := info_parts info_mean
  go_enter Tryd.func30, Tryd.ntmps30
  go_wp2_with fail
  go_loopw [5, 6] (fun v5 v6 wr => ∃ i : Nat, v6 = .int .i64 i ∧ i ≤ n ∧ Hid (Below w.heap.size w wr) ∧ Hid (wr.ownsRow w.heap.size 3 1 v5 i (((wts l).take i).map (Value.int .i64)))) (fun _ v6 _ => n - (intOf v6).toNat)
  case atStart => exact ⟨0, rfl, Nat.zero_le _, Below.refl _ _, World.ownsRow_nil _ _ _ _⟩
  case round =>
    obtain ⟨i, rfl, hin, HB, HO⟩ := hrel
    by_cases hlt : i < n
    · obtain ⟨b, o, rfl, c0, c1⟩ := Means.at (HM.out.below HB.out) i hlt
      have hsz := HB.out.size
      go_wp2_with (at_builtin; refine wpList_append_own _ rfl _ _ 50 rfl w.heap.size 3 i0 (.int .i64 0) 1 8 Tryd.underlying50 hi hi0 hi1 hi2 rfl (by decide) _ _ _ rfl (HO.out.alloc _) ⟨wr.heap.size, 0, none⟩ 1 1 [.int .i64 (am l i)] rfl rfl (cell_one_new _ _ _) (by simp [Value.oneCell']) (by unfold maxLen; omega) (by omega) (by simp; omega) ?_; intro v' w3 hown' hgrow _; have HN := Lib.hid (And.intro hown' hgrow); clear hown' hgrow)
      exact ⟨⟨i + 1, by go_num, hlt, (HB.out.alloc hsz _).grown HN.out.2 (by simp; omega) (fun k e => (HO.out.lt k e).1), by rw [wts_next (by omega), List.map_append]; exact HN.out.1⟩, by simp [intOf]; omega⟩
    · have hi' : i = n := by omega
      subst hi'
      obtain ⟨la, c', rfl, ho⟩ := OwnInts.of_row HO.out
      have hI := ho.ints
      rw [List.take_of_length_le (by rw [wts_len]; omega)] at hI
      go_wp2_with fail
      refine (rsplit_any a la i c' (wts l) wr (by omega) hI).mono ?_
      rintro e w3 ⟨hb3, h3 | ⟨_, g, rfl, hg3, hr3⟩⟩
      · rw [HSB.out] at h3; exact absurd h3.1 (by simp)
      have hps : (splitS a (wts l)).length = l.length := by rw [splitS_length, wts_len]
      have HB3 := Lib.hid (HB.out.trans (hb3.mono HB.out.size))
      have HR3 : Hid (Ints w3 (some ⟨g, 0, none⟩) i (splitS a (wts l))) := by have := hr3.ints; rwa [hps, hlen] at this
      have hwl : (wts l).length = i := by rw [wts_len]; exact hlen
      rw [hwl]
      clear hb3 hr3 hI ho HB HO hwl
      obtain ⟨ps, hpe⟩ : ∃ ps, splitS a (wts l) = ps := ⟨_, rfl⟩
      have HPE := Lib.hid hpe
      rw [hpe] at HR3 hps HNN
      clear hpe
      go_wp2_with fail
      go_loopw [9, 10] (fun v9 v10 wx => ∃ j : Nat, v10 = .int .i64 j ∧ j ≤ i ∧ Hid (Below w3.heap.size w3 wx) ∧ Hid (wx.ownsRow w3.heap.size 46 2 v9 (outS l ps j).length (flat MeanE (outS l ps j)))) (fun _ v10 _ => i - (intOf v10).toNat)
      case atStart => exact ⟨0, rfl, Nat.zero_le _, Below.refl _ _, World.ownsRow_nil _ _ _ _⟩
      case round =>
        obtain ⟨j, rfl, hj', HBX, HOX⟩ := hrel
        by_cases hjl : j < i
        · obtain ⟨b, o, rfl, c0, c1⟩ := Means.at (HM.out.below (HB3.out.trans (HBX.out.mono HB3.out.size))) j hjl
          obtain ⟨g', o', eg, d0⟩ := (HR3.out.below HBX.out).2 j hjl
          simp only [Option.some.injEq, Addr.mk.injEq, and_true] at eg
          obtain ⟨rfl, rfl⟩ := eg
          rw [Nat.zero_add] at d0
          obtain ⟨p, hp⟩ : ∃ p, ix ps j = p := ⟨_, rfl⟩
          have HON := Lib.hid (out_next (l := l) (ps := ps) (i := j) (by omega) hps)
          have hp1 := HNN.out j (by omega)
          rw [hp] at d0 HON hp1
          clear hp
          have hol := out_len l ps j
          have hsz := HBX.out.size
          by_cases hp0 : 0 < p
          · rw [if_pos hp0] at HON
            have e1 : (p == 0) = false := by simp; omega
            have HOD : Hid (wr.drew.ownsRow w3.heap.size 46 2 u9 (outS l ps j).length (flat MeanE (outS l ps j))) := HOX.out
            have HBD := Lib.hid (HBX.out.drew)
            go_upto_region 14 with fail
            go_region_law (refine step_append_lies _ rfl (.tmp 45) (.tmp 56) 22 rfl w3.heap.size 46 i1 _ 2 24 Tryd.underlying22 hj hj0 hj1 hj2 rfl (by decide) u9 (outS l ps j).length (flat MeanE (outS l ps j)) (by simp [Act.eval]) (World.ownsRow.alloc (w := wr.drew) HOD.out _) ⟨wr.heap.size, 0, none⟩ 1 1 (MeanE.cells (nm l j, p)) (by simp [Act.eval]) rfl (mean_new wr.drew (nm l j, p)) (MeanE.one _) (by decide) (by unfold maxLen; omega) (by omega) (by simp; omega) (wr.heap.size + 1) (by simp) ?_; intro g2 cap2 w4 hown' hgrow hat _; have HN := Lib.hid (And.intro hown' hgrow); clear hown' hgrow hat)
            all_goals
              go_wp2_with fail
              refine ⟨⟨j + 1, by go_num, hjl, (HBD.out.alloc hsz _).grown HN.out.2 (by simp; omega) (fun k e => (HOX.out.lt k e).1), ?_⟩, by simp [intOf]; omega⟩
              show w4.ownsRow _ _ _ _ _ _
              rw [HON.out, mean_snoc, List.length_append, List.length_singleton]
              exact HN.out.1
          · rw [if_neg hp0, List.append_nil] at HON
            have e1 : (p == 0) = true := by simp; omega
            go_wp2_with fail
            refine ⟨⟨j + 1, by go_num, hjl, HBX.out, ?_⟩, by simp [intOf]; omega⟩
            show World.ownsRow _ _ _ _ _ _ _
            rw [HON.out]
            exact HOX.out
        · have hj2 : j = i := by omega
          subst hj2
          obtain ⟨lb, cb, rfl, ho⟩ := OwnRecs.of_row HOX.out
          have HOO := Lib.hid ho
          have HPL : Hid (outS l ps j = partList l a) := by
            show _ = _
            rw [← hlen, out_all hps]
            unfold partList
            rw [HPE.out]
          clear ho
          go_wp2_with fail
          go_ret
          refine ⟨lb, (outS l ps j).length, cb, rfl, HB3.out.trans (HBX.out.mono HB3.out.size), ?_⟩
          rw [HR.out]
          show OwnRecs _ _ _ _ _ _ (partList l a)
          rw [← HPL.out]
          exact ⟨HOO.out.1, fun hk => let ⟨g', e', hg', hr'⟩ := HOO.out.2 hk; ⟨g', e', Nat.le_trans HB3.out.size hg', hr'⟩⟩

set_option maxRecDepth 10000 in
theorem rrfsplit_any (ra : Option Addr) (n c : Nat) (l : List MeanT) (a : Int) (w : World) (h : Means w ra n l) (hn : n ≤ 30) (hl : ∀ i, i < n → (nm l i).length ≤ 60) :
    Calls Tryd.prog 12 #[.slice ra n c, .int .i64 a] w (PartPost (rsplS l a) w) := by
  have HM := Lib.hid h
  have HL : Hid (∀ i, i < n → (nm l i).length ≤ 1000) := fun i hi => by have := hl i hi; omega
  have hlen := h.1
  clear h hl
  go_enter Tryd.func12, Tryd.ntmps12
  go_wp2_with fail
  refine (rright_any ra n c l w HM.out hn HL.out).mono ?_
  rintro e w1 ⟨rfl, q, hq⟩
  have HB1 : Hid (Below w.heap.size w w1) := by rw [hq]; exact below_drewN (Below.refl _ _) q
  clear hq
  cases hr : rightB l
  · have HR : Hid (rsplS l a = ([], 1)) := by show _ = _; unfold rsplS; rw [hr]; rfl
    clear hr
    go_wp2_with fail
    go_ret2
    exact ⟨none, 0, 0, by rw [HR.out]; rfl, HB1.out, by rw [HR.out]; exact OwnRecs.nil⟩
  · have HR : Hid (rsplS l a = mpartS l a) := by show _ = _; unfold rsplS; rw [hr]; rfl
    have HG := Lib.hid (right_iff.mp hr).good
    clear hr
    by_cases h0 : a < 0
    · have HP : Hid (mpartS l a = ([], 1)) := by show _ = _; unfold mpartS; rw [if_pos h0]
      go_wp2_with fail
      go_ret2
      exact ⟨none, 0, 0, by rw [HR.out, HP.out]; rfl, HB1.out, by rw [HR.out, HP.out]; exact OwnRecs.nil⟩
    have HM1 := Lib.hid (HM.out.below HB1.out)
    go_wp2_with fail
    refine (rtotal_any ra n c l w1 HM1.out hn (fun i hi => by have := HG.out.le i (by omega); omega)).mono ?_
    rintro e w2 ⟨rfl, rfl⟩
    by_cases h1 : totS l < a
    · have HP : Hid (mpartS l a = ([], 19)) := by show _ = _; unfold mpartS; rw [if_neg (by omega), if_pos h1]
      go_wp2_with fail
      go_ret2
      exact ⟨none, 0, 0, by rw [HR.out, HP.out]; rfl, HB1.out, by rw [HR.out, HP.out]; exact OwnRecs.nil⟩
    have HP : Hid ((mpartS l a).2 = 0) := by show _ = _; unfold mpartS; rw [if_neg (by omega), if_neg (by omega)]; split <;> rfl
    go_wp2_with fail
    refine (rpart_any ra n c l a w1 HM1.out HG.out (by omega) (by omega) hn).mono ?_
    rintro e w2 ⟨la, k, c', rfl, hb2, ho⟩
    have HB2 := Lib.hid (HB1.out.trans (hb2.mono HB1.out.size))
    have HO := Lib.hid (ho.low (by have := HB1.out.size; omega : w.heap.size ≤ w1.heap.size))
    clear hb2 ho
    go_wp2_with fail
    go_ret2
    exact ⟨la, k, c', by rw [HR.out, HP.out]; rfl, HB2.out, by rw [HR.out]; exact HO.out⟩

set_option maxRecDepth 10000 in
set_option maxHeartbeats 800000 in
theorem rnew_any (ra : Option Addr) (n c : Nat) (l : List MeanT) (w : World) (h : Means w ra n l) (hn : n ≤ 30) (hl : ∀ i, i < n → (nm l i).length ≤ 60) :
    Calls Tryd.prog 14 #[.slice ra n c] w fun e w' => Below w.heap.size w w' ∧ ((rightB l = false ∧ e = .returned (.tuple #[.pointer none, .int .i64 1])) ∨ (rightB l = true ∧ ∃ g, e = .returned (.tuple #[.pointer (some ⟨g, 0, none⟩), .int .i64 0]) ∧ RefAtR w' w.heap.size g l)) := by
  have HM := Lib.hid h
  have hlen := h.1
  have HL : Hid (∀ i, i < n → (nm l i).length ≤ 1000) := fun i hi => by have := hl i hi; omega
  clear h hl
  obtain ⟨i1, hj, hj0, hj1, hj2⟩ := info_parts info_mean
  go_enter Tryd.func14, Tryd.ntmps14
  go_wp2_with fail
  refine (rright_any ra n c l w HM.out hn HL.out).mono ?_
  rintro e w1 ⟨rfl, q, hq⟩
  have HB1 : Hid (Below w.heap.size w w1) := by rw [hq]; exact below_drewN (Below.refl _ _) q
  have HSZ : Hid (w.heap.size ≤ w1.heap.size) := HB1.out.size
  clear hq
  cases hr : rightB l
  · have HR := Lib.hid hr
    clear hr
    go_wp2_with fail
    go_ret2
    exact ⟨HB1.out, .inl ⟨HR.out, rfl⟩⟩
  · have HR := Lib.hid hr
    have hpos := (right_iff.mp hr).len1
    clear hr
    obtain ⟨b, o, rfl, _⟩ := HM.out.2 0 (by omega)
    have HOW := Lib.hid (World.ownsRow_made (e := 46) (size := 2) w1 #[] 0 (Nat.le_refl _) (by unfold maxLen; omega) rfl)
    have hfl : (flat MeanE l).length = n * 2 := by rw [flat_len, hlen]
    have HFC := Lib.hid (flat_cells ((HM.out.below HB1.out).below (Joins.below_alloc1 w1 (.cells #[] 46))))
    go_wp2_with (at_builtin; refine wpList_append_own _ rfl _ _ 22 rfl w1.heap.size 46 i1 _ 2 24 Tryd.underlying22 hj hj0 hj1 hj2 rfl (by decide) _ 0 [] rfl HOW.out ⟨b, o, none⟩ n c (flat MeanE l) rfl hfl HFC.out flat_one (by unfold maxLen; omega) (by omega) (by simp) ?_; skip)
    intro v' w3 hown' hgrow _
    have HN := Lib.hid (And.intro hown' hgrow)
    clear hown' hgrow
    obtain ⟨la, c', rfl, ho⟩ := OwnRecs.of_row HN.out.1
    have HO := Lib.hid ho
    have HB3 := Lib.hid (((Below.refl w1.heap.size w1).alloc (Nat.le_refl _) (.cells #[] 46)).grown HN.out.2 (by simp) (fun k hk => by simp [Value.ownBlock] at hk; omega))
    clear ho HOW HFC
    go_wp2_with fail
    go_ret2
    have hba := Joins.below_alloc1 w3 (.cells #[.slice la n c'] 61)
    have ho2 := HO.out.below hba
    have hs3 := HB3.out.size
    have hsz := HSZ.out
    exact ⟨(HB1.out.trans (HB3.out.mono HB1.out.size)).trans (hba.mono (by omega)), .inr ⟨HR.out, w3.heap.size, rfl, la, n, c', World.alloc_heap_new w3 _, by omega, ho2.1, fun hk => let ⟨g, e', hg, hr⟩ := ho2.2 hk; ⟨g, e', by omega, hr⟩⟩⟩
end Go.Proofs.YtgpmhaeiccljaaaDoor
