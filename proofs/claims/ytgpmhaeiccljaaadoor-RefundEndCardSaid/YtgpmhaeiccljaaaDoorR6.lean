/- refund.means.part: the walk. -/
import Derived.Maps.AppendAt
import Derived.Test.YtgpmhaeiccljaaaDoorOwn
import Derived.Test.YtgpmhaeiccljaaaDoorR5
import Derived.Test.YtgpmhaeiccljaaaDoorMS
namespace Go.Proofs.YtgpmhaeiccljaaaDoor
open Go.RowKit Go.IntWalk

theorem some_snoc : ∀ (ns : List Name) (ps : List Int) (n : Name) (p : Int), ns.length = ps.length → somePos (ns ++ [n]) (ps ++ [p]) = somePos ns ps ++ if 0 < p then [(n, p)] else []
  | [], [], n, p, _ => by simp [somePos]
  | [], _ :: _, _, _, h => by simp at h
  | _ :: _, [], _, _, h => by simp at h
  | m :: ns, q :: ps, n, p, h => by
    have ih := some_snoc ns ps n p (by simpa using h)
    rw [List.cons_append, List.cons_append, somePos, somePos, ih]
    split
    · rw [List.cons_append]
    · rfl

/-- The means made of the first i parts. -/
def outS (l : List MeanT) (ps : List Int) (i : Nat) : List MeanT := somePos ((l.map (·.1)).take i) (ps.take i)

theorem out_next {l : List MeanT} {ps : List Int} {i : Nat} (h : i < l.length) (hp : ps.length = l.length) : outS l ps (i + 1) = outS l ps i ++ if 0 < ix ps i then [(nm l i, ix ps i)] else [] := by
  unfold outS
  rw [List.take_succ_eq_append_getElem (by simpa using h), List.take_succ_eq_append_getElem (by omega), some_snoc _ _ _ _ (by simp; omega), List.getElem_map, ← nm_eq _ _ h, ← ix_eq _ _ (by omega)]

theorem out_all {l : List MeanT} {ps : List Int} (hp : ps.length = l.length) : outS l ps l.length = somePos (l.map (·.1)) ps := by
  unfold outS
  rw [List.take_of_length_le (by simp), List.take_of_length_le (by omega)]

theorem out_len (l : List MeanT) (ps : List Int) (i : Nat) : (outS l ps i).length ≤ i := by
  have h := (some_sub ((l.map (·.1)).take i) (ps.take i)).length_le
  rw [List.length_map, List.length_take] at h
  unfold outS
  omega

theorem wts_next {l : List MeanT} {i : Nat} (h : i < l.length) : (wts l).take (i + 1) = (wts l).take i ++ [am l i] := by
  rw [List.take_succ_eq_append_getElem (by rw [wts_len]; exact h), ← ix_eq _ _ (by rw [wts_len]; exact h), wts_at l i h]

theorem mean_new (W : World) (x : MeanT) : ∀ (j : Nat) (u : Value), (MeanE.cells x)[j]? = some u → (W.alloc (.cells #[.string (bs x.1), .int .i64 x.2] 46)).cell? ((⟨W.heap.size, 0, none⟩ : Addr).add j) = some u := by
  intro j u hj
  rw [add_none]
  have hb := World.alloc_heap_new W (.cells #[.string (bs x.1), .int .i64 x.2] 46)
  rw [Nat.zero_add, cell_of_row _ _ _ _ _ _ hb]
  simpa [MeanE] using hj

theorem info_mean : (Tryd.prog.info? 46).map (fun i => (i.zero, i.size, i.bytes)) = some (some (.agg #[.string ⟨#[]⟩, .int .i64 0]), 2, 24) := by kernel_rfl

theorem mean_snoc (l : List MeanT) (x : MeanT) : flat MeanE (l ++ [x]) = flat MeanE l ++ MeanE.cells x := by rw [flat_append, flat_single]

/-- A list of means of the call's own, and an error. -/
def PartPost (r : List MeanT × Int) (w : World) (e : Ending) (w' : World) : Prop :=
  ∃ la k c, e = .returned (.tuple #[.slice la k c, .int .i64 r.2]) ∧ Below w.heap.size w w' ∧ OwnRecs MeanE w' w.heap.size 46 la k r.1

theorem OwnRecs.nil {w : World} {B : Nat} {T : TypeId} : OwnRecs MeanE w B T none 0 [] := ⟨rfl, fun h => absurd h (Nat.lt_irrefl _)⟩

set_option maxRecDepth 10000 in
set_option maxHeartbeats 1600000 in
theorem mpart_any (ra : Option Addr) (n c : Nat) (l : List MeanT) (a : Int) (w : World) (h : Means w ra n l) (hg : Good l) (hn : n ≤ 30) :
    Calls Tryd.prog 28 #[.slice ra n c, .int .i64 a] w (PartPost (mpartS l a) w) := by
  have HM := Lib.hid h
  have HG := Lib.hid hg
  have hlen := h.1
  have HLE := Lib.hid hg.le
  clear h hg
  by_cases h0 : a < 0
  · have HR : Hid (mpartS l a = ([], 1)) := by show _ = _; unfold mpartS; rw [if_pos h0]
    go_enter Tryd.func28, Tryd.ntmps28
    go_wp2_with fail
    go_ret2
    exact ⟨none, 0, 0, by rw [HR.out]; rfl, Below.refl _ _, by rw [HR.out]; exact OwnRecs.nil⟩
  go_enter Tryd.func28, Tryd.ntmps28
  go_wp2_with fail
  refine (total_any ra n c l w HM.out hn (fun i hi => by have := HLE.out i (by omega); omega)).mono ?_
  rintro e w1 ⟨rfl, hb1⟩
  have HB1 := Lib.hid hb1
  clear hb1
  by_cases h1 : totS l < a
  · have HR : Hid (mpartS l a = ([], 19)) := by show _ = _; unfold mpartS; rw [if_neg (by omega), if_pos h1]
    go_wp2_with fail
    go_ret2
    exact ⟨none, 0, 0, by rw [HR.out]; rfl, HB1.out, by rw [HR.out]; exact OwnRecs.nil⟩
  by_cases hz : n = 0
  · have HR : Hid (mpartS l a = ([], 0)) := by show _ = _; unfold mpartS; rw [if_neg (by omega), if_neg (by omega), if_pos (List.length_eq_zero_iff.mp (by omega))]
    subst hz
    go_wp2_with fail
    go_ret2
    exact ⟨none, 0, 0, by rw [HR.out]; rfl, HB1.out, by rw [HR.out]; exact OwnRecs.nil⟩
  have hne : l ≠ [] := by intro e; rw [e] at hlen; simp at hlen; omega
  have HR : Hid (mpartS l a = (partList l a, 0)) := by show _ = _; unfold mpartS; rw [if_neg (by omega), if_neg (by omega), if_neg hne]
  have HSB : Hid (splitB a (wts l) = true) := part_splitB HG.out (by omega) (by omega) hne
  have e0 : ((n : Int) == 0) = false := by simp; omega
  obtain ⟨i0, hi, hi0, hi1, hi2⟩ := info_parts Tryd_infoInt
  obtain ⟨i1, hj, hj0, hj1, hj2⟩ := info_parts info_mean
  go_wp2_with fail
  go_loopw [6, 28] (fun v6 v28 wr => ∃ i : Nat, v28 = .int .i64 i ∧ i ≤ n ∧ Hid (Below w.heap.size w wr) ∧ Hid (wr.ownsRow w.heap.size 3 1 v6 i (((wts l).take i).map (Value.int .i64)))) (fun _ v28 _ => n - (intOf v28).toNat)
  case atStart => exact ⟨0, rfl, Nat.zero_le _, HB1, World.ownsRow_nil _ _ _ _⟩
  case round =>
    obtain ⟨i, rfl, hin, HB, HO⟩ := hrel
    by_cases hlt : i < n
    · obtain ⟨b, o, rfl, c0, c1⟩ := Means.at (HM.out.below HB.out) i hlt
      go_upto_region 11 with fail
      have HB2 := Lib.hid (HB.out.trans ((Joins.below_alloc1 wr (.cells #[.string (bs (nm l i)), .int .i64 (am l i)] 46)).mono HB.out.size))
      have HO2 := Lib.hid (HO.out.alloc (.cells #[.string (bs (nm l i)), .int .i64 (am l i)] 46))
      have HX : Hid (Boxed2 (wr.alloc (.cells #[.string (bs (nm l i)), .int .i64 (am l i)] 46)) wr.heap.size (.string (bs (nm l i))) (.int .i64 (am l i))) := World.alloc_heap_new wr _
      generalize wr.alloc (.cells #[.string (bs (nm l i)), .int .i64 (am l i)] 46) = w2 at *
      clear c0 c1 HB HO
      have x1 := HX.out.c1
      have hsz := HB2.out.size
      go_wp2_with (at_builtin; refine wpList_append_own _ rfl _ _ 50 rfl w.heap.size 3 i0 (.int .i64 0) 1 8 Tryd.underlying50 hi hi0 hi1 hi2 rfl (by decide) _ _ _ rfl (HO2.out.alloc _) ⟨w2.heap.size, 0, none⟩ 1 1 [.int .i64 (am l i)] rfl rfl (cell_one_new _ _ _) (by simp [Value.oneCell']) (by unfold maxLen; omega) (by omega) (by simp; omega) ?_; intro v' w3 hown' hgrow _; have HN := Lib.hid (And.intro hown' hgrow); clear hown' hgrow)
      exact ⟨⟨i + 1, by go_num, hlt, (HB2.out.alloc hsz _).grown HN.out.2 (by simp; omega) (fun k e => (HO2.out.lt k e).1), by rw [wts_next (by omega), List.map_append]; exact HN.out.1⟩, by simp [intOf]; omega⟩
    · have hi' : i = n := by omega
      subst hi'
      obtain ⟨la, c', rfl, ho⟩ := OwnInts.of_row HO.out
      have hI := ho.ints
      rw [List.take_of_length_le (by rw [wts_len]; omega)] at hI
      go_wp2_with fail
      refine (split_any a la i c' (wts l) wr (by omega) hI).mono ?_
      rintro e w3 ⟨hb3, h3 | ⟨_, g, rfl, hg3, hr3⟩⟩
      · rw [HSB.out] at h3; exact absurd h3.1 (by simp)
      have hps : (splitS a (wts l)).length = l.length := by rw [splitS_length, wts_len]
      have HB3 := Lib.hid (HB.out.trans (hb3.mono HB.out.size))
      have HR3 : Hid (Ints w3 (some ⟨g, 0, none⟩) i (splitS a (wts l))) := by have := hr3.ints; rwa [hps, hlen] at this
      have hwl : (wts l).length = i := by rw [wts_len]; exact hlen
      rw [hwl]
      clear hb3 hr3 hI ho HB HO hwl
      obtain ⟨ps, hpe⟩ : ∃ ps, splitS a (wts l) = ps := ⟨_, rfl⟩
      have HPE := Lib.hid hpe
      rw [hpe] at HR3 hps
      clear hpe
      go_wp2_with fail
      go_loopw [11, 46] (fun v11 v46 wx => ∃ j : Nat, v46 = .int .i64 j ∧ j ≤ i ∧ Hid (Below w3.heap.size w3 wx) ∧ Hid (wx.ownsRow w3.heap.size 46 2 v11 (outS l ps j).length (flat MeanE (outS l ps j)))) (fun _ v46 _ => i - (intOf v46).toNat)
      case atStart => exact ⟨0, rfl, Nat.zero_le _, Below.refl _ _, World.ownsRow_nil _ _ _ _⟩
      case round =>
        obtain ⟨j, rfl, hj', HBX, HOX⟩ := hrel
        by_cases hjl : j < i
        · obtain ⟨b, o, rfl, c0, c1⟩ := Means.at (HM.out.below (HB3.out.trans (HBX.out.mono HB3.out.size))) j hjl
          obtain ⟨g', o', eg, d0⟩ := (HR3.out.below HBX.out).2 j hjl
          simp only [Option.some.injEq, Addr.mk.injEq, and_true] at eg
          obtain ⟨rfl, rfl⟩ := eg
          rw [Nat.zero_add] at d0
          obtain ⟨p, hp⟩ : ∃ p, ix ps j = p := ⟨_, rfl⟩
          have HON := Lib.hid (out_next (l := l) (ps := ps) (i := j) (by omega) hps)
          rw [hp] at d0 HON
          clear hp
          have hol := out_len l ps j
          have hsz := HBX.out.size
          by_cases hp0 : 0 < p
          · rw [if_pos hp0] at HON
            go_wp2_with (at_builtin; refine wpList_append_own _ rfl _ _ 22 rfl w3.heap.size 46 i1 _ 2 24 Tryd.underlying22 hj hj0 hj1 hj2 rfl (by decide) _ _ _ rfl (HOX.out.alloc _) ⟨wr.heap.size, 0, none⟩ 1 1 (MeanE.cells (nm l j, p)) rfl rfl (mean_new wr (nm l j, p)) (MeanE.one _) (by unfold maxLen; omega) (by omega) (by simp; omega) ?_; intro v' w4 hown' hgrow _; have HN := Lib.hid (And.intro hown' hgrow); clear hown' hgrow)
            refine ⟨⟨j + 1, by go_num, hjl, (HBX.out.alloc hsz _).grown HN.out.2 (by simp; omega) (fun k e => (HOX.out.lt k e).1), ?_⟩, by simp [intOf]; omega⟩
            show w4.ownsRow _ _ _ _ _ _
            rw [HON.out, mean_snoc, List.length_append, List.length_singleton]
            exact HN.out.1
          · rw [if_neg hp0, List.append_nil] at HON
            go_wp2_with fail
            refine ⟨⟨j + 1, by go_num, hjl, HBX.out, ?_⟩, by simp [intOf]; omega⟩
            show World.ownsRow _ _ _ _ _ _ _
            rw [HON.out]
            exact HOX.out
        · have hj2 : j = i := by omega
          subst hj2
          obtain ⟨lb, cb, rfl, ho⟩ := OwnRecs.of_row HOX.out
          have HOO := Lib.hid ho
          have HPL : Hid (outS l ps j = partList l a) := by
            show _ = _
            rw [← hlen, out_all hps]
            unfold partList
            rw [HPE.out]
          clear ho
          go_wp2_with fail
          go_ret2
          refine ⟨lb, (outS l ps j).length, cb, by rw [HR.out]; rfl, HB3.out.trans (HBX.out.mono HB3.out.size), ?_⟩
          rw [HR.out]
          show OwnRecs _ _ _ _ _ _ (partList l a)
          rw [← HPL.out]
          exact ⟨HOO.out.1, fun hk => let ⟨g', e', hg', hr'⟩ := HOO.out.2 hk; ⟨g', e', Nat.le_trans HB3.out.size hg', hr'⟩⟩
end Go.Proofs.YtgpmhaeiccljaaaDoor
