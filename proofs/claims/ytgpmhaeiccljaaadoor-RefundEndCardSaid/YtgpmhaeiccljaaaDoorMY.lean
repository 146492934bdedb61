/- foyerref01.Split: plain facts and the walk for an amount that is not negative. -/
import Derived.Test.YtgpmhaeiccljaaaDoorMV
namespace Go.Proofs.YtgpmhaeiccljaaaDoor
open Go.RowKit Go.IntWalk

theorem part_step2 {N : Int} {W D : List Int} {b t : Nat} (h : PartAt N W D t) (hb : b < W.length) (hr : rankS N W b = t) : PartAt N W (D.set b (ix D b + 1)) (t + 1) := by
  refine ⟨by rw [List.length_set]; exact h.1, fun i hi => ?_⟩
  rw [ix_set _ _ _ _ (by rw [h.1]; exact hb)]
  by_cases e : b = i
  · subst e; rw [if_pos rfl, h.2 _ hb, hr, if_neg (by omega), if_pos (by omega)]; omega
  · rw [if_neg e, h.2 i hi]
    have : rankS N W i ≠ t := by
      intro hh
      rw [← hr] at hh
      exact e (rank_inj hi hb hh).symm
    congr 1
    by_cases h2 : rankS N W i < t
    · rw [if_pos h2, if_pos (by omega)]
    · rw [if_neg h2, if_neg (by omega)]

/-- Which ones have got one more. -/
def DoneAt (N : Int) (W : List Int) (B : List Bool) (t : Nat) : Prop := B.length = W.length ∧ ∀ i, i < W.length → bx B i = decide (rankS N W i < t)

theorem done_step {N : Int} {W : List Int} {B : List Bool} {b t : Nat} (h : DoneAt N W B t) (hb : b < W.length) (hr : rankS N W b = t) : DoneAt N W (B.set b true) (t + 1) := by
  refine ⟨by rw [List.length_set]; exact h.1, fun i hi => ?_⟩
  rw [bx_set _ _ _ _ (by rw [h.1]; exact hb)]
  by_cases e : b = i
  · subst e; rw [if_pos rfl, hr]; simp
  · rw [if_neg e, h.2 i hi]
    have : rankS N W i ≠ t := by
      intro hh
      rw [← hr] at hh
      exact e (rank_inj hi hb hh).symm
    by_cases h2 : rankS N W i < t
    · simp [h2]; omega
    · simp [h2]; omega

/-- The best one of the first i that are left. -/
def BestAt (N : Int) (W : List Int) (t i : Nat) (b : Int) : Prop :=
  (b = -1 ∧ ∀ j, j < i → rankS N W j < t) ∨ ∃ m : Nat, b = m ∧ m < i ∧ t ≤ rankS N W m ∧ ∀ j, j < i → t ≤ rankS N W j → j = m ∨ befS N W m j = true

theorem best_old {N : Int} {W : List Int} {t i : Nat} {b : Int} (h : BestAt N W t i b) (hr : rankS N W i < t) : BestAt N W t (i + 1) b := by
  rcases h with ⟨h1, h2⟩ | ⟨m, h1, h2, h3, h4⟩
  · exact .inl ⟨h1, fun j hj => by
      by_cases e : j = i
      · subst e; exact hr
      · exact h2 j (by omega)⟩
  · exact .inr ⟨m, h1, by omega, h3, fun j hj hjt => h4 j (by
      apply Classical.byContradiction
      intro hn
      obtain rfl : j = i := by omega
      omega) hjt⟩

theorem best_first {N : Int} {W : List Int} {t i : Nat} (h : BestAt N W t i (-1)) (hr : t ≤ rankS N W i) : BestAt N W t (i + 1) i := by
  rcases h with ⟨h1, h2⟩ | ⟨m, h1, h2, h3, h4⟩
  · exact .inr ⟨i, rfl, by omega, hr, fun j hj hjt => by
      by_cases e : j = i
      · exact .inl e
      · have := h2 j (by omega); omega⟩
  · omega

theorem best_new {N : Int} {W : List Int} {t i m : Nat} (h : BestAt N W t i m) (hr : t ≤ rankS N W i) (hg : restS N W m < restS N W i) : BestAt N W t (i + 1) i := by
  rcases h with ⟨h1, h2⟩ | ⟨m', h1, h2, h3, h4⟩
  · omega
  · obtain rfl : m = m' := by omega
    refine .inr ⟨i, rfl, by omega, hr, fun j hj hjt => ?_⟩
    by_cases e : j = i
    · exact .inl e
    · right
      rw [bef_iff]
      rcases h4 j (by omega) hjt with rfl | hb
      · left; exact hg
      · rw [bef_iff] at hb; omega

theorem best_keep {N : Int} {W : List Int} {t i m : Nat} (h : BestAt N W t i m) (hg : ¬ restS N W m < restS N W i) : BestAt N W t (i + 1) m := by
  rcases h with ⟨h1, h2⟩ | ⟨m', h1, h2, h3, h4⟩
  · omega
  · obtain rfl : m = m' := by omega
    refine .inr ⟨m, rfl, by omega, h3, fun j hj hjt => ?_⟩
    by_cases e : j = i
    · subst e
      right
      rw [bef_iff]
      omega
    · exact h4 j (by omega) hjt

theorem best_cases {N : Int} {W : List Int} {t i : Nat} {b : Int} (h : BestAt N W t i b) : b = -1 ∨ ∃ m : Nat, b = m ∧ m < i := by
  rcases h with ⟨h1, _⟩ | ⟨m, h1, h2, _⟩
  · exact .inl h1
  · exact .inr ⟨m, h1, h2⟩

theorem best_done {N : Int} {W : List Int} {t : Nat} {b : Int} (h : BestAt N W t W.length b) (ht : t < W.length) : ∃ m : Nat, b = m ∧ m < W.length ∧ rankS N W m = t := by
  rcases h with ⟨_, h2⟩ | ⟨m, h1, h2, h3, h4⟩
  · obtain ⟨i, hi, e⟩ := rank_surj N W t ht
    have := h2 i hi
    omega
  · exact ⟨m, h1, h2, rank_next ht h2 h3 h4⟩

theorem part_split {n : Int} {W D : List Int} {t : Nat} (hn : 0 ≤ n) (h : PartAt n W D t) (ht : extraS n W = t) : D = splitS n W := by
  apply list_ext_ix
  · rw [h.1, splitS_length]
  · intro i hi
    rw [h.1] at hi
    rw [part_done h ht i hi, splitS_at n W i hi, sign_nonneg hn, Int.one_mul, Int.one_mul]

/-- The memory of foyerref01.Split. -/
structure BoxF (wr w : World) (D : List Int) (B : List Bool) : Prop where
  below : Below w.heap.size w wr
  out : IntRow wr w.heap.size 3 D
  done : BoolRow wr (w.heap.size + 1) 4 B

theorem BoolRow.grown {w w' : World} {g : Nat} {T : TypeId} {D : List Bool} (h : BoolRow w g T D) {g' : Nat} (hg : w.grownBy w' (some g')) (hne : g ≠ g') : BoolRow w' g T D :=
  h.of_heap (hg.block g h.lt (by simp; exact hne))

theorem BoxF.drewN {wr w : World} {D : List Int} {B : List Bool} (h : BoxF wr w D B) (q : Nat) : BoxF (wr.drewN q) w D B := ⟨below_drewN h.below q, h.out.drewN q, h.done.of_heap rfl⟩

theorem BoxF.put {wr w : World} {D : List Int} {B : List Bool} {b : Nat} (h : BoxF wr w D B) (h1 : b < D.length) (h2 : b < B.length) (x : Int) :
    BoxF ((wr.setCell ⟨w.heap.size + 1, b, none⟩ (.bool true)).setCell ⟨w.heap.size, b, none⟩ (.int .i64 x)) w (D.set b x) (B.set b true) := by
  have g1 := grown_setCell wr (w.heap.size + 1) b (.bool true)
  have g2 := grown_setCell (wr.setCell ⟨w.heap.size + 1, b, none⟩ (.bool true)) w.heap.size b (.int .i64 x)
  exact ⟨(h.below.setCell (by simp) _).setCell (by simp) _, (h.out.grown g1 (by omega)).set b h1 x, (h.done.set b h2 true).grown g2 (by omega)⟩

set_option maxRecDepth 10000 in
set_option maxHeartbeats 6400000 in
theorem rsplit_pos (n : Int) (ra : Option Addr) (k c : Nat) (W : List Int) (w : World) (hn : 0 ≤ n) (hk : k ≤ 100) (hW : Ints w ra k W) :
    Calls Tryd.prog 42 #[.int .i64 n, .slice ra k c] w (SplitPost n W w) := by
  have HW := Lib.hid hW
  have hlen : W.length = k := hW.1
  have HL := Lib.hid hlen
  have hwq : splitB n W = (amtB n && wgtB W) := by unfold splitB; rw [wgt_eq, Bool.and_assoc]
  obtain ⟨b1, h1⟩ : ∃ b, amtB n = b := ⟨_, rfl⟩
  obtain ⟨b2, h2⟩ : ∃ b, wgtB W = b := ⟨_, rfl⟩
  rw [h1, h2] at hwq
  have H1 := Lib.hid h1
  have H2 := Lib.hid h2
  have HQ := Lib.hid hwq
  clear hW hlen h1 h2 hwq
  go_enter Tryd.func42, Tryd.ntmps42
  cases b1
  · have HNO : Hid (splitB n W = false) := HQ.out
    go_wp2_with fail
    refine (rvalid_any n w).mono ?_
    rintro e w' ⟨rfl, rfl⟩
    rw [H1.out]
    go_wp2_with fail
    go_ret2
    exact ⟨Below.refl _ _, .inl ⟨HNO.out, rfl⟩⟩
  have HWG := Lib.hid (weights_any ra k c W w (by omega) HW.out)
  go_wp2_with fail
  refine (rvalid_any n w).mono ?_
  rintro e w' ⟨rfl, rfl⟩
  rw [H1.out]
  go_wp2_with fail
  refine HWG.out.mono ?_
  rintro e w' ⟨rfl, rfl⟩
  rw [H2.out]
  clear HWG
  cases b2
  · have HNO : Hid (splitB n W = false) := HQ.out
    go_wp2_with fail
    go_ret2
    exact ⟨Below.refl _ _, .inl ⟨HNO.out, rfl⟩⟩
  have HYES : Hid (splitB n W = true) := HQ.out
  have hsp : amtB n = true ∧ (W.all fun x => !badB x) = true ∧ allW W ≠ 0 := by
    have := HYES.out
    unfold splitB at this
    simpa [and_assoc] using this
  have hin : ∀ i, i < W.length → 0 ≤ ix W i ∧ ix W i ≤ 1000000000 := fun i hi => (bad_iff _).1 (by have := (all_ix _ W).mp hsp.2.1 i hi; simpa using this)
  have hNM := nums_of (n := n) hsp.1 hin hsp.2.2 (by rw [HL.out]; exact hk)
  rw [sign_nonneg hn, Int.one_mul] at hNM
  have HNM := Lib.hid hNM
  have hhi := hNM.hi
  clear hNM hin hsp HQ H1 H2
  go_upto_region 10 with fail
  clear hhi
  go_wp2_with fail
  go_loop [9, 10] (fun v9 v10 => ∃ (i : Nat) (s : Int), v10 = .int .i64 i ∧ v9 = .int .i64 s ∧ i ≤ k ∧ -1000000000 * (i : Int) ≤ s ∧ s ≤ 1000000000 * (i : Int) ∧ Hid (sumN (ix W) i = s)) (fun _ v10 => k - (intOf v10).toNat)
  case atStart => exact ⟨0, 0, rfl, rfl, Nat.zero_le _, by omega, by omega, rfl⟩
  case round =>
    obtain ⟨i, s, rfl, rfl, hi, hs1, hs2, HS⟩ := hrel
    by_cases hlt : i < k
    · obtain ⟨b, o, rfl, c1⟩ := HW.out.2 i hlt
      have hb := HNM.out.each i (by rw [HL.out]; exact hlt)
      have HS2 : Hid (sumN (ix W) (i + 1) = s + ix W i) := by show _ = _; rw [sumN, HS.out]
      obtain ⟨x, hx⟩ : ∃ z, ix W i = z := ⟨_, rfl⟩
      rw [hx] at c1 hb HS2
      clear hx HS
      go_wp2_with fail
      go_round
      case rel => exact ⟨i + 1, s + x, by go_num, rfl, by omega, by omega, by omega, HS2⟩
      case measure => simp [intOf]; omega
    · obtain rfl : k = i := by omega
      have HAL : Hid (allW W = s) := by show _ = _; unfold allW; rw [HL.out, HS.out]
      have hpos : 0 < s := by rw [← HAL.out]; exact HNM.out.pos
      clear HS hs1 hs2
      obtain ⟨arr, hs, hz, hmk⟩ := make_ints k (by omega)
      have HROW := Lib.hid (IntRow.made (w := w) (T := 3) (g := w.heap.size) rfl hs hz)
      have HB1 : Hid (Below w.heap.size w (w.alloc (.cells arr 3))) := Joins.below_alloc1 _ _
      have hsz : (w.alloc (.cells arr 3)).heap.size = w.heap.size + 1 := by simp
      have HSZ := Lib.hid hsz
      clear hs hz hsz
      go_upto_region 17 with fail
      generalize w.alloc (.cells arr 3) = w1 at *
      clear hmk
      go_wp2_with fail
      obtain ⟨wo, rfl⟩ : ∃ wo : World, wo = w1 := ⟨_, rfl⟩
      go_loopw [12, 13] (fun v12 v13 wr => ∃ (i : Nat) (D : List Int) (l : Int), v13 = .int .i64 i ∧ v12 = .int .i64 l ∧ i ≤ k ∧ -1000000000 * (i : Int) ≤ l ∧ l ≤ 1000000000 ∧ Hid (n - sumN (baseS n W) i = l) ∧ Hid (D.length = k ∧ ∀ j, j < i → ix D j = baseS n W j) ∧
          Hid (Below w.heap.size w wr ∧ IntRow wr w.heap.size 3 D ∧ wr.heap.size = w.heap.size + 1)) (fun _ v13 _ => k - (intOf v13).toNat)
      case atStart =>
        have hhi := HNM.out.hi
        exact ⟨0, _, n, rfl, rfl, Nat.zero_le _, by omega, by omega, by simp [Hid, sumN], ⟨List.length_replicate, fun j hj => absurd hj (by omega)⟩, HB1.out, HROW.out, HSZ.out⟩
      case round =>
        clear HB1 HROW HSZ
        obtain ⟨i, D, l, rfl, rfl, hi, hl1, hl2, HLF, HD, HM⟩ := hrel
        by_cases hlt : i < k
        · have hiW : i < W.length := by rw [HL.out]; exact hlt
          have hiD : i < D.length := by rw [HD.out.1]; exact hlt
          obtain ⟨b, o, hra, c1⟩ := (HW.out.below HM.out.1).2 i hlt
          subst hra
          have x0 := HM.out.2.1.cell i hiD
          have xf := HM.out.2.1.free i
          have hp := HNM.out.prod i hiW
          have hq := (HNM.out.rest i hiW).2.1
          have hbb := nums_base HNM.out i hiW
          have HLN : Hid (∀ z, baseS n W i = z → n - sumN (baseS n W) (i + 1) = l - z) := fun z hz => by rw [sumN, ← HLF.out, hz]; omega
          have HDN : Hid (∀ z, baseS n W i = z → (D.set i z).length = k ∧ ∀ j, j < i + 1 → ix (D.set i z) j = baseS n W j) := fun z hz => ⟨by rw [List.length_set]; exact HD.out.1, fun j hj => by
            rw [ix_set _ _ _ _ hiD]
            by_cases h : i = j
            · rw [if_pos h, ← h, hz]
            · rw [if_neg h]; exact HD.out.2 j (by omega)⟩
          have HMN : Hid (∀ z : Int, Below w.heap.size w (wr.setCell ⟨w.heap.size, i, none⟩ (.int .i64 z)) ∧ IntRow (wr.setCell ⟨w.heap.size, i, none⟩ (.int .i64 z)) w.heap.size 3 (D.set i z) ∧ (wr.setCell ⟨w.heap.size, i, none⟩ (.int .i64 z)).heap.size = w.heap.size + 1) := fun z =>
            ⟨HM.out.1.setCell (by simp) _, HM.out.2.1.set i hiD z, by rw [World.size_setCell]; exact HM.out.2.2⟩
          obtain ⟨W1, hW1⟩ : ∃ z, ix W i = z := ⟨_, rfl⟩
          rw [hW1] at c1 hp hq
          obtain ⟨y, hy⟩ : ∃ z, n * W1 = z := ⟨_, rfl⟩
          rw [hy] at hp hq
          rw [HAL.out] at hq
          obtain ⟨t, ht⟩ : ∃ z, baseS n W i = z := ⟨_, rfl⟩
          rw [ht] at hq hbb
          have HLN2 := Lib.hid (HLN.out t ht)
          have HDN2 := Lib.hid (HDN.out t ht)
          have HMN2 := Lib.hid (HMN.out t)
          have w1' : IntKind.i64.wrap y = y := i64_in _ (by omega)
          have w3' : IntKind.i64.wrap t = t := i64_in _ (by omega)
          clear HLN HDN HMN ht hW1 HLF HD HM hiD hiW hp
          go_wp2_with fail
          go_roundw
          case rel => exact ⟨i + 1, _, l - t, by go_num, rfl, by omega, by omega, by omega, HLN2, HDN2, HMN2⟩
          case measure => simp [intOf]; omega
        · obtain rfl : k = i := by omega
          have hxr := nums_extra HNM.out
          obtain ⟨x, hx⟩ : ∃ x : Nat, extraS n W = x := ⟨(extraS n W).toNat, by omega⟩
          have HX := Lib.hid hx
          rw [hx, HL.out] at hxr
          have hxk : x ≤ k := by omega
          have hlx : l = x := by rw [← HLF.out, ← hx]; unfold extraS; rw [HL.out]
          have HPA : Hid (PartAt n W D 0) := ⟨by rw [HL.out]; exact HD.out.1, fun j hj => by rw [HD.out.2 j (by rw [← HL.out]; exact hj), if_neg (by omega)]; omega⟩
          subst hlx
          obtain ⟨brr, hs, hz, hmk⟩ := make_bools k (by omega)
          have HBF : Hid (BoxF (wr.alloc (.cells brr 4)) w D (List.replicate k false)) :=
            have hb : Below wr.heap.size wr (wr.alloc (.cells brr 4)) := Joins.below_alloc1 _ _
            ⟨HM.out.1.trans (hb.mono HM.out.1.size), HM.out.2.1.below hb, BoolRow.made (by rw [HM.out.2.2]) hs hz⟩
          have HDA : Hid (DoneAt n W (List.replicate k false) 0) := ⟨by rw [List.length_replicate, HL.out], fun j hj => by rw [HL.out] at hj; simp [bx, List.getD_eq_getElem?_getD, hj]⟩
          have HSZ := Lib.hid HM.out.2.2
          clear hs hz HLF HD hxr hx hl1 hl2
          have hsz := HSZ.out
          go_upto_region 23 with fail
          generalize wr.alloc (.cells brr 4) = w5 at *
          clear hmk hsz HSZ HM
          obtain ⟨wo, rfl⟩ : ∃ wo : World, wo = wr := ⟨_, rfl⟩
          go_loopw [12] (fun v12 wr => ∃ (l t : Nat) (D : List Int) (B : List Bool), v12 = .int .i64 l ∧ l ≤ x ∧ Hid (l + t = x) ∧ Hid (PartAt n W D t) ∧ Hid (DoneAt n W B t) ∧ Hid (BoxF wr w D B)) (fun v12 _ => (intOf v12).toNat)
          case atStart => exact ⟨x, 0, D, _, rfl, Nat.le_refl _, rfl, HPA, HDA, HBF⟩
          case round =>
            clear HPA HDA HBF
            obtain ⟨l, t, D, B, rfl, hl, HLT, HP, HDN, HF⟩ := hrel
            by_cases hlt : 0 < l
            · have ht : t < k := by have := HLT.out; omega
              have HT := Lib.hid ht
              clear ht
              obtain ⟨wi, rfl⟩ : ∃ wi : World, wi = wr := ⟨_, rfl⟩
              go_wp2_with fail
              go_loopw [15, 16] (fun v15 v16 wr => ∃ (i : Nat) (b : Int), v16 = .int .i64 i ∧ v15 = .int .i64 b ∧ i ≤ k ∧ Hid (BestAt n W t i b) ∧ Hid (BoxF wr w D B)) (fun _ v16 _ => k - (intOf v16).toNat)
              case atStart => exact ⟨0, -1, rfl, rfl, Nat.zero_le _, .inl ⟨rfl, fun j hj => absurd hj (by omega)⟩, HF⟩
              case round =>
                clear HF
                obtain ⟨i, b, rfl, rfl, hi, HBA, HF⟩ := hrel
                by_cases hik : i < k
                · have hiW : i < W.length := by rw [HL.out]; exact hik
                  obtain ⟨bo, oo, hra, c1⟩ := (HW.out.below HF.out.below).2 i hik
                  subst hra
                  have x0 := HF.out.done.cell i (by rw [HDN.out.1]; exact hiW)
                  rw [HDN.out.2 i hiW] at x0
                  by_cases hrk : rankS n W i < t
                  · rw [decide_eq_true hrk] at x0
                    have HNX := Lib.hid (best_old HBA.out hrk)
                    clear hrk hiW c1
                    go_wp2_with fail
                    go_quiet (fail)
                    go_wp2_with fail
                    go_roundw
                    case rel => exact ⟨i + 1, b, by go_num, rfl, by omega, HNX, HF.out.drewN _⟩
                    case measure => simp [intOf]; omega
                  · rw [decide_eq_false hrk] at x0
                    have hrk2 : t ≤ rankS n W i := by omega
                    have HRK := Lib.hid hrk2
                    clear hrk hrk2
                    rcases best_cases HBA.out with rfl | ⟨m, rfl, hm⟩
                    · have HNX := Lib.hid (best_first HBA.out HRK.out)
                      clear hiW c1
                      go_wp2_with fail
                      go_quiet (fail)
                      go_wp2_with fail
                      go_roundw
                      case rel => exact ⟨i + 1, i, by go_num, rfl, by omega, HNX, HF.out.drewN _⟩
                      case measure => simp [intOf]; omega
                    · have hmk : m < k := by omega
                      have hmW : m < W.length := by omega
                      obtain ⟨b2, o2, hra2, c2⟩ := (HW.out.below HF.out.below).2 m hmk
                      obtain ⟨rfl, rfl⟩ : bo = b2 ∧ oo = o2 := by simpa using hra2
                      clear hra2
                      have e0 : decide ((m : Int) < 0) = false := by simp
                      have hp1 := HNM.out.prod i hiW
                      have hp2 := HNM.out.prod m hmW
                      have hq1 := (HNM.out.rest i hiW).1
                      have hq2 := (HNM.out.rest m hmW).1
                      have hr1 := (HNM.out.rest i hiW).2.2
                      have hr2 := (HNM.out.rest m hmW).2.2
                      have hal := HNM.out.all_le
                      rw [HAL.out] at hq1 hq2 hr1 hr2 hal
                      have HNEW : Hid (restS n W m < restS n W i → BestAt n W t (i + 1) i) := fun h => best_new HBA.out HRK.out h
                      have HKEEP : Hid (¬ restS n W m < restS n W i → BestAt n W t (i + 1) m) := fun h => best_keep HBA.out h
                      obtain ⟨Wi, hWi⟩ : ∃ z, ix W i = z := ⟨_, rfl⟩
                      obtain ⟨Wm, hWm⟩ : ∃ z, ix W m = z := ⟨_, rfl⟩
                      rw [hWi] at c1 hp1 hq1
                      rw [hWm] at c2 hp2 hq2
                      obtain ⟨yi, hyi⟩ : ∃ z, n * Wi = z := ⟨_, rfl⟩
                      obtain ⟨ym, hym⟩ : ∃ z, n * Wm = z := ⟨_, rfl⟩
                      rw [hyi] at hp1 hq1
                      rw [hym] at hp2 hq2
                      obtain ⟨ri, hri⟩ : ∃ z, restS n W i = z := ⟨_, rfl⟩
                      obtain ⟨rm, hrm⟩ : ∃ z, restS n W m = z := ⟨_, rfl⟩
                      rw [hri] at hq1 hr1 HNEW HKEEP
                      rw [hrm] at hq2 hr2 HNEW HKEEP
                      have w1' : IntKind.i64.wrap yi = yi := i64_in _ (by omega)
                      have w2' : IntKind.i64.wrap ym = ym := i64_in _ (by omega)
                      have w3' : IntKind.i64.wrap ri = ri := i64_in _ (by omega)
                      have w4' : IntKind.i64.wrap rm = rm := i64_in _ (by omega)
                      have w5' : (s == 0) = false := by simp; omega
                      clear hWi hWm hri hrm hiW hmW hp1 hp2 hr1 hr2 hal
                      by_cases hg : rm < ri
                      · have e1 : decide (rm < ri) = true := by simp; exact hg
                        have HNX := Lib.hid (HNEW.out hg)
                        clear HNEW HKEEP HBA
                        go_wp2_with fail
                        go_quiet (fail)
                        go_wp2_with fail
                        go_roundw
                        case rel => exact ⟨i + 1, i, by go_num, rfl, by omega, HNX, HF.out.drewN _⟩
                        case measure => simp [intOf]; omega
                      · have e1 : decide (rm < ri) = false := by simp; omega
                        have HNX := Lib.hid (HKEEP.out hg)
                        clear HNEW HKEEP HBA
                        go_wp2_with fail
                        go_quiet (fail)
                        go_wp2_with fail
                        go_roundw
                        case rel => exact ⟨i + 1, m, by go_num, rfl, by omega, HNX, HF.out.drewN _⟩
                        case measure => simp [intOf]; omega
                · have hik2 : i = W.length := by rw [HL.out]; omega
                  have hbd := HBA.out
                  rw [hik2] at hbd
                  obtain ⟨m, rfl, hm, hr⟩ := best_done hbd (by rw [HL.out]; exact HT.out)
                  have hmD : m < D.length := by rw [HP.out.1]; exact hm
                  have hmB : m < B.length := by rw [HDN.out.1]; exact hm
                  have HNP := Lib.hid (part_step2 HP.out hm hr)
                  have HND := Lib.hid (done_step HDN.out hm hr)
                  have HNF := Lib.hid (BoxF.put HF.out hmD hmB (ix D m + 1))
                  have x0 := HF.out.done.cell m hmB
                  have xf0 := HF.out.done.free m
                  have x1 := HF.out.out.cell m hmD
                  have xf1 := HF.out.out.free m
                  have hd : 0 ≤ ix D m ∧ ix D m ≤ 1000000001 := by
                    have := nums_base HNM.out m hm
                    rw [HP.out.2 m hm]
                    split <;> omega
                  obtain ⟨d, hdd⟩ : ∃ z, ix D m = z := ⟨_, rfl⟩
                  rw [hdd] at x1 hd HNP HNF
                  have hmk : m < k := by rw [← HL.out]; exact hm
                  have HLN : Hid (l - 1 + (t + 1) = x) := by have := HLT.out; show _ = _; omega
                  have HLC : Hid ((l : Int) - 1 = ((l - 1 : Nat) : Int)) := by show _ = _; omega
                  clear hdd hm hmD hmB hbd hik2 HBA HF HP HDN hr
                  go_wp2_with fail
                  go_roundw
                  case rel => exact ⟨l - 1, t + 1, _, _, by rw [HLC.out], by omega, HLN, HNP, HND, HNF⟩
                  case measure => simp [intOf]; omega
            · obtain rfl : l = 0 := by omega
              have hxt : t = x := by have := HLT.out; omega
              subst hxt
              have HFIN := Lib.hid (part_split hn HP.out HX.out)
              go_wp2_with fail
              go_ret2
              refine ⟨HF.out.below, .inr ⟨HYES.out, w.heap.size, by rw [HL.out]; rfl, Nat.le_refl _, ?_⟩⟩
              rw [← HFIN.out]; exact HF.out.out
end Go.Proofs.YtgpmhaeiccljaaaDoor
