/- ledger: LedgerReverses: the walk. -/
import Derived.Maps.AppendAt
import Derived.Test.YtafhdpalobalkaaLE5
namespace Go.Proofs.Ytafhdpalobalkaa
open Go.RowKit Go.IntWalk Go.Maps Go.ChangeMaps

theorem few_40 {Bs : List BookT} {N : Nat} (h : fewS Bs N = true) : Bs.length ≤ N ∧ ∀ i (hi : i < Bs.length), (Bs[i]).2.length ≤ 25 := by
  unfold fewS at h
  simp only [Bool.and_eq_true, List.all_eq_true, decide_eq_true_eq] at h
  exact ⟨h.1, fun i hi => h.2 _ (List.getElem_mem hi)⟩

theorem few_1 {id : Int} {l : List PostT} (h : fewS [(id, l)] 1 = true) : l.length ≤ 25 := (few_40 h).2 0 (by simp)

set_option maxRecDepth 10000 in
set_option maxHeartbeats 3200000 in
theorem reverses_any (ra : Option Addr) (n c : Nat) (Bs : List BookT) (idb : Int) (rb : Option Addr) (nb cb : Nat) (l : List PostT) (w : World) (hB : Books w ra n Bs) (hn : n ≤ 9223372036854775807) (hw : WfB Bs)
    (hnb : nb ≤ 9223372036854775807) (hP : Posts w rb nb l) (hwl : ∀ i, i < l.length → (pn l i).length ≤ maxLen ∧ (Lit.int .i64 (pk l i)).wf = true) :
    Calls Try.prog 7 #[.slice ra n c, .agg #[.int .i64 idb, .slice rb nb cb]] w fun e w' => e = .returned (.bool true) ∧ Below w.heap.size w w' := by
  have HB := Lib.hid hB
  have HW := Lib.hid hw
  have HPL := Lib.hid hP
  have HWL := Lib.hid hwl
  have hlen := hB.len
  have hll := hP.1
  obtain ⟨i1, hj, hj0, hj1, hj2⟩ := info_parts info_post
  have hal := Joins.below_alloc1 w (.cells #[.int .i64 idb, .slice rb nb cb] 34)
  have hnew := World.alloc_heap_new w (.cells #[.int .i64 idb, .slice rb nb cb] 34)
  obtain ⟨wa, hwa⟩ : ∃ wa, wa = w.alloc (.cells #[.int .i64 idb, .slice rb nb cb] 34) := ⟨_, rfl⟩
  rw [← hwa] at hal hnew
  have HA := Lib.hid hal
  have HX : Hid (Boxed2 wa w.heap.size (.int .i64 idb) (.slice rb nb cb) 34) := hnew
  clear hB hw hP hwl hal hnew
  go_enter Try.func7, Try.ntmps7
  go_upto_region 1 with fail
  rw [← hwa]
  clear hwa
  go_wp2_with fail
  refine (head_any wa).mono ?_
  rintro e w1 ⟨rfl, hb1⟩
  have HX1 := Lib.hid (HX.out.step hb1)
  have HB1 := Lib.hid (HA.out.trans (hb1.mono HA.out.size))
  have hs1 := HB1.out.size
  clear hb1 HX HA
  have x0 := HX1.out.c0
  have x1 := HX1.out.c1
  go_wp2_with fail
  change Calls Try.prog 9 _ _ _
  refine (few_any ra n c 40 Bs w1 (HB.out.below HB1.out) hn (by omega)).mono ?_
  rintro e w2 ⟨rfl, rfl⟩
  by_cases hf : fewS Bs 40 = true
  · rw [hf]
    have HF := Lib.hid (few_40 hf)
    clear hf
    go_wp2_with fail
    change Calls Try.prog 9 _ _ _
    have hal := Joins.below_alloc1 w1 (.cells #[.int .i64 idb, .slice rb nb cb] 34)
    have hnew := World.alloc_heap_new w1 (.cells #[.int .i64 idb, .slice rb nb cb] 34)
    have HX2 := Lib.hid (HX1.out.step hal)
    have HB2 := Lib.hid (HB1.out.trans (hal.mono hs1))
    refine (few_any (some ⟨w1.heap.size, 0, none⟩) 1 1 1 [(idb, l)] _ (books_one hnew (HPL.out.below HB2.out)) (by omega) (by omega)).mono ?_
    rintro e w2 ⟨rfl, hw2⟩
    rw [hw2] at HX2 HB2
    clear hw2 hal hnew x0 x1 HX1 HB1 hs1
    by_cases hf2 : fewS [(idb, l)] 1 = true
    · rw [hf2]
      have hl25 := few_1 hf2
      clear hf2
      have hs2 := HB2.out.size
      go_wp2_with fail
      change Calls Try.prog 10 _ _ _
      refine (new_any w2).mono ?_
      rintro e w3 ⟨g, rfl, hb3, hl3⟩
      have H3 := Lib.hid (OneSt.start hb3 hl3)
      clear hb3 hl3
      go_wp2_with fail
      have hn40 : n ≤ 40 := by have := HF.out.1; omega
      go_loopw [7] (fun v7 wr => ∃ i : Nat, v7 = .int .i64 i ∧ i ≤ n ∧ Hid (OneSt w2 wr g (runS (Bs.take i)))) (fun v7 _ => n - (intOf v7).toNat)
      case atStart => exact ⟨0, rfl, Nat.zero_le _, H3.out⟩
      case round =>
        obtain ⟨i, rfl, hi, H4⟩ := hrel
        clear H3
        by_cases hlt : i < n
        · have hib : i < Bs.length := by omega
          obtain ⟨b1, o1, pa1, pn1, pc1, e1, c0, c1, hp1⟩ := (HB.out.below (HB2.out.trans (H4.out.below.mono hs2))).at i hlt hib
          have hm1 := HF.out.2 i hib
          rw [hp1.1] at hm1
          have hlA : (runS (Bs.take i)).length < 100 := by
            have := runS_le (Bs.take i)
            rw [List.length_take] at this
            omega
          have HC1 : Hid (Calls Try.prog 12 #[.pointer (some ⟨g, 0, none⟩), .agg #[.int .i64 (Bs[i]).1, .slice pa1 pn1 pc1]] wr fun e w' => ∃ x, e = .returned (.int .i64 x) ∧ OneSt w2 w' g (runS (Bs.take (i + 1)))) := by
            refine (H4.out.book _ pa1 pn1 pc1 (Bs[i]).2 hlA (by omega) hp1 (HW.out _ (List.getElem_mem hib))).mono ?_
            rintro e w' ⟨rfl, h⟩
            rw [runS_take hib]
            exact ⟨_, rfl, h⟩
          clear hp1 hm1
          subst e1
          go_wp2_with fail
          refine HC1.out.mono ?_
          rintro e w5 ⟨x, rfl, h5⟩
          have H5 := Lib.hid h5
          clear h5 HC1 c0 c1
          go_wp2_with fail
          go_roundw
          case rel => exact ⟨i + 1, by go_num, by omega, H5⟩
          case measure => simp [intOf]; omega
        · have hi' : i = n := by omega
          subst hi'
          have hA : Bs.take i = Bs := List.take_of_length_le (by omega)
          rw [hA] at H4
          clear hA
          obtain ⟨As, hAs⟩ : ∃ As, As = runS Bs := ⟨_, rfl⟩
          rw [← hAs] at H4
          have hlA : As.length ≤ 40 := by
            rw [hAs]
            have := runS_le Bs
            omega
          clear hAs
          go_wp2_with fail
          change Calls Try.prog 15 _ _ _
          refine H4.out.was.mono ?_
          rintro e w5 ⟨la, k, c1, L, rfl, h5, hi5, hk5⟩
          have Z5 := Lib.hid h5
          have HI := Lib.hid hi5
          have HX5 := Lib.hid (HX2.out.step h5.below)
          have HOK := Lib.hid h5.ok
          clear h5 hi5 H4
          have x0 := HX5.out.c0
          have x1 := HX5.out.c1
          have HCB : Hid (Calls Try.prog 12 #[.pointer (some ⟨g, 0, none⟩), .agg #[.int .i64 idb, .slice rb nb cb]] w5 fun e w' => e = .returned (.int .i64 (bookE As (idb, l))) ∧ WasSt w2 w' g (bookS As (idb, l)) la k L) :=
            Z5.out.book idb rb nb cb l (by omega) hnb (HPL.out.below (HB2.out.trans (Z5.out.below.mono hs2))) HWL.out
          obtain ⟨er, her⟩ : ∃ er, er = bookE As (idb, l) := ⟨_, rfl⟩
          rw [← her] at HCB
          have HER := Lib.hid her
          clear her
          go_wp2_with fail
          refine HCB.out.mono ?_
          rintro e w6 ⟨rfl, h6⟩
          have Z6 := Lib.hid h6
          clear h6 HCB x0 x1
          by_cases h0 : er = 0
          · have HE0 : Hid (bookE As (idb, l) = 0) := HER.out.symm.trans h0
            have hst : bookS As (idb, l) = As ++ [(idb, l)] := by unfold bookS; rw [if_pos HE0.out]
            rw [hst] at Z6
            subst h0
            clear hst HER
            go_wp2_with fail
            change Calls Try.prog 20 _ _ _
            obtain ⟨S, hS, _⟩ := Z6.out.one.led
            obtain ⟨Cs, hCs⟩ : ∃ Cs, Cs = As ++ [(idb, l)] := ⟨_, rfl⟩
            have hlC : Cs.length ≤ 41 := by rw [hCs]; simp; omega
            rw [← hCs] at hS Z6
            have HCS := Lib.hid hCs
            clear hCs
            refine (bookings_any S g Cs w6 hS).mono ?_
            rintro e w7 ⟨lc, kc, c2, rfl, hb7, hB7⟩
            have Z7 := Lib.hid (Z6.out.step hb7)
            have HK := Lib.hid hB7
            have hkc := hB7.len
            clear hS Z6 hb7 hB7
            go_wp2_with fail
            go_loopw [9, 11, 12] (fun v9 v11 _ wr => ∃ (x : Int) (ag : Bool), v9 = .int .i64 x ∧ v11 = .bool ag ∧ 1 ≤ x ∧ x + cntGe Cs x ≤ 1 + Cs.length ∧ w7 = wr ∧ Hid (ag = false → ∀ i (hi : i < Cs.length), (Cs[i]).1 ≠ x)) (fun v9 v11 _ _ => newM Cs v9 v11)
            case atStart => exact ⟨1, true, rfl, rfl, by omega, by have := cntGe_le Cs 1; omega, rfl, fun h => by simp at h⟩
            case round =>
              obtain ⟨x, ag, rfl, rfl, hx1, hxc, rfl, HNO⟩ := hrel
              cases ag
              · have HID := Lib.hid (hasId_no (HNO.out rfl))
                clear HNO
                have hx42 : x ≤ 42 := by omega
                have HPW : Hid (∀ wx, Below w7.heap.size w7 wx → Posts wx rb nb l) := fun wx hx => (HPL.out.below (HB2.out.trans ((Z7.out.below.trans (hx.mono Z7.out.below.size)).mono hs2)))
                have HXW : Hid (∀ wx, Below w7.heap.size w7 wx → Boxed2 wx w.heap.size (.int .i64 idb) (.slice rb nb cb) 34) := fun wx hx => HX2.out.step (Z7.out.below.trans (hx.mono Z7.out.below.size))
                have HFM : Hid (formedS (idb, l) = true) := bookE_formed HE0.out
                go_upto_region 24 with fail
                have hal := Joins.below_alloc1 w7 (.cells #[.int .i64 x, .slice none 0 0] 34)
                have hnew := World.alloc_heap_new w7 (.cells #[.int .i64 x, .slice none 0 0] 34)
                have hsz : (w7.alloc (.cells #[.int .i64 x, .slice none 0 0] 34)).heap.size = w7.heap.size + 1 := by simp
                generalize w7.alloc (.cells #[.int .i64 x, .slice none 0 0] 34) = w8 at *
                have H8 := Lib.hid (And.intro hal hnew)
                clear hal hnew hsz
                go_wp2_with fail
                go_loopw [14, 15] (fun v14 _ wr => ∃ (j : Nat) (v : Value), v14 = .int .i64 j ∧ j ≤ nb ∧ Hid (Below w7.heap.size w7 wr) ∧ Hid (wr.heap[w7.heap.size]? = some (.cells #[.int .i64 x, v] 34 (0, 0))) ∧ Hid (wr.ownsRow (w7.heap.size + 1) 44 3 v j (flat PostE (negL (l.take j))))) (fun v14 _ _ => nb - (intOf v14).toNat)
                case atStart => exact ⟨0, .slice none 0 0, rfl, Nat.zero_le _, H8.out.1, H8.out.2, ⟨rfl, Or.inl ⟨rfl, rfl⟩⟩⟩
                case round =>
                  obtain ⟨j, v, rfl, hjn, HB9, HBX, HOW⟩ := hrel
                  clear H8
                  have hbx := HXW.out wr HB9.out
                  have x0 := hbx.c0
                  have x1 := hbx.c1
                  clear hbx
                  by_cases hjl : j < nb
                  · obtain ⟨b, o, rfl, p0, p1, p2⟩ := Posts.at (HPW.out wr HB9.out) j hjl
                    have hamt := formed_amt HFM.out (i := j) (by show j < l.length; omega)
                    dsimp only at hamt
                    have HNX : Hid (negL (l.take (j + 1)) = negL (l.take j) ++ [((pk l j, pn l j), -pa l j)]) := by
                      show _ = _
                      rw [List.take_succ_eq_append_getElem (by omega), post_eq l j (by omega)]
                      simp [negL]
                    generalize pk l j = kx at *
                    generalize pn l j = tx at *
                    generalize pa l j = ax at *
                    go_upto_region 28 with fail
                    have hal := Joins.below_alloc1 wr (.cells #[.int .i64 kx, .string (bs tx), .int .i64 ax] 44)
                    have hnew := World.alloc_heap_new wr (.cells #[.int .i64 kx, .string (bs tx), .int .i64 ax] 44)
                    have hsz2 : (wr.alloc (.cells #[.int .i64 kx, .string (bs tx), .int .i64 ax] 44)).heap.size = wr.heap.size + 1 := by simp
                    have HOW2 := Lib.hid (HOW.out.alloc (.cells #[.int .i64 kx, .string (bs tx), .int .i64 ax] 44))
                    have hgl := lt_of_block HBX.out
                    have HB10 := Lib.hid (HB9.out.trans (hal.mono HB9.out.size))
                    have HBX2 := Lib.hid ((hal.block _ hgl).trans HBX.out)
                    clear p0 p1 p2 x0 x1 hal HB9 HBX
                    generalize wr.alloc (.cells #[.int .i64 kx, .string (bs tx), .int .i64 ax] 44) = w10 at *
                    have q2 : w10.cell? ⟨wr.heap.size, 2, none⟩ = some (.int .i64 ax) := by rw [cell_of_row _ _ _ _ _ _ hnew]; rfl
                    have qf : w10.frozen? ⟨wr.heap.size, 2, none⟩ = false := by simp only [World.frozen?, hnew]; simp
                    have hq7 := HB10.out.size
                    have HN10 := Lib.hid hnew
                    clear hnew
                    go_upto_region 29 with fail
                    have hn11 : (w10.setCell ⟨wr.heap.size, 2, none⟩ (.int .i64 (-ax))).heap[wr.heap.size]? = some (.cells #[.int .i64 kx, .string (bs tx), .int .i64 (-ax)] 44 (0, 0)) := by
                      simp [World.setCell, Array.getElem?_modify, HN10.out]
                    have hfar : ∀ i, i ≠ wr.heap.size → (w10.setCell ⟨wr.heap.size, 2, none⟩ (.int .i64 (-ax))).heap[i]? = w10.heap[i]? := fun i hi => Below.heap_setCell _ _ _ _ hi
                    have hs11 : (w10.setCell ⟨wr.heap.size, 2, none⟩ (.int .i64 (-ax))).heap.size = w10.heap.size := by simp [World.setCell]
                    have HB11 : Hid (Below w7.heap.size w7 (w10.setCell ⟨wr.heap.size, 2, none⟩ (.int .i64 (-ax)))) := HB10.out.setCell (by show w7.heap.size ≤ wr.heap.size; omega) _
                    generalize w10.setCell ⟨wr.heap.size, 2, none⟩ (.int .i64 (-ax)) = w11 at *
                    have hgne : w7.heap.size ≠ wr.heap.size := by omega
                    have hbx11 := (hfar _ hgne).trans HBX2.out
                    have HOW3 := Lib.hid (row_of_heap HOW2.out (fun r hr => hfar r (by have := (HOW.out.lt r hr).2; omega)))
                    have hrow : Hid (∀ r, v.ownBlock = some r → w7.heap.size + 1 ≤ r) := fun r hr => (HOW.out.lt r hr).1
                    have z1 : w11.cell? ⟨w7.heap.size, 1, none⟩ = some v := by rw [cell_of_row _ _ _ _ _ _ hbx11]; rfl
                    have r0 : w11.cell? ⟨wr.heap.size, 0, none⟩ = some (.int .i64 kx) := by rw [cell_of_row _ _ _ _ _ _ hn11]; rfl
                    have r1 : w11.cell? ⟨wr.heap.size, 1, none⟩ = some (.string (bs tx)) := by rw [cell_of_row _ _ _ _ _ _ hn11]; rfl
                    have r2 : w11.cell? ⟨wr.heap.size, 2, none⟩ = some (.int .i64 (-ax)) := by rw [cell_of_row _ _ _ _ _ _ hn11]; rfl
                    have hg11 := lt_of_block hbx11
                    have HGB : Hid (∀ w12, (w11.alloc (.cells #[.int .i64 kx, .string (bs tx), .int .i64 (-ax)] 44)).grownBy w12 v.ownBlock → w12.heap[w7.heap.size]? = some (.cells #[.int .i64 x, v] 34 (0, 0))) := fun w12 hg =>
                      (hg.block _ (by simp; omega) (fun e => by have := hrow.out _ e.symm; omega)).trans (((Joins.below_alloc1 w11 (.cells #[.int .i64 kx, .string (bs tx), .int .i64 (-ax)] 44)).block _ hg11).trans hbx11)
                    have hj25 : j ≤ 25 := by omega
                    have hnegl : (negL (l.take j)).length = j := by rw [negL_len, List.length_take]; omega
                    have HNL := Lib.hid hnegl
                    clear hn11 hfar hbx11 HOW HOW2 HBX2 hnegl q2 qf HN10 hs11 hsz2
                    go_wp2_with (at_builtin; refine wpList_append_own _ rfl _ _ 32 rfl (w7.heap.size + 1) 44 i1 _ 3 32 Try.underlying32 hj hj0 hj1 hj2 rfl (by decide) _ _ _ rfl (HOW3.out.alloc _) ⟨w11.heap.size, 0, none⟩ 1 1 (PostE.cells ((kx, tx), -ax)) rfl rfl (post_new w11 ((kx, tx), -ax)) (PostE.one _) (by unfold maxLen; omega) (by omega) (by first | (simp; omega) | simp) ?_; skip)
                    intro v' w12 hown' hgrow _
                    rw [← flat_single, ← flat_append, ← HNX.out] at hown'
                    obtain ⟨lv, cv, rfl, _⟩ := OwnRecs.of_row hown'
                    have hb12 := HGB.out _ hgrow
                    have c12 : w12.cell? ⟨w7.heap.size, 1, none⟩ = some v := by
                      rw [cell_of_row _ _ _ _ _ _ hb12]
                      rfl
                    have f12 : w12.frozen? ⟨w7.heap.size, 1, none⟩ = false := by
                      simp only [World.frozen?, hb12]
                      simp
                    have HN := Lib.hid (And.intro hown' (And.intro hgrow hb12))
                    clear hown' hgrow hb12
                    go_wp2_with fail
                    go_roundw
                    case rel =>
                      refine ⟨j + 1, .slice lv (j + 1) cv, by go_num, by omega, ?_, ?_, ?_⟩
                      · exact ((HB11.out.alloc (by omega) _).grown HN.out.2.1 (by simp; omega) (fun q hq => by have := hrow.out q hq; omega)).setCell (Nat.le_refl _) _
                      · show (w12.setCell ⟨w7.heap.size, 1, none⟩ (.slice lv (j + 1) cv)).heap[w7.heap.size]? = _
                        simp [World.setCell, Array.getElem?_modify, HN.out.2.2]
                      · show (w12.setCell ⟨w7.heap.size, 1, none⟩ (.slice lv (j + 1) cv)).ownsRow _ _ _ _ _ _
                        exact ownsRow_setCell_below HN.out.1 (by show w7.heap.size < w7.heap.size + 1; omega) _
                    case measure => simp [intOf]; omega
                  · have hj' : j = nb := by omega
                    subst hj'
                    have ht : l.take j = l := List.take_of_length_le (by omega)
                    rw [ht] at HOW
                    clear ht
                    obtain ⟨lv, cv, rfl, hov⟩ := OwnRecs.of_row HOW.out
                    have y0 : wr.cell? ⟨w7.heap.size, 0, none⟩ = some (.int .i64 x) := by rw [cell_of_row _ _ _ _ _ _ HBX.out]; rfl
                    have y1 : wr.cell? ⟨w7.heap.size, 1, none⟩ = some (.slice lv j cv) := by rw [cell_of_row _ _ _ _ _ _ HBX.out]; rfl
                    have HBE : Hid (bookE Cs (x, negL l) = 0) := by
                      have h1 := HCS.out
                      have h2 := HID.out
                      show _ = _
                      rw [h1] at h2 ⊢
                      exact neg_book (b := (idb, l)) HOK.out HE0.out hx1 (by omega) h2
                    have HCB2 : Hid (Calls Try.prog 12 #[.pointer (some ⟨g, 0, none⟩), .agg #[.int .i64 x, .slice lv j cv]] wr fun e w' => e = .returned (.int .i64 0) ∧ WasSt w2 w' g (Cs ++ [(x, negL l)]) la k L) := by
                      refine ((Z7.out.step HB9.out).book x lv j cv (negL l) (by omega) (by omega) hov.recs (fun q hq => ?_)).mono ?_
                      · rw [negL_len] at hq
                        obtain ⟨e1, e2, _⟩ := neg_at l q hq
                        rw [e1, e2]
                        exact HWL.out q hq
                      · rintro e w' ⟨rfl, h⟩
                        have h3 : bookS Cs (x, negL l) = Cs ++ [(x, negL l)] := by unfold bookS; rw [if_pos HBE.out]
                        rw [h3] at h
                        exact ⟨by rw [HBE.out], h⟩
                    clear hov HOW HBX HBE HID
                    go_wp2_with fail
                    refine HCB2.out.mono ?_
                    rintro e w13 ⟨rfl, h13⟩
                    have Z13 := Lib.hid h13
                    clear h13 HCB2 x0 x1 y0 y1
                    go_wp2_with fail
                    change Calls Try.prog 15 _ _ _
                    obtain ⟨S, hS, _⟩ := Z13.out.one.led
                    refine (balances_any S g _ w13 hS hS.ok.wf).mono ?_
                    rintro e w14 ⟨lw, kw, cw, L2, rfl, hb14, ho14, hi14, hk14⟩
                    have hLL : L2 = L := by
                      have h1 := neg_bal As (idb, l) x
                      rw [HCS.out, h1] at hi14
                      exact hi14.unique HI.out
                    subst hLL
                    have Z14 := Lib.hid (Z13.out.step hb14)
                    have HP14 := Lib.hid ho14.recs
                    clear hb14 ho14 hi14 hS Z13
                    go_wp2_with fail
                    change Calls Try.prog 14 _ _ _
                    refine (same_any lw la kw cw k c1 L2 L2 w14 HP14.out Z14.out.posts (by omega) (by omega)).mono ?_
                    rintro e w15 ⟨rfl, hb15⟩
                    have Z15 := Lib.hid (Z14.out.step hb15)
                    clear hb15 Z14 HP14
                    have ht : decide (L2 = L2) = true := by simp
                    rw [ht]
                    go_wp2_with fail
                    change Calls Try.prog 20 _ _ _
                    obtain ⟨S, hS, _⟩ := Z15.out.one.led
                    refine (bookings_any S g _ w15 hS).mono ?_
                    rintro e w16 ⟨lz, kz, cz, rfl, hb16, hB16⟩
                    have hkz : kz = kc + 1 := by
                      have := hB16.len
                      rw [List.length_append] at this
                      simp only [List.length_cons, List.length_nil] at this
                      omega
                    subst hkz
                    have Z16 := Lib.hid (Z15.out.step hb16)
                    clear hb16 hB16 hS Z15
                    go_wp2_with fail
                    go_ret
                    exact ⟨by simp, HB2.out.trans (Z16.out.below.mono hs2)⟩
              · clear HNO
                go_wp2_with fail
                go_loopw [9, 11, 12] (fun v9 v11 v12 wr => ∃ (y : Int) (ag : Bool) (j : Nat), v9 = .int .i64 y ∧ v11 = .bool ag ∧ v12 = .int .i64 j ∧ j ≤ kc ∧ 1 ≤ y ∧ y + cntGe Cs y ≤ 1 + Cs.length ∧ w7 = wr ∧ Hid ((ag = false → y = x ∧ ∀ q (hq : q < Cs.length), q < j → (Cs[q]).1 ≠ x) ∧ (ag = true → cntGe Cs y < cntGe Cs x))) (fun _ _ v12 _ => kc - (intOf v12).toNat)
                case atStart => exact ⟨x, false, 0, rfl, rfl, rfl, Nat.zero_le _, hx1, hxc, rfl, fun _ => ⟨rfl, fun q _ hq => by omega⟩, fun h => by simp at h⟩
                case round =>
                  obtain ⟨y, ag, j, rfl, rfl, rfl, hjk, hy1, hyc, rfl, HAG⟩ := hrel
                  by_cases hlt2 : j < kc
                  · have hjc : j < Cs.length := by omega
                    obtain ⟨b, o, pb, pc, pd, rfl, c0, c1', _⟩ := HK.out.at j hlt2 hjc
                    obtain ⟨z, hz⟩ : ∃ z, z = (Cs[j]).1 := ⟨_, rfl⟩
                    rw [← hz] at c0
                    by_cases hzy : z = y
                    · subst hzy
                      have hnx := cntGe_next hjc
                      rw [← hz] at hnx
                      clear hz
                      have HAG2 : Hid (ag = true → cntGe Cs z < cntGe Cs x) := HAG.out.2
                      have HAG1 : Hid (ag = false → z = x) := fun h => (HAG.out.1 h).1
                      clear HAG
                      go_wp2_with fail
                      go_roundw
                      case rel => exact ⟨z + 1, true, j + 1, by go_num, rfl, by go_num, by omega, by omega, by omega, trivial, fun h => by simp at h, fun _ => by
                        cases ag
                        · rw [← HAG1.out rfl]; exact hnx
                        · have := HAG2.out rfl; omega⟩
                      case measure => simp [intOf]; omega
                    · have hz0 : (z == y) = false := by simp [hzy]
                      have HZX : Hid (ag = false → (Cs[j]).1 ≠ x) := fun h => by rw [← hz, ← (HAG.out.1 h).1]; exact hzy
                      clear hz hzy
                      go_wp2_with fail
                      go_roundw
                      case rel => exact ⟨y, ag, j + 1, rfl, rfl, by go_num, by omega, hy1, hyc, trivial, fun h => ⟨(HAG.out.1 h).1, fun q hq hqj => by
                        by_cases e : q = j
                        · subst e; exact HZX.out h
                        · exact (HAG.out.1 h).2 q hq (by omega)⟩, HAG.out.2⟩
                      case measure => simp [intOf]; omega
                  · have hj' : j = kc := by omega
                    subst hj'
                    go_wp2_with fail
                    go_roundw
                    case rel => exact ⟨y, ag, rfl, rfl, hy1, hyc, trivial, fun h q hq => by rw [(HAG.out.1 h).1]; exact (HAG.out.1 h).2 q hq (by omega)⟩
                    case measure =>
                      unfold newM
                      cases ag
                      · simp [boolOf]
                      · have := HAG.out.2 rfl
                        simpa [boolOf, intOf] using this
          · have hz : (er == 0) = false := by simp [h0]
            go_wp2_with fail
            go_ret
            exact ⟨rfl, HB2.out.trans (Z6.out.below.mono hs2)⟩
    · have hf0 : fewS [(idb, l)] 1 = false := by simpa using hf2
      rw [hf0]
      go_wp2_with fail
      go_ret
      exact ⟨rfl, HB2.out⟩
  · have hf0 : fewS Bs 40 = false := by simpa using hf
    rw [hf0]
    go_wp2_with fail
    go_ret
    exact ⟨rfl, HB1.out⟩
end Go.Proofs.Ytafhdpalobalkaa
