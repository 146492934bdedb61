/- ledger: LedgerAtomic: the walk. -/
import Derived.Deep.RegionHeld3
import Derived.Test.YtafhdpalobalkaaLE7
import Derived.Test.YtafhdpalobalkaaLE9
namespace Go.Proofs.Ytafhdpalobalkaa
open Go.RowKit Go.IntWalk Go.Maps Go.ChangeMaps

set_option maxRecDepth 10000 in
set_option maxHeartbeats 12800000 in
theorem atomic_any (ra : Option Addr) (n c : Nat) (Bs : List BookT) (idb : Int) (rb : Option Addr) (nb cb : Nat) (l : List PostT) (w : World) (hB : Books w ra n Bs) (hn : n ≤ 9223372036854775807) (hw : WfB Bs)
    (hnb : nb ≤ 9223372036854775807) (hP : Posts w rb nb l) (hwl : ∀ i, i < l.length → (pn l i).length ≤ maxLen ∧ (Lit.int .i64 (pk l i)).wf = true) :
    Calls Try.prog 5 #[.slice ra n c, .agg #[.int .i64 idb, .slice rb nb cb]] w fun e w' => e = .returned (.bool true) ∧ Below w.heap.size w w' := by
  have HB := Lib.hid hB
  have HW := Lib.hid hw
  have HPL := Lib.hid hP
  have HWL := Lib.hid hwl
  have hlen := hB.len
  have hll := hP.1
  obtain ⟨i1, hj, hj0, hj1, hj2⟩ := info_parts info_post
  have hal := Joins.below_alloc1 w (.cells #[.int .i64 idb, .slice rb nb cb] 34)
  have hnew := World.alloc_heap_new w (.cells #[.int .i64 idb, .slice rb nb cb] 34)
  obtain ⟨wa, hwa⟩ : ∃ wa, wa = w.alloc (.cells #[.int .i64 idb, .slice rb nb cb] 34) := ⟨_, rfl⟩
  rw [← hwa] at hal hnew
  have HA := Lib.hid hal
  have HX : Hid (Boxed2 wa w.heap.size (.int .i64 idb) (.slice rb nb cb) 34) := hnew
  clear hB hw hP hwl hal hnew
  go_enter Try.func5, Try.ntmps5
  go_upto_region 1 with fail
  rw [← hwa]
  clear hwa
  go_wp2_with fail
  refine (head_any wa).mono ?_
  rintro e w1 ⟨rfl, hb1⟩
  have HX1 := Lib.hid (HX.out.step hb1)
  have HB1 := Lib.hid (HA.out.trans (hb1.mono HA.out.size))
  have hs1 := HB1.out.size
  clear hb1 HX HA
  have x0 := HX1.out.c0
  have x1 := HX1.out.c1
  go_wp2_with fail
  change Calls Try.prog 9 _ _ _
  refine (few_any ra n c 40 Bs w1 (HB.out.below HB1.out) hn (by omega)).mono ?_
  rintro e w2 ⟨rfl, rfl⟩
  by_cases hf : fewS Bs 40 = true
  · rw [hf]
    have HF := Lib.hid (few_40 hf)
    clear hf
    go_wp2_with fail
    change Calls Try.prog 9 _ _ _
    have hal := Joins.below_alloc1 w1 (.cells #[.int .i64 idb, .slice rb nb cb] 34)
    have hnew := World.alloc_heap_new w1 (.cells #[.int .i64 idb, .slice rb nb cb] 34)
    have HX2 := Lib.hid (HX1.out.step hal)
    have HB2 := Lib.hid (HB1.out.trans (hal.mono hs1))
    refine (few_any (some ⟨w1.heap.size, 0, none⟩) 1 1 1 [(idb, l)] _ (books_one hnew (HPL.out.below HB2.out)) (by omega) (by omega)).mono ?_
    rintro e w2 ⟨rfl, hw2⟩
    rw [hw2] at HX2 HB2
    clear hw2 hal hnew x0 x1 HX1 HB1 hs1
    by_cases hf2 : fewS [(idb, l)] 1 = true
    · rw [hf2]
      have hl25 := few_1 hf2
      clear hf2
      have hs2 := HB2.out.size
      go_wp2_with fail
      change Calls Try.prog 10 _ _ _
      refine (new_any w2).mono ?_
      rintro e w3 ⟨g, rfl, hb3, hl3⟩
      have H3 := Lib.hid (OneSt.start hb3 hl3)
      clear hb3 hl3
      go_wp2_with fail
      have hn40 : n ≤ 40 := by have := HF.out.1; omega
      go_loopw [7] (fun v7 wr => ∃ i : Nat, v7 = .int .i64 i ∧ i ≤ n ∧ Hid (OneSt w2 wr g (runS (Bs.take i)))) (fun v7 _ => n - (intOf v7).toNat)
      case atStart => exact ⟨0, rfl, Nat.zero_le _, H3.out⟩
      case round =>
        obtain ⟨i, rfl, hi, H4⟩ := hrel
        clear H3
        by_cases hlt : i < n
        · have hib : i < Bs.length := by omega
          obtain ⟨b1, o1, pa1, pn1, pc1, e1, c0, c1, hp1⟩ := (HB.out.below (HB2.out.trans (H4.out.below.mono hs2))).at i hlt hib
          have hm1 := HF.out.2 i hib
          rw [hp1.1] at hm1
          have hlA : (runS (Bs.take i)).length < 100 := by
            have := runS_le (Bs.take i)
            rw [List.length_take] at this
            omega
          have HC1 : Hid (Calls Try.prog 12 #[.pointer (some ⟨g, 0, none⟩), .agg #[.int .i64 (Bs[i]).1, .slice pa1 pn1 pc1]] wr fun e w' => ∃ x, e = .returned (.int .i64 x) ∧ OneSt w2 w' g (runS (Bs.take (i + 1)))) := by
            refine (H4.out.book _ pa1 pn1 pc1 (Bs[i]).2 hlA (by omega) hp1 (HW.out _ (List.getElem_mem hib))).mono ?_
            rintro e w' ⟨rfl, h⟩
            rw [runS_take hib]
            exact ⟨_, rfl, h⟩
          clear hp1 hm1
          subst e1
          go_wp2_with fail
          refine HC1.out.mono ?_
          rintro e w5 ⟨x, rfl, h5⟩
          have H5 := Lib.hid h5
          clear h5 HC1 c0 c1
          go_wp2_with fail
          go_roundw
          case rel => exact ⟨i + 1, by go_num, by omega, H5⟩
          case measure => simp [intOf]; omega
        · have hi' : i = n := by omega
          subst hi'
          have hA : Bs.take i = Bs := List.take_of_length_le (by omega)
          rw [hA] at H4
          clear hA
          obtain ⟨As, hAs⟩ : ∃ As, As = runS Bs := ⟨_, rfl⟩
          rw [← hAs] at H4
          have hlA : As.length ≤ 40 := by
            rw [hAs]
            have := runS_le Bs
            omega
          clear hAs
          go_wp2_with fail
          change Calls Try.prog 15 _ _ _
          refine H4.out.wasR.mono ?_
          rintro e w5 ⟨la, k, c1, L, rs, rfl, h5, hi5, hk5⟩
          have HI := Lib.hid hi5
          have H5 := Lib.hid h5
          clear h5 hi5 H4
          go_wp2_with fail
          change Calls Try.prog 20 _ _ _
          refine H5.out.all.mono ?_
          rintro e w6 ⟨lb, m, c2, rfl, h6⟩
          have Z6 := Lib.hid h6
          have HX6 := Lib.hid (HX2.out.step h6.below)
          have hmA := h6.books.len
          have HOK := Lib.hid h6.one.ok
          clear h6 H5
          go_wp2_with fail
          obtain ⟨wo, rfl⟩ : ∃ wo : World, wo = wr := ⟨wr, rfl⟩
          go_loopw [10, 11] (fun v10 v11 wr => ∃ j : Nat, v10 = .bool (hasId (As.take j) idb) ∧ v11 = .int .i64 j ∧ j ≤ m ∧ Hid (∃ q, wr = w6.drewN q)) (fun _ v11 _ => m - (intOf v11).toNat)
          case atStart => exact ⟨0, rfl, rfl, Nat.zero_le _, ⟨0, rfl⟩⟩
          case round =>
            obtain ⟨j, rfl, rfl, hj, HQ⟩ := hrel
            by_cases hjm : j < m
            · have hjA : j < As.length := by omega
              obtain ⟨b1, o1, pa1, pn1, pc1, rfl, c0, c1', _⟩ := (books_q Z6.out.books HQ.out).at j hjm hjA
              have x0 := (HX6.out.step (below_q HQ.out)).c0
              have HT := Lib.hid (hasId_take hjA idb)
              obtain ⟨z, hz⟩ : ∃ z, z = (As[j]).1 := ⟨_, rfl⟩
              rw [← hz] at c0 HT
              clear hz
              obtain ⟨t, ht⟩ : ∃ t, t = hasId (As.take j) idb := ⟨_, rfl⟩
              rw [← ht] at HT ⊢
              clear ht
              cases t
              · obtain ⟨u, hu⟩ : ∃ u, u = decide (z = idb) := ⟨_, rfl⟩
                rw [← hu] at HT
                have hu2 : (z == idb) = u := by rw [hu]; rfl
                clear hu
                go_upto_region 14 with fail
                go_quiet (fail)
                go_wp2_with fail
                go_roundw
                case rel => exact ⟨j + 1, by rw [HT.out]; rfl, by go_num, by omega, quiet_more HQ.out _⟩
                case measure => simp [intOf]; omega
              · go_upto_region 14 with fail
                go_quiet (fail)
                go_wp2_with fail
                go_roundw
                case rel => exact ⟨j + 1, by rw [HT.out]; rfl, by go_num, by omega, quiet_more HQ.out _⟩
                case measure => simp [intOf]; omega
            · have hj' : j = m := by omega
              subst hj'
              have htk : As.take j = As := List.take_of_length_le (by omega)
              rw [htk]
              have Z7 := Lib.hid (Z6.out.step (below_q HQ.out))
              have HX7 := Lib.hid (HX6.out.step (below_q HQ.out))
              clear htk Z6 HX6 HQ
              have HWHY := Lib.hid (bookE_why As (idb, l))
              obtain ⟨t, ht⟩ : ∃ t, t = hasId As idb := ⟨_, rfl⟩
              obtain ⟨f, hf⟩ : ∃ f, f = formedS (idb, l) := ⟨_, rfl⟩
              obtain ⟨T, hT⟩ : ∃ T, T = totW l l.length := ⟨_, rfl⟩
              obtain ⟨er, her⟩ : ∃ er, er = bookE As (idb, l) := ⟨_, rfl⟩
              have HBS0 : Hid (er ≠ 0 → bookS As (idb, l) = As) := fun h => by unfold bookS; rw [if_neg (by rw [← her]; exact h)]
              have HBS1 : Hid (er = 0 → bookS As (idb, l) = As ++ [(idb, l)]) := fun h => by unfold bookS; rw [if_pos (by rw [← her]; exact h)]
              have HFM : Hid (er = 0 → bookE As (idb, l) = 0) := fun h => by rw [← her]; exact h
              have HFO : Hid (∀ wx, Below wr.heap.size wr wx → Calls Try.prog 24 #[.agg #[.int .i64 idb, .slice rb nb cb]] wx fun e w' => e = .returned (.bool f) ∧ Below wr.heap.size wr w') := fun wx hx => by
                rw [hf]
                refine (rformed_any idb rb nb cb l wx hnb (HPL.out.below (HB2.out.trans ((Z7.out.below.trans (hx.mono Z7.out.below.size)).mono hs2))) (fun i hi => by have := (HWL.out i (by omega)).1; unfold maxLen at this; omega)).mono ?_
                rintro e w' ⟨rfl, hb⟩
                exact ⟨rfl, hx.trans (hb.mono hx.size)⟩
              have HTO : Hid (∀ wx, Below wr.heap.size wr wx → Calls Try.prog 25 #[.slice rb nb cb] wx fun e w' => e = .returned (.int .i64 T) ∧ Below wr.heap.size wr w') := fun wx hx => by
                rw [hT, hll]
                refine (rtotal_any rb nb cb l wx hnb (HPL.out.below (HB2.out.trans ((Z7.out.below.trans (hx.mono Z7.out.below.size)).mono hs2)))).mono ?_
                rintro e w' ⟨rfl, rfl⟩
                exact ⟨rfl, hx⟩
              dsimp only at HWHY
              rw [← ht, ← hf, ← hT, ← her] at HWHY
              rw [← ht]
              obtain ⟨zz, hzz⟩ : ∃ zz, (T == 0) = zz := ⟨_, rfl⟩
              rw [hzz] at HWHY
              have HER := Lib.hid her
              clear ht hf hT her
              have y0 := After.cell HX7.out.c0
              have y1 := After.cell HX7.out.c1
              go_upto_region 15 with fail
              refine wp_region_after (w0 := wr) (B := wr.heap.size) (by kernel_rfl) (by kernel_rfl) (Below.refl _ _) ?_
              repeat (go_big_quiet_step (first | (go_at_call 24; exact Calls.after_of (HFO.out _ (After.below _))) | exact Calls.after_of (HTO.out _ (After.below _))))
              refine wpQuiet_nil ?_
              rintro _ ⟨xw, rfl⟩
              have Z8 := Lib.hid (Z7.out.step xw.below)
              have HX8 := Lib.hid (HX7.out.step xw.below)
              clear y0 y1 HFO HTO hzz Z7 HX7
              generalize xw.w = w8 at *
              have x0 := HX8.out.c0
              have x1 := HX8.out.c1
              have HCB : Hid (Calls Try.prog 12 #[.pointer (some ⟨g, 0, none⟩), .agg #[.int .i64 idb, .slice rb nb cb]] w8 fun e w' => e = .returned (.int .i64 er) ∧ ∃ Ds', AllSt w2 w' g (bookS As (idb, l)) la k L lb j As Ds') := by
                have := Z8.out.book idb rb nb cb l (by omega) hnb (HPL.out.below (HB2.out.trans (Z8.out.below.mono hs2))) HWL.out
                rw [← HER.out] at this
                exact this
              go_wp2_with fail
              refine HCB.out.mono ?_
              rintro e w9 ⟨rfl, Ds, h9⟩
              have Z9 := Lib.hid h9
              clear h9 HCB x0 x1
              rcases HWHY.out with ⟨rfl, rfl⟩ | ⟨rfl, rfl, rfl⟩ | ⟨rfl, rfl, rfl, rfl⟩ | ⟨rfl, rfl, rfl, rfl⟩ | ⟨rfl, rfl, rfl, rfl⟩
              rotate_left 4
              · rw [HBS1.out rfl] at Z9
                have HE0 := Lib.hid (HFM.out rfl)
                have HFD : Hid (formedS (idb, l) = true) := bookE_formed HE0.out
                clear HWHY HBS0 HBS1 HFM HER
                obtain ⟨S, rs, rs', hrs, _, _, hRI, hrl⟩ := Z9.out.led
                have HX9 := Lib.hid (HX2.out.step Z9.out.below)
                have x0 := HX9.out.c0
                have x1 := HX9.out.c1
                have hrj := hRI.1
                have HBK : Hid (∀ wx, Below w9.heap.size w9 wx → Calls Try.prog 20 #[.pointer (some ⟨g, 0, none⟩)] wx fun e w' => ∃ la k c, e = .returned (.slice la k c) ∧ Below wx.heap.size wx w' ∧ OwnRecs RawE w' wx.heap.size 34 la k (rs ++ rs')) := fun wx hx => bookings_rs S g _ _ wx (hrs.below hx)
                have HRA := Lib.hid hRI.recs
                have HBI : Hid (BooksIn w9 S (rs ++ rs') (As ++ [(idb, l)])) := by obtain ⟨_, _, _, _, _, hc⟩ := hrs; exact hc.books
                have HKEEP : Hid (∀ wx, Below w9.heap.size w9 wx → wx.cell? ⟨w.heap.size, 0, none⟩ = some (.int .i64 idb) ∧ wx.cell? ⟨w.heap.size, 1, none⟩ = some (.slice rb nb cb)) := fun wx hx => ⟨Below.cell_of hx HX9.out.c0, Below.cell_of hx HX9.out.c1⟩
                have HPB : Hid (Posts w9 rb nb l) := HPL.out.below (HB2.out.trans (Z9.out.below.mono hs2))
                clear hrs hRI
                go_upto_region 20 with fail
                refine wp_region_held_drew (S := fun w' => w'.cell? ⟨w.heap.size, 0, none⟩ = some (.int .i64 idb) ∧ w'.cell? ⟨w.heap.size, 1, none⟩ = some (.slice rb nb cb)) (by kernel_rfl) ⟨x0, x1⟩ (fun hHeld => ?_)
                refine take_at (i := 0) (v := ?_) 134 rfl rfl (by kernel_rfl) (by kernel_rfl) (by kernel_rfl) (fun _ _ _ h => h) (Or.inl ⟨by rfl, ?_⟩) (by assumption) ?_
                rotate_left
                · intro w hSw; go_simp <;> with_reducible rfl
                try simp only [Act.put, List.setIfInBounds_toArray, List.set_cons_zero, List.set_cons_succ]
                refine take_at (i := 1) (v := ?_) 135 rfl rfl (by kernel_rfl) (by kernel_rfl) (by kernel_rfl) (fun _ _ _ h => h) (Or.inl ⟨by rfl, ?_⟩) (by assumption) ?_
                rotate_left
                · intro w hSw; go_simp <;> with_reducible rfl
                try simp only [Act.put, List.setIfInBounds_toArray, List.set_cons_zero, List.set_cons_succ]
                refine take_at (i := 2) (v := ?_) 136 rfl rfl (by kernel_rfl) (by kernel_rfl) (by kernel_rfl) (fun _ _ _ h => h) (Or.inl ⟨by rfl, ?_⟩) (by assumption) ?_
                rotate_left
                · intro w hSw; go_simp <;> with_reducible rfl
                try simp only [Act.put, List.setIfInBounds_toArray, List.set_cons_zero, List.set_cons_succ]
                refine take_at (i := 3) (v := ?_) 137 rfl rfl (by kernel_rfl) (by kernel_rfl) (by kernel_rfl) (fun _ _ _ h => h) (Or.inl ⟨by rfl, ?_⟩) (by assumption) ?_
                rotate_left
                · intro w hSw; go_simp <;> with_reducible rfl
                try simp only [Act.put, List.setIfInBounds_toArray, List.set_cons_zero, List.set_cons_succ]
                refine take_at (i := 4) (v := ?_) 138 rfl rfl (by kernel_rfl) (by kernel_rfl) (by kernel_rfl) (fun _ _ _ h => h) (Or.inl ⟨by rfl, ?_⟩) (by assumption) ?_
                rotate_left
                · intro w hSw; go_simp <;> with_reducible rfl
                try simp only [Act.put, List.setIfInBounds_toArray, List.set_cons_zero, List.set_cons_succ]
                refine take_at (i := 5) (v := ?_) 139 rfl rfl (by kernel_rfl) (by kernel_rfl) (by kernel_rfl) (fun _ _ _ h => h) (Or.inl ⟨by rfl, ?_⟩) (by assumption) ?_
                rotate_left
                · intro w hSw; go_simp <;> with_reducible rfl
                try simp only [Act.put, List.setIfInBounds_toArray, List.set_cons_zero, List.set_cons_succ]
                refine take_at (i := 6) (v := ?_) 140 rfl rfl (by kernel_rfl) (by kernel_rfl) (by kernel_rfl) (fun _ _ _ h => h) (Or.inl ⟨by rfl, ?_⟩) (by assumption) ?_
                rotate_left
                · intro w hSw; go_simp <;> with_reducible rfl
                try simp only [Act.put, List.setIfInBounds_toArray, List.set_cons_zero, List.set_cons_succ]
                refine take_at (i := 7) (v := ?_) 141 rfl rfl (by kernel_rfl) (by kernel_rfl) (by kernel_rfl) (fun _ _ _ h => h) (Or.inl ⟨by rfl, ?_⟩) (by assumption) ?_
                rotate_left
                · intro w hSw; go_simp <;> with_reducible rfl
                try simp only [Act.put, List.setIfInBounds_toArray, List.set_cons_zero, List.set_cons_succ]
                refine take_at (i := 8) (v := ?_) 142 rfl rfl (by kernel_rfl) (by kernel_rfl) (by kernel_rfl) (fun _ _ _ h => h) (Or.inl ⟨by rfl, ?_⟩) (by assumption) ?_
                rotate_left
                · intro w hSw; go_simp <;> with_reducible rfl
                try simp only [Act.put, List.setIfInBounds_toArray, List.set_cons_zero, List.set_cons_succ]
                refine take_at (i := 9) (v := ?_) 143 rfl rfl (by kernel_rfl) (by kernel_rfl) (by kernel_rfl) (fun _ _ _ h => h) (Or.inl ⟨by rfl, ?_⟩) (by assumption) ?_
                rotate_left
                · intro w hSw; go_simp <;> with_reducible rfl
                try simp only [Act.put, List.setIfInBounds_toArray, List.set_cons_zero, List.set_cons_succ]
                refine take_at (i := 10) (v := ?_) 144 rfl rfl (by kernel_rfl) (by kernel_rfl) (by kernel_rfl) (fun _ _ _ h => h) (Or.inl ⟨by rfl, ?_⟩) (by assumption) ?_
                rotate_left
                · intro w hSw; go_simp <;> with_reducible rfl
                try simp only [Act.put, List.setIfInBounds_toArray, List.set_cons_zero, List.set_cons_succ]
                refine take_at (i := 13) (v := ?_) 147 rfl rfl (by kernel_rfl) (by kernel_rfl) (by kernel_rfl) (fun _ _ _ h => h) (Or.inl ⟨by rfl, ?_⟩) (by assumption) ?_
                rotate_left
                · intro w hSw; go_simp <;> with_reducible rfl
                try simp only [Act.put, List.setIfInBounds_toArray, List.set_cons_zero, List.set_cons_succ]
                refine take_at (i := 15) (v := ?_) 149 rfl rfl (by kernel_rfl) (by kernel_rfl) (by kernel_rfl) (fun _ _ _ h => h) (Or.inl ⟨by rfl, ?_⟩) (by assumption) ?_
                rotate_left
                · intro w hSw; go_simp <;> with_reducible rfl
                try simp only [Act.put, List.setIfInBounds_toArray, List.set_cons_zero, List.set_cons_succ]
                clear x0 x1
                refine wpAnyH_effects0 [(11, 145), (12, 146), (14, 148), (16, 150)] [[], [], [0, 1], []] (FA w9.heap.size rs (rs ++ rs') idb rb nb cb) (bkA rs) _ _ 4 _ ?dist ?ready FA.below hHeld ?step ?fin
                case dist => decide
                case ready => kernel_rfl
                case step =>
                  intro k' e v w3 hk3 he hSw hbw3 hneed
                  have hb3 : Below w9.heap.size w9 w3 := (Below.refl _ _).drew.trans hbw3
                  have hs3 := hb3.size
                  rcases k' with _ | _ | _ | _ | k'
                  all_goals simp only [List.getElem?_cons_zero, List.getElem?_cons_succ, List.getElem?_nil, Option.some.injEq, reduceCtorEq] at he
                  all_goals subst he
                  · have HBK3 := Lib.hid (HBK.out w3 hb3)
                    have HK3 := Lib.hid (fun w' (hb : Below w3.heap.size w3 w') => HKEEP.out w' (hb3.trans (hb.mono hs3)))
                    clear hneed
                    refine wpOp_step rfl (fun K' hK => ?_)
                    simp only [putAll, Act.put, List.setIfInBounds_toArray, List.set_cons_zero, List.set_cons_succ]
                    go_simp
                    refine HBK3.out.mono ?_
                    rintro e w' ⟨la', k', c', rfl, hb, ho⟩
                    go_simp
                    refine hK _ _ ⟨.slice la' k' c', by simp only [putAll, Act.put, List.setIfInBounds_toArray, List.set_cons_zero, List.set_cons_succ], HK3.out w' hb, hb, ⟨_, _, _, rfl, ho.1, fun hn => let ⟨g, e, hg, hr⟩ := ho.2 hn; ⟨g, e, Nat.le_trans hs3 hg, hr⟩⟩, fun b hbk => ?_⟩
                    rcases Nat.eq_zero_or_pos k' with h0 | h0
                    · have h1 := ho.1
                      rw [List.length_append] at h1
                      have h2 := HBI.out.1
                      rw [List.length_append, List.length_append, List.length_singleton] at h2
                      omega
                    · obtain ⟨g', e', hg', hr'⟩ := ho.2 h0
                      subst e'
                      have : g' = b := by simpa [bkA, Value.ownBlock] using hbk
                      subst this
                      exact ⟨hg', hr'.lt⟩
                  · refine wpOp_step rfl (fun K' hK => ?_)
                    simp only [putAll, Act.put, List.setIfInBounds_toArray, List.set_cons_zero, List.set_cons_succ]
                    go_simp
                    have hb : Below w3.heap.size w3 (w3.alloc (.cells #[] 34)) := Joins.below_alloc1 w3 _
                    have how := World.ownsRow_made (e := 34) (size := 2) w3 #[] 0 (Nat.le_refl _) (by unfold maxLen; omega) rfl
                    refine hK _ _ ⟨.slice (some ⟨w3.heap.size, 0, none⟩) 0 0, by simp only [putAll, Act.put, List.setIfInBounds_toArray, List.set_cons_zero, List.set_cons_succ], HKEEP.out _ (hb3.trans (hb.mono hs3)), hb, ⟨?_, _, rfl⟩, fun b hbk => by simp [bkA] at hbk⟩
                    exact row_base hs3 how
                  · obtain ⟨how, b1, hv1⟩ : FA w9.heap.size rs (rs ++ rs') idb rb nb cb 1 (v 1) w3 := hneed 1 (by simp)
                    rw [hv1] at how
                    obtain ⟨u, w', hr, hb, ho, hf1, hf2⟩ := copy_books w3 w9.heap.size b1 lb j c2 rs hs3 (by omega) (HRA.out.below hb3) how
                    refine wpOp_step rfl (fun K' hK => ?_)
                    refine step_append_w (by simp only [putAll, Act.put, List.setIfInBounds_toArray, List.set_cons_zero, List.set_cons_succ]; rfl) (.tmp 146) (.tmp 147) 22 rfl 22 rfl hr ?_ rfl ?_
                    · simp only [putAll, Act.put, List.setIfInBounds_toArray, List.set_cons_zero, List.set_cons_succ]
                      exact hv1
                    · refine hK _ _ ⟨u, rfl, HKEEP.out _ (hb3.trans (hb.mono hs3)), hb, ⟨by rw [hrj]; exact ho, fun h => ⟨b1, hf2 (by omega)⟩⟩, fun b hbk => ?_⟩
                      unfold bkA at hbk
                      by_cases h0 : rs.length = 0
                      · simp [h0] at hbk
                      · simp only [h0, if_false] at hbk
                        exact ⟨hf1 (by omega) b hbk, row_lt ho hbk⟩
                  · refine wpOp_step rfl (fun K' hK => ?_)
                    simp only [putAll, Act.put, List.setIfInBounds_toArray, List.set_cons_zero, List.set_cons_succ]
                    go_simp
                    have hb : Below w3.heap.size w3 (w3.alloc (.cells #[.int .i64 idb, .slice rb nb cb] 34)) := Joins.below_alloc1 w3 _
                    refine hK _ _ ⟨.slice (some ⟨w3.heap.size, 0, none⟩) 1 1, by simp only [putAll, Act.put, List.setIfInBounds_toArray, List.set_cons_zero, List.set_cons_succ], HKEEP.out _ (hb3.trans (hb.mono hs3)), hb, ⟨_, rfl, World.alloc_heap_new w3 _⟩, fun b hbk => ?_⟩
                    have : w3.heap.size = b := by simpa [bkA, Value.ownBlock] using hbk
                    subst this
                    exact ⟨Nat.le_refl _, by simp⟩
                case fin =>
                  intro v w4 hS4 hI
                  obtain ⟨l0, k0, c0, f0, F0⟩ : FA w9.heap.size rs (rs ++ rs') idb rb nb cb 0 (v 0) w4 := hI.fact 0 (by decide) rfl
                  have F2 : FA w9.heap.size rs (rs ++ rs') idb rb nb cb 2 (v 2) w4 := hI.fact 2 (by decide) rfl
                  obtain ⟨b3, f3, F3⟩ : FA w9.heap.size rs (rs ++ rs') idb rb nb cb 3 (v 3) w4 := hI.fact 3 (by decide) rfl
                  have hB2 : ∀ r, bkA rs 2 (v 2) = some r → w9.heap.size ≤ r := fun r h => (hI.blk 2 r (by decide) rfl h).1
                  have hap : ∀ r, bkA rs 2 (v 2) = some r → bkA rs 0 (v 0) ≠ some r := fun r h => hI.apart 2 0 r (by decide) (by decide) (by decide) rfl rfl h
                  have hb4 : Below w9.heap.size w9 w4 := (Below.refl _ _).drew.trans hI.below
                  obtain ⟨u, w5, hr, ho5, hg5⟩ := append_last hb4.size (by omega) F2 b3 F3
                  rw [hrj] at ho5
                  obtain ⟨lu, cu, rfl, hou⟩ := OwnRecs.of_row ho5
                  have hb5 : Below w9.heap.size w9 w5 := hb4.grown hg5 hb4.size hB2
                  have HK0 : Hid (Books w5 l0 k0 (As ++ [(idb, l)])) := by
                    refine ⟨rs ++ rs', ⟨F0.1, fun i hi => ?_⟩, HBI.out.1, fun i h1 h2 => ⟨(HBI.out.2 i h1 h2).1, (HBI.out.2 i h1 h2).2.posts.below hb5⟩⟩
                    obtain ⟨g0, rfl, _, hr0⟩ := F0.2 (by omega)
                    have hne : some g0 ≠ bkA rs 2 (v 2) := fun e => hap g0 e.symm (by rw [f0]; rfl)
                    exact ⟨g0, 0, rfl, fun q hq => by rw [Nat.zero_add]; exact (hr0.grown hg5 hne).cell i q (by rw [F0.1]; exact hi) hq⟩
                  have HKU : Hid (Books w5 lu (j + 1) (As ++ [(idb, l)])) := by
                    refine books_snoc hou.recs hrl (fun i h1 h2 => ?_) rfl (HPB.out.below hb5)
                    have h3 := HBI.out.2 i (by simp; omega) (by simp; omega)
                    rw [List.getElem_append_left h1, List.getElem_append_left h2] at h3
                    exact ⟨h3.1, h3.2.posts.below hb5⟩
                  have HSM : Hid (Calls Try.prog 19 #[.slice l0 k0 c0, .slice lu (j + 1) cu] w5 fun e w' => e = .returned (.bool true) ∧ Below w9.heap.size w9 w') := by
                    have hpl : ∀ b ∈ As ++ [(idb, l)], b.2.length ≤ 1000000 := fun b hb => by
                      rcases List.mem_append.mp hb with h | h
                      · have := formed_len (HOK.out.formed b h); omega
                      · rw [List.mem_singleton.mp h]
                        have := formed_len HFD.out
                        omega
                    have hk0 := HK0.out.len
                    rw [List.length_append, List.length_singleton] at hk0
                    refine (sameBooks_any l0 lu k0 c0 (j + 1) cu _ _ w5 HK0.out HKU.out (by omega) (by omega) hpl hpl).mono ?_
                    rintro e w' ⟨rfl, hq⟩
                    exact ⟨by simp, hb5.trans ((below_q hq).mono hb5.size)⟩
                  simp only [putAll, Act.put, List.setIfInBounds_toArray, List.set_cons_zero, List.set_cons_succ]
                  rw [f0, f3]
                  clear F0 F2 F3 hI hB2 hap ho5 hou HK0 HKU hg5 HBK
                  refine wpAnyH_ready (rs := [17]) (by kernel_rfl) (by simp) ?_
                  refine AllReadyH.cons rfl (fun K' hK => ?_) AllReadyH.nil
                  refine step_append_w (by rfl) (.tmp 148) (.tmp 150) 22 rfl 22 rfl hr rfl rfl ?_
                  refine hK.out _ _ (HKEEP.out w5 hb5) (fun hHeld => ?_)
                  clear hK K' hr f0 f3
                  try simp only [Act.put, List.setIfInBounds_toArray, List.set_cons_zero, List.set_cons_succ]
                  refine wpAnyH_ready (rs := [18]) (by kernel_rfl) (by simp) ?_
                  refine AllReadyH.cons rfl (fun K' hK => ?_) AllReadyH.nil
                  go_simp
                  refine HSM.out.mono ?_
                  rintro e w6 ⟨rfl, hb6⟩
                  go_simp
                  refine hK.out _ _ (HKEEP.out w6 hb6) (fun hHeld => ?_)
                  clear hK K' HSM hb5
                  try simp only [Act.put, List.setIfInBounds_toArray, List.set_cons_zero, List.set_cons_succ]
                  refine take_at (i := 19) (v := ?_) 153 rfl rfl (by kernel_rfl) (by kernel_rfl) (by kernel_rfl) (fun _ _ _ h => h) (Or.inl ⟨by rfl, ?_⟩) (by assumption) ?_
                  rotate_left
                  · intro w hSw; go_simp <;> with_reducible rfl
                  try simp only [Act.put, List.setIfInBounds_toArray, List.set_cons_zero, List.set_cons_succ]
                  refine take_at (i := 20) (v := ?_) 154 rfl rfl (by kernel_rfl) (by kernel_rfl) (by kernel_rfl) (fun _ _ _ h => h) (Or.inl ⟨by rfl, ?_⟩) (by assumption) ?_
                  rotate_left
                  · intro w hSw; go_simp <;> with_reducible rfl
                  try simp only [Act.put, List.setIfInBounds_toArray, List.set_cons_zero, List.set_cons_succ]
                  refine wpAnyH_done (by kernel_rfl) ?_ _
                  have Z10 := Lib.hid (Z9.out.step hb6)
                  clear hHeld hS4 hb4 hb6 Z9 HX9 HKEEP HPB HBI HRA
                  generalize w6 = w10 at *
                  go_wp2_with fail
                  go_loopw [16, 17] (fun v16 _ wr => ∃ q : Nat, v16 = .int .i64 q ∧ q ≤ nb ∧ Hid (AllSt w2 wr g (As ++ [(idb, l)]) la k L lb j As Ds)) (fun v16 _ _ => nb - (intOf v16).toNat)
                  case atStart => exact ⟨0, rfl, Nat.zero_le _, Z10⟩
                  case round =>
                    obtain ⟨q, rfl, hq, Z11⟩ := hrel
                    clear Z10
                    have hbx := HX2.out.step Z11.out.below
                    have x0 := hbx.c0
                    have x1 := hbx.c1
                    clear hbx
                    by_cases hqn : q < nb
                    · obtain ⟨b, o, rfl, p0, p1, p2⟩ := Posts.at (HPL.out.below (HB2.out.trans (Z11.out.below.mono hs2))) q hqn
                      have hwf := accS_wf (formed_acc HFD.out (i := q) (by show q < l.length; omega))
                      dsimp only at hwf
                      generalize pk l q = kx at *
                      generalize pn l q = tx at *
                      have HWF := Lib.hid hwf
                      clear hwf p2
                      go_upto_region 26 with fail
                      have hal := Joins.below_alloc1 wr (.cells #[.int .i64 kx, .string (bs tx)] 39)
                      have hn := World.alloc_heap_new wr (.cells #[.int .i64 kx, .string (bs tx)] 39)
                      have Z12 := Lib.hid (Z11.out.step hal)
                      clear x0 x1 p0 p1 hal
                      generalize wr.alloc (.cells #[.int .i64 kx, .string (bs tx)] 39) = w12 at *
                      have a0 : w12.cell? ⟨wr.heap.size, 0, none⟩ = some (.int .i64 kx) := by rw [cell_of_row _ _ _ _ _ _ hn]; rfl
                      have a1 : w12.cell? ⟨wr.heap.size, 1, none⟩ = some (.string (bs tx)) := by rw [cell_of_row _ _ _ _ _ _ hn]; rfl
                      have hbx := HX2.out.step Z12.out.below
                      have x0 := hbx.c0
                      have x1 := hbx.c1
                      have HKEEP : Hid (∀ w', Below w12.heap.size w12 w' → w'.cell? ⟨wr.heap.size, 0, none⟩ = some (.int .i64 kx) ∧ w'.cell? ⟨wr.heap.size, 1, none⟩ = some (.string (bs tx)) ∧ w'.cell? ⟨w.heap.size, 0, none⟩ = some (.int .i64 idb) ∧ w'.cell? ⟨w.heap.size, 1, none⟩ = some (.slice (some ⟨b, o, none⟩) nb cb)) := fun w' hx => ⟨Below.cell_of hx a0, Below.cell_of hx a1, Below.cell_of hx hbx.c0, Below.cell_of hx hbx.c1⟩
                      have hspl := bal_split As (idb, l) (kx, tx)
                      have hnear := Z12.out.one.ok.near (kx, tx)
                      have hb1 := bal_le As (kx, tx) HOK.out.formed
                      have hb3 := bal_le [(idb, l)] (kx, tx) (fun b hb => by rw [List.mem_singleton.mp hb]; exact HFD.out)
                      have HBL0 := Lib.hid (fun wx (hx : Below w12.heap.size w12 wx) => (Z12.out.one.step hx).led)
                      have HBL : Hid (∀ wx, Below w12.heap.size w12 wx → Calls Try.prog 17 #[.pointer (some ⟨g, 0, none⟩), .agg #[.int .i64 kx, .string (bs tx)]] wx fun e w' => e = .returned (.int .i64 (balS As (kx, tx) + balS [(idb, l)] (kx, tx))) ∧ Below wx.heap.size wx w') := fun wx hx => by
                        obtain ⟨S, hS, _⟩ := HBL0.out wx hx
                        have := balance_any S g _ kx tx wx hS HWF.out
                        rw [hspl] at this
                        exact this
                      have HP1 : Hid (∀ wx, Below w12.heap.size w12 wx → Calls Try.prog 23 #[.slice lb j c2, .agg #[.int .i64 kx, .string (bs tx)]] wx fun e w' => e = .returned (.int .i64 (balS As (kx, tx))) ∧ Below wx.heap.size wx w') := fun wx hx =>
                        posted_any lb j c2 As kx tx wx (Z12.out.books.below hx) (by omega) HOK.out.formed
                      have HP3 : Hid (∀ wx blk, Below w12.heap.size w12 wx → wx.heap[blk]? = some (.cells #[.int .i64 idb, .slice (some ⟨b, o, none⟩) nb cb] 34 (0, 0)) → Calls Try.prog 23 #[.slice (some ⟨blk, 0, none⟩) 1 1, .agg #[.int .i64 kx, .string (bs tx)]] wx fun e w' => e = .returned (.int .i64 (balS [(idb, l)] (kx, tx))) ∧ Below wx.heap.size wx w') := fun wx blk hx hblk =>
                        posted_any (some ⟨blk, 0, none⟩) 1 1 [(idb, l)] kx tx wx (books_one hblk (HPL.out.below (HB2.out.trans ((Z12.out.below.trans (hx.mono Z12.out.below.size)).mono hs2)))) (by simp) (fun b hb => by rw [List.mem_singleton.mp hb]; exact HFD.out)
                      rw [hspl] at hnear
                      simp only [List.length_singleton] at hb3
                      clear hspl hn hbx HBL0 HWF
                      generalize balS As (kx, tx) = y1 at *
                      generalize balS [(idb, l)] (kx, tx) = y3 at *
                      have hwr : IntKind.i64.wrap (y1 + y3) = y1 + y3 := i64_in _ (by omega)
                      have hg1 : decide (1000000000000 < y1 + y3) = false := by simp; omega
                      have hg2 : decide (y1 + y3 < -1000000000000) = false := by simp; omega
                      clear hb1 hb3 hnear
                      refine wp_region_held_drew (S := fun w' => w'.cell? ⟨wr.heap.size, 0, none⟩ = some (.int .i64 kx) ∧ w'.cell? ⟨wr.heap.size, 1, none⟩ = some (.string (bs tx)) ∧ w'.cell? ⟨w.heap.size, 0, none⟩ = some (.int .i64 idb) ∧ w'.cell? ⟨w.heap.size, 1, none⟩ = some (.slice (some ⟨b, o, none⟩) nb cb)) (by kernel_rfl) ⟨a0, a1, x0, x1⟩ (fun hHeld => ?_)
                      refine take_at (i := 0) (v := ?_) 168 rfl rfl (by kernel_rfl) (by kernel_rfl) (by kernel_rfl) (fun _ _ _ h => h) (Or.inl ⟨by rfl, ?_⟩) (by assumption) ?_
                      rotate_left
                      · intro w hSw; go_simp <;> with_reducible rfl
                      try simp only [Act.put, List.setIfInBounds_toArray, List.set_cons_succ]
                      refine take_at (i := 1) (v := ?_) 169 rfl rfl (by kernel_rfl) (by kernel_rfl) (by kernel_rfl) (fun _ _ _ h => h) (Or.inl ⟨by rfl, ?_⟩) (by assumption) ?_
                      rotate_left
                      · intro w hSw; go_simp <;> with_reducible rfl
                      try simp only [Act.put, List.setIfInBounds_toArray, List.set_cons_succ]
                      refine take_at (i := 3) (v := ?_) 171 rfl rfl (by kernel_rfl) (by kernel_rfl) (by kernel_rfl) (fun _ _ _ h => h) (Or.inl ⟨by rfl, ?_⟩) (by assumption) ?_
                      rotate_left
                      · intro w hSw; go_simp <;> with_reducible rfl
                      try simp only [Act.put, List.setIfInBounds_toArray, List.set_cons_succ]
                      refine take_at (i := 4) (v := ?_) 172 rfl rfl (by kernel_rfl) (by kernel_rfl) (by kernel_rfl) (fun _ _ _ h => h) (Or.inl ⟨by rfl, ?_⟩) (by assumption) ?_
                      rotate_left
                      · intro w hSw; go_simp <;> with_reducible rfl
                      try simp only [Act.put, List.setIfInBounds_toArray, List.set_cons_succ]
                      refine take_at (i := 6) (v := ?_) 174 rfl rfl (by kernel_rfl) (by kernel_rfl) (by kernel_rfl) (fun _ _ _ h => h) (Or.inl ⟨by rfl, ?_⟩) (by assumption) ?_
                      rotate_left
                      · intro w hSw; go_simp <;> with_reducible rfl
                      try simp only [Act.put, List.setIfInBounds_toArray, List.set_cons_succ]
                      refine take_at (i := 8) (v := ?_) 176 rfl rfl (by kernel_rfl) (by kernel_rfl) (by kernel_rfl) (fun _ _ _ h => h) (Or.inl ⟨by rfl, ?_⟩) (by assumption) ?_
                      rotate_left
                      · intro w hSw; go_simp <;> with_reducible rfl
                      try simp only [Act.put, List.setIfInBounds_toArray, List.set_cons_succ]
                      clear a0 a1 x0 x1
                      refine wpAnyH_effects0 [(2, 170), (5, 173), (7, 175), (9, 177)] [[], [0], [], [1, 2]] (FC (y1 + y3) y1 y3 idb (some ⟨b, o, none⟩) nb cb) (fun _ _ => none) _ _ 14 _ ?dist ?ready FC.below hHeld ?step ?fin
                      case dist => decide
                      case ready => kernel_rfl
                      case step =>
                        intro k' e v w3 hk3 he hSw hbw3 hneed
                        have hb3 : Below w12.heap.size w12 w3 := (Below.refl _ _).drew.trans hbw3
                        have hs3 := hb3.size
                        have HK3 := Lib.hid (fun w' (hb : Below w3.heap.size w3 w') => HKEEP.out w' (hb3.trans (hb.mono hs3)))
                        rcases k' with _ | _ | _ | _ | k'
                        all_goals simp only [List.getElem?_cons_zero, List.getElem?_cons_succ, List.getElem?_nil, Option.some.injEq, reduceCtorEq] at he
                        all_goals subst he
                        · have HC3 := Lib.hid (HBL.out w3 hb3)
                          clear hneed hwr hg1 hg2
                          refine wpOp_step rfl (fun K' hK => ?_)
                          simp only [putAll, Act.put, List.setIfInBounds_toArray, List.set_cons_zero, List.set_cons_succ]
                          go_simp
                          refine HC3.out.mono ?_
                          rintro e w' ⟨rfl, hb⟩
                          go_simp
                          exact hK _ _ ⟨.int .i64 (y1 + y3), by simp only [putAll, Act.put, List.setIfInBounds_toArray, List.set_cons_zero, List.set_cons_succ], HK3.out w' hb, hb, rfl, fun b hbk => by simp at hbk⟩
                        · have HC3 := Lib.hid (HP1.out w3 hb3)
                          clear hneed hwr hg1 hg2
                          refine wpOp_step rfl (fun K' hK => ?_)
                          simp only [putAll, Act.put, List.setIfInBounds_toArray, List.set_cons_zero, List.set_cons_succ]
                          go_simp
                          refine HC3.out.mono ?_
                          rintro e w' ⟨rfl, hb⟩
                          go_simp
                          exact hK _ _ ⟨.int .i64 y1, by simp only [putAll, Act.put, List.setIfInBounds_toArray, List.set_cons_zero, List.set_cons_succ], HK3.out w' hb, hb, rfl, fun b hbk => by simp at hbk⟩
                        · clear hneed hwr hg1 hg2
                          refine wpOp_step rfl (fun K' hK => ?_)
                          simp only [putAll, Act.put, List.setIfInBounds_toArray, List.set_cons_zero, List.set_cons_succ]
                          go_simp
                          have hb : Below w3.heap.size w3 (w3.alloc (.cells #[.int .i64 idb, .slice (some ⟨b, o, none⟩) nb cb] 34)) := Joins.below_alloc1 w3 _
                          exact hK _ _ ⟨.slice (some ⟨w3.heap.size, 0, none⟩) 1 1, by simp only [putAll, Act.put, List.setIfInBounds_toArray, List.set_cons_zero, List.set_cons_succ], HK3.out _ hb, hb, ⟨_, rfl, World.alloc_heap_new w3 _⟩, fun b hbk => by simp at hbk⟩
                        · obtain ⟨blk, f2, F2⟩ : FC (y1 + y3) y1 y3 idb (some ⟨b, o, none⟩) nb cb 2 (v 2) w3 := hneed 2 (by simp)
                          have HC3 := Lib.hid (HP3.out w3 blk hb3 F2)
                          clear hneed hwr hg1 hg2 F2
                          refine wpOp_step rfl (fun K' hK => ?_)
                          simp only [putAll, Act.put, List.setIfInBounds_toArray, List.set_cons_zero, List.set_cons_succ]
                          simp only [Nat.zero_add, Nat.reduceAdd, f2]
                          go_simp
                          refine HC3.out.mono ?_
                          rintro e w' ⟨rfl, hb⟩
                          go_simp
                          exact hK _ _ ⟨.int .i64 y3, by simp only [putAll, Act.put, List.setIfInBounds_toArray, List.set_cons_zero, List.set_cons_succ, Nat.zero_add, Nat.reduceAdd, f2], HK3.out w' hb, hb, rfl, fun b hbk => by simp at hbk⟩
                      case fin =>
                        intro v w4 hS4 hI
                        have f0 : v 0 = .int .i64 (y1 + y3) := hI.fact 0 (by decide) rfl
                        have f1 : v 1 = .int .i64 y1 := hI.fact 1 (by decide) rfl
                        have f3 : v 3 = .int .i64 y3 := hI.fact 3 (by decide) rfl
                        obtain ⟨blk, f2, _⟩ : FC (y1 + y3) y1 y3 idb (some ⟨b, o, none⟩) nb cb 2 (v 2) w4 := hI.fact 2 (by decide) rfl
                        have hb4 : Below w12.heap.size w12 w4 := (Below.refl _ _).drew.trans hI.below
                        simp only [putAll, Act.put, List.setIfInBounds_toArray, List.set_cons_zero, List.set_cons_succ, Nat.zero_add, Nat.reduceAdd, f0, f1, f2, f3]
                        have HC4 := Lib.hid (HBL.out w4 hb4)
                        clear f0 f1 f2 f3 hI HP1 HP3 hHeld
                        refine take_at (i := 10) (v := ?_) 178 rfl rfl (by kernel_rfl) (by kernel_rfl) (by kernel_rfl) (fun _ _ _ h => h) (Or.inl ⟨by rfl, ?_⟩) (by assumption) ?_
                        rotate_left
                        · intro w hSw; go_simp <;> with_reducible rfl
                        try simp only [Act.put, List.setIfInBounds_toArray, List.set_cons_succ]
                        refine take_at (i := 11) (v := ?_) 179 rfl rfl (by kernel_rfl) (by kernel_rfl) (by kernel_rfl) (fun _ _ _ h => h) (Or.inl ⟨by rfl, ?_⟩) (by assumption) ?_
                        rotate_left
                        · intro w hSw; go_simp <;> with_reducible rfl
                        try simp only [Act.put, List.setIfInBounds_toArray, List.set_cons_succ]
                        refine take_at (i := 12) (v := ?_) 180 rfl rfl (by kernel_rfl) (by kernel_rfl) (by kernel_rfl) (fun _ _ _ h => h) (Or.inl ⟨by rfl, ?_⟩) (by assumption) ?_
                        rotate_left
                        · intro w hSw; go_simp <;> with_reducible rfl
                        try simp only [Act.put, List.setIfInBounds_toArray, List.set_cons_succ]
                        refine take_at (i := 13) (v := ?_) 181 rfl rfl (by kernel_rfl) (by kernel_rfl) (by kernel_rfl) (fun _ _ _ h => h) (Or.inl ⟨by rfl, ?_⟩) (by assumption) ?_
                        rotate_left
                        · intro w hSw; go_simp <;> with_reducible rfl
                        try simp only [Act.put, List.setIfInBounds_toArray, List.set_cons_succ]
                        refine take_at (i := 14) (v := ?_) 182 rfl rfl (by kernel_rfl) (by kernel_rfl) (by kernel_rfl) (fun _ _ _ h => h) (Or.inl ⟨by rfl, ?_⟩) (by assumption) ?_
                        rotate_left
                        · intro w hSw; go_simp <;> with_reducible rfl
                        try simp only [Act.put, List.setIfInBounds_toArray, List.set_cons_succ]
                        refine wpAnyH_ready (rs := [15]) (by kernel_rfl) (by simp) ?_
                        refine AllReadyH.cons rfl (fun K' hK => ?_) AllReadyH.nil
                        go_simp
                        refine HC4.out.mono ?_
                        rintro e w5 ⟨rfl, hbn⟩
                        go_simp
                        have hb5 := hb4.trans (hbn.mono hb4.size)
                        refine hK.out _ _ (HKEEP.out w5 hb5) (fun hHeld => ?_)
                        clear hK K' hbn
                        try simp only [Act.put, List.setIfInBounds_toArray, List.set_cons_succ]
                        have HC5 := Lib.hid (HBL.out w5 hb5)
                        refine take_at (i := 16) (v := ?_) 184 rfl rfl (by kernel_rfl) (by kernel_rfl) (by kernel_rfl) (fun _ _ _ h => h) (Or.inl ⟨by rfl, ?_⟩) (by assumption) ?_
                        rotate_left
                        · intro w hSw; go_simp <;> with_reducible rfl
                        try simp only [Act.put, List.setIfInBounds_toArray, List.set_cons_succ]
                        refine take_at (i := 17) (v := ?_) 185 rfl rfl (by kernel_rfl) (by kernel_rfl) (by kernel_rfl) (fun _ _ _ h => h) (Or.inl ⟨by rfl, ?_⟩) (by assumption) ?_
                        rotate_left
                        · intro w hSw; go_simp <;> with_reducible rfl
                        try simp only [Act.put, List.setIfInBounds_toArray, List.set_cons_succ]
                        refine take_at (i := 18) (v := ?_) 186 rfl rfl (by kernel_rfl) (by kernel_rfl) (by kernel_rfl) (fun _ _ _ h => h) (Or.inl ⟨by rfl, ?_⟩) (by assumption) ?_
                        rotate_left
                        · intro w hSw; go_simp <;> with_reducible rfl
                        try simp only [Act.put, List.setIfInBounds_toArray, List.set_cons_succ]
                        refine take_at (i := 19) (v := ?_) 187 rfl rfl (by kernel_rfl) (by kernel_rfl) (by kernel_rfl) (fun _ _ _ h => h) (Or.inl ⟨by rfl, ?_⟩) (by assumption) ?_
                        rotate_left
                        · intro w hSw; go_simp <;> with_reducible rfl
                        try simp only [Act.put, List.setIfInBounds_toArray, List.set_cons_succ]
                        refine take_at (i := 20) (v := ?_) 188 rfl rfl (by kernel_rfl) (by kernel_rfl) (by kernel_rfl) (fun _ _ _ h => h) (Or.inl ⟨by rfl, ?_⟩) (by assumption) ?_
                        rotate_left
                        · intro w hSw; go_simp <;> with_reducible rfl
                        try simp only [Act.put, List.setIfInBounds_toArray, List.set_cons_succ]
                        refine wpAnyH_ready (rs := [21]) (by kernel_rfl) (by simp) ?_
                        refine AllReadyH.cons rfl (fun K' hK => ?_) AllReadyH.nil
                        go_simp
                        refine HC5.out.mono ?_
                        rintro e w6 ⟨rfl, hbn⟩
                        go_simp
                        have hb6 := hb5.trans (hbn.mono hb5.size)
                        refine hK.out _ _ (HKEEP.out w6 hb6) (fun hHeld => ?_)
                        clear hK K' hbn
                        try simp only [Act.put, List.setIfInBounds_toArray, List.set_cons_succ]
                        refine take_at (i := 22) (v := ?_) 190 rfl rfl (by kernel_rfl) (by kernel_rfl) (by kernel_rfl) (fun _ _ _ h => h) (Or.inl ⟨by rfl, ?_⟩) (by assumption) ?_
                        rotate_left
                        · intro w hSw; go_simp <;> with_reducible rfl
                        try simp only [Act.put, List.setIfInBounds_toArray, List.set_cons_succ]
                        refine take_at (i := 23) (v := ?_) 191 rfl rfl (by kernel_rfl) (by kernel_rfl) (by kernel_rfl) (fun _ _ _ h => h) (Or.inl ⟨by rfl, ?_⟩) (by assumption) ?_
                        rotate_left
                        · intro w hSw; go_simp <;> with_reducible rfl
                        try simp only [Act.put, List.setIfInBounds_toArray, List.set_cons_succ]
                        refine wpAnyH_done (by kernel_rfl) ?_ _
                        have Z13 := Lib.hid (Z12.out.step hb6)
                        clear hwr hg1 hg2 HC4 HC5 hb4 hb5 hb6
                        go_wp2_with fail
                        go_roundw
                        case rel => exact ⟨q + 1, by go_num, by omega, Z13⟩
                        case measure => simp [intOf]; omega
                    · have hq' : q = nb := by omega
                      subst hq'
                      go_wp2_with fail
                      go_ret
                      exact ⟨rfl, HB2.out.trans (Z11.out.below.mono hs2)⟩
              all_goals
                rw [HBS0.out (by decide)] at Z9
                clear HWHY HBS0 HBS1 HFM
                go_wp2_with fail
                change Calls Try.prog 15 _ _ _
                obtain ⟨S, hS, _⟩ := Z9.out.one.led
                refine (balances_any S g _ w9 hS hS.ok.wf).mono ?_
                rintro e w10 ⟨lw, kw, cw, L2, rfl, hb10, ho10, hi10, hk10⟩
                have hLL : L2 = L := hi10.unique HI.out
                subst hLL
                have Z10 := Lib.hid (Z9.out.step hb10)
                have HP10 := Lib.hid ho10.recs
                clear hb10 ho10 hi10 hS Z9
                go_wp2_with fail
                change Calls Try.prog 14 _ _ _
                refine (same_any lw la kw cw k c1 L2 L2 w10 HP10.out Z10.out.posts (by omega) (by omega)).mono ?_
                rintro e w11 ⟨rfl, hb11⟩
                have Z11 := Lib.hid (Z10.out.step hb11)
                clear hb11 Z10 HP10
                have htt : decide (L2 = L2) = true := by simp
                rw [htt]
                clear htt
                go_wp2_with fail
                change Calls Try.prog 20 _ _ _
                obtain ⟨S, hS, _⟩ := Z11.out.one.led
                refine (bookings_any S g _ w11 hS).mono ?_
                rintro e w12 ⟨lz, kz, cz, rfl, hb12, hB12⟩
                have Z12 := Lib.hid (Z11.out.step hb12)
                have HK12 := Lib.hid hB12
                have hkz := hB12.len
                clear hb12 hB12 hS Z11
                go_wp2_with fail
                change Calls Try.prog 19 _ _ _
                have hpl : ∀ b ∈ As, b.2.length ≤ 1000000 := fun b hb => by have := formed_len (HOK.out.formed b hb); omega
                refine (sameBooks_any lz lb kz cz j c2 As As w12 HK12.out Z12.out.books (by omega) (by omega) hpl hpl).mono ?_
                rintro e w13 ⟨rfl, hq13⟩
                have HB13 := Lib.hid (Z12.out.below.trans ((below_q hq13).mono Z12.out.below.size))
                clear hpl hq13
                have htt : decide (As = As) = true := by simp
                rw [htt]
                clear htt
                go_wp2_with fail
                go_ret
                exact ⟨rfl, HB2.out.trans (HB13.out.mono hs2)⟩
    · have hf0 : fewS [(idb, l)] 1 = false := by simpa using hf2
      rw [hf0]
      go_wp2_with fail
      go_ret
      exact ⟨rfl, HB2.out⟩
  · have hf0 : fewS Bs 40 = false := by simpa using hf
    rw [hf0]
    go_wp2_with fail
    go_ret
    exact ⟨rfl, HB1.out⟩
end Go.Proofs.Ytafhdpalobalkaa
