/- ledger: LedgerZero: the walk. -/
import Derived.Laws.Cover1
import Derived.Test.YtafhdpalobalkaaLE3
import Derived.Test.YtafhdpalobalkaaQC
namespace Go.Proofs.Ytafhdpalobalkaa
open Go.RowKit Go.IntWalk

theorem totR_le {L : List PostT} (h : ∀ i, i < L.length → -1000000000000 ≤ pa L i ∧ pa L i ≤ 1000000000000) : ∀ i, i ≤ L.length → -1000000000000 * (i : Int) ≤ totR L i ∧ totR L i ≤ 1000000000000 * (i : Int) := by
  intro i
  induction i with
  | zero => intro _; show _ ≤ (0 : Int) ∧ (0 : Int) ≤ _; omega
  | succ i ih =>
    intro hi
    have h1 := ih (by omega)
    have h2 := h i (by omega)
    show _ ≤ totR L i + pa L i ∧ totR L i + pa L i ≤ _
    omega

theorem IsBal.at {L : List PostT} {f : AccT → Int} (h : IsBal L f) {i : Nat} (hi : i < L.length) : f (pk L i, pn L i) = pa L i ∧ pa L i ≠ 0 := by
  have := h.mem _ (List.getElem_mem hi)
  rw [post_eq L i hi] at this
  exact this

theorem IsBal.next {L : List PostT} {f : AccT → Int} (h : IsBal L f) {i : Nat} (hi : i + 1 < L.length) : befA (pk L i, pn L i) (pk L (i + 1), pn L (i + 1)) = true := by
  have := List.pairwise_iff_getElem.mp h.sorted i (i + 1) (by omega) hi (by omega)
  rw [post_eq L i (by omega), post_eq L (i + 1) hi] at this
  exact this

set_option maxRecDepth 10000 in
set_option maxHeartbeats 3200000 in
theorem zero_any (ra : Option Addr) (n c : Nat) (Bs : List BookT) (w : World) (hB : Books w ra n Bs) (hn : n ≤ 9223372036854775807) (hw : WfB Bs) :
    Calls Try.prog 4 #[.slice ra n c] w fun e w' => e = .returned (.bool true) ∧ Below w.heap.size w w' := by
  have HB := Lib.hid hB
  have HW := Lib.hid hw
  have hlen := hB.len
  clear hB hw
  go_enter Try.func4, Try.ntmps4
  go_wp2_with fail
  refine (head_any w).mono ?_
  rintro e w1 ⟨rfl, hb1⟩
  have HB1 := Lib.hid hb1
  have hs1 := hb1.size
  clear hb1
  go_wp2_with fail
  change Calls Try.prog 9 _ _ _
  refine (few_any ra n c 40 Bs w1 (HB.out.below HB1.out) hn (by omega)).mono ?_
  rintro e w2 ⟨rfl, rfl⟩
  by_cases hf : fewS Bs 40 = true
  · rw [hf]
    have HF := Lib.hid hf
    clear hf
    go_wp2_with fail
    change Calls Try.prog 10 _ _ _
    refine (new_any w1).mono ?_
    rintro e w2 ⟨g, rfl, hb2, hl2⟩
    have H2 := Lib.hid (OneSt.start hb2 hl2)
    clear hb2 hl2
    go_wp2_with fail
    have hn40 : n ≤ 40 := by
      have h0 := HF.out
      unfold fewS at h0
      simp only [Bool.and_eq_true, decide_eq_true_eq] at h0
      omega
    have HP : Hid (∀ i (hi : i < Bs.length) (m : Nat), (Bs[i]).2.length = m → m ≤ 25) := fun i hi m hm => by
      have h0 := HF.out
      unfold fewS at h0
      simp only [Bool.and_eq_true, List.all_eq_true, decide_eq_true_eq] at h0
      have := h0.2 _ (List.getElem_mem hi)
      omega
    go_loopw [5] (fun v5 wr => ∃ i : Nat, v5 = .int .i64 i ∧ i ≤ n ∧ Hid (OneSt w1 wr g (runS (Bs.take i)))) (fun v5 _ => n - (intOf v5).toNat)
    case atStart => exact ⟨0, rfl, Nat.zero_le _, H2.out⟩
    case round =>
      obtain ⟨i, rfl, hi, H4⟩ := hrel
      by_cases hlt : i < n
      · obtain ⟨b1, o1, pa1, pn1, pc1, e1, c0, c1, hp1⟩ := (HB.out.below (HB1.out.trans (H4.out.below.mono hs1))).at i hlt (by omega)
        have hib : i < Bs.length := by omega
        have hm1 := HP.out i hib pn1 hp1.1
        have hlA : (runS (Bs.take i)).length < 100 := by
          have := runS_le (Bs.take i)
          rw [List.length_take] at this
          omega
        have HC1 : Hid (Calls Try.prog 12 #[.pointer (some ⟨g, 0, none⟩), .agg #[.int .i64 (Bs[i]).1, .slice pa1 pn1 pc1]] wr fun e w' => ∃ x, e = .returned (.int .i64 x) ∧ OneSt w1 w' g (runS (Bs.take (i + 1)))) := by
          refine (H4.out.book _ pa1 pn1 pc1 (Bs[i]).2 hlA (by omega) hp1 (HW.out _ (List.getElem_mem hib))).mono ?_
          rintro e w' ⟨rfl, h⟩
          rw [runS_take hib]
          exact ⟨_, rfl, h⟩
        clear hp1 hm1
        subst e1
        go_wp2_with fail
        refine HC1.out.mono ?_
        rintro e w5 ⟨x, rfl, h5⟩
        have H5 := Lib.hid h5
        clear h5 HC1 c0 c1
        go_wp2_with fail
        go_roundw
        case rel => exact ⟨i + 1, by go_num, by omega, H5⟩
        case measure => simp [intOf]; omega
      · have hi' : i = n := by omega
        subst hi'
        have hA : Bs.take i = Bs := List.take_of_length_le (by omega)
        rw [hA] at H4
        clear hA
        obtain ⟨As, hAs⟩ : ∃ As, As = runS Bs := ⟨_, rfl⟩
        rw [← hAs] at H4
        have HAL : Hid (∀ b ∈ As, formedS b = true ∧ zeroE b.2 = 0) := by rw [hAs]; exact runS_all Bs
        have hlA : As.length ≤ 40 := by
          rw [hAs]
          have := runS_le Bs
          omega
        clear hAs
        have Z4 : Hid (ZSt w1 wr g As none 0 [] none 0 []) := ZSt.start H4.out
        clear H4
        go_wp2_with fail
        change Calls Try.prog 15 _ _ _
        refine Z4.out.balances.mono ?_
        rintro e w5 ⟨la, k, c1, L, rfl, h5, hp5, hi5, hk5⟩
        have Z5 : Hid (ZSt w1 w5 g As la k L none 0 []) := ⟨h5.one, hp5, h5.books⟩
        have HI := Lib.hid hi5
        have hkL := hp5.1
        have HAM : Hid (∀ j, j < k → -1000000000000 ≤ pa L j ∧ pa L j ≤ 1000000000000) := fun j hj => by
          have := h5.one.ok.near (pk L j, pn L j)
          rw [(hi5.at (i := j) (by omega)).1] at this
          exact this
        clear h5 hp5 hi5 Z4
        obtain ⟨wo, rfl⟩ : ∃ wo : World, wo = wr := ⟨wr, rfl⟩
        go_wp2_with fail
        go_loopw [7, 8] (fun v7 v8 wr => ∃ j : Nat, v7 = .int .i64 (totR L j) ∧ v8 = .int .i64 j ∧ j ≤ k ∧ Hid (ZSt w1 wr g As la k L none 0 [])) (fun _ v8 _ => k - (intOf v8).toNat)
        case atStart => exact ⟨0, rfl, rfl, Nat.zero_le _, Z5⟩
        case round =>
          obtain ⟨j, rfl, rfl, hj, Z6⟩ := hrel
          clear Z5
          by_cases hjk : j < k
          · obtain ⟨b, o, rfl, p0, p1, p2⟩ := Posts.at Z6.out.posts j hjk
            have hat := HI.out.at (i := j) (by omega)
            have e0 : (pa L j == 0) = false := by simp [hat.2]
            have hwf := Z6.out.one.ok.wf (pk L j, pn L j) (by rw [hat.1]; exact hat.2)
            have HBL : Hid (∀ wx, Below wr.heap.size wr wx → Calls Try.prog 17 #[.pointer (some ⟨g, 0, none⟩), .agg #[.int .i64 (pk L j), .string (bs (pn L j))]] wx fun e w' => e = .returned (.int .i64 (pa L j)) ∧ Below wr.heap.size wr w') := fun wx hx => by
              have := Z6.out.balance (pk L j) (pn L j) hwf wx hx
              rw [hat.1] at this
              exact this
            have hbd := HAM.out j hjk
            have htb := totR_le (L := L) (fun i hi => HAM.out i (by omega)) j (by omega)
            have HQ : Hid (wrap64 (totR L j + pa L j) = totR L (j + 1)) := by
              show _ = totR L j + pa L j
              exact wrap64_in _ (by omega)
            have HR : Hid (Below wr.heap.size wr wr.drew) := (Below.refl _ _).drew
            clear hat hwf hbd htb HR
            have y0 := After.cell p0
            have y1 := After.cell p1
            have y2 := After.cell p2
            clear p0 p1
            by_cases hj0 : j = 0
            · have hgt : decide (0 < j) = false := by simp; omega
              have HJ0 := Lib.hid hj0
              clear hj0
              go_upto_region 14 with fail
              refine wp_region_after (w0 := wr) (B := wr.heap.size) (by kernel_rfl) (by kernel_rfl) (Below.refl _ _) ?_
              repeat (go_big_quiet_step (exact Calls.after_of (HBL.out _ (After.below _))))
              refine wpQuiet_nil ?_
              rintro _ ⟨x, rfl⟩
              clear y0 y1 p2 hgt
              go_wp2_with fail
              go_roundw
              case rel => exact ⟨j + 1, congrArg (Value.int .i64) HQ.out, by go_num, by omega, Z6.out.step x.below⟩
              case measure => simp [intOf]; omega
            · obtain ⟨q, hq⟩ : ∃ q, q = j - 1 := ⟨_, rfl⟩
              have hqk : q < k := by omega
              have hcast : ((j : Int) - 1) = (q : Int) := by omega
              have hgt : decide (0 < j) = true := by simp; omega
              have hgt2 : 0 < j := by omega
              obtain ⟨b', o', eb, q0, q1, _⟩ := Posts.at Z6.out.posts q hqk
              cases eb
              have z0 := After.cell q0
              have z1 := After.cell q1
              have HBF : Hid (∀ wx, Below wr.heap.size wr wx → Calls Try.prog 22 #[.agg #[.int .i64 (pk L q), .string (bs (pn L q))], .agg #[.int .i64 (pk L j), .string (bs (pn L j))]] wx fun e w' => e = .returned (.bool true) ∧ Below wr.heap.size wr w') := fun wx hx => by
                have := ZSt.before (wr := wr) (pk L q, pn L q) (pk L j, pn L j) wx hx
                have hjq : j = q + 1 := by omega
                have h2 := HI.out.next (i := q) (by omega)
                rw [hjq] at this ⊢
                rw [h2] at this
                exact this
              clear hq q0 q1
              go_upto_region 14 with fail
              refine wp_region_after (w0 := wr) (B := wr.heap.size) (by kernel_rfl) (by kernel_rfl) (Below.refl _ _) ?_
              repeat (go_big_quiet_step (first | (go_at_call 22; exact Calls.after_of (HBF.out _ (After.below _))) | exact Calls.after_of (HBL.out _ (After.below _))))
              refine wpQuiet_nil ?_
              rintro _ ⟨x, rfl⟩
              clear y0 y1 z0 z1 p2 hgt hgt2 hcast
              go_wp2_with fail
              go_roundw
              case rel => exact ⟨j + 1, congrArg (Value.int .i64) HQ.out, by go_num, by omega, Z6.out.step x.below⟩
              case measure => simp [intOf]; omega
          · have hj' : j = k := by omega
            subst hj'
            have ht : totR L j = 0 := by rw [← hkL, totR_sum]; exact balances_zero HAL.out HI.out
            rw [ht]
            clear ht
            go_wp2_with fail
            change Calls Try.prog 20 _ _ _
            refine Z6.out.bookings.mono ?_
            rintro e w7 ⟨lb, m, c2, rfl, h7, hB7⟩
            have Z7 : Hid (ZSt w1 w7 g As la j L lb m As) := ⟨h7.one, h7.posts, hB7⟩
            have hmA := hB7.len
            clear h7 hB7 Z6
            obtain ⟨wp, rfl⟩ : ∃ wp : World, wp = wr := ⟨wr, rfl⟩
            go_wp2_with fail
            go_loopw [10, 11, 12] (fun v10 _ _ wr => ∃ i1 : Nat, v10 = .int .i64 i1 ∧ i1 ≤ m ∧ Hid (ZSt w1 wr g As la j L lb m As)) (fun v10 _ _ _ => m - (intOf v10).toNat)
            case atStart => exact ⟨0, rfl, Nat.zero_le _, Z7⟩
            case round =>
              obtain ⟨i1, rfl, hi1, Z8⟩ := hrel
              clear Z7
              by_cases hlt1 : i1 < m
              · have hib : i1 < As.length := by omega
                have HFI : Hid (formedS As[i1] = true) := (HAL.out _ (List.getElem_mem hib)).1
                have hpl := (formed_len HFI.out).2
                go_wp2_with fail
                obtain ⟨wq, rfl⟩ : ∃ wq : World, wq = wr := ⟨wr, rfl⟩
                go_loopw [11, 12] (fun v11 _ wr => ∃ j1 : Nat, v11 = .int .i64 j1 ∧ j1 ≤ (As[i1]).2.length ∧ Hid (ZSt w1 wr g As la j L lb m As)) (fun v11 _ _ => (As[i1]).2.length - (intOf v11).toNat)
                case atStart => exact ⟨0, rfl, Nat.zero_le _, Z8⟩
                case round =>
                  obtain ⟨j1, rfl, hj1, Z9⟩ := hrel
                  clear Z8
                  obtain ⟨b, o, pb, pc, pd, rfl, c0, c1', hp⟩ := Z9.out.books.at i1 hlt1 hib
                  have hpn := hp.1
                  subst hpn
                  by_cases hjl : j1 < (As[i1]).2.length
                  · obtain ⟨b2, o2, rfl, p0, p1, p2⟩ := Posts.at hp j1 hjl
                    have hwf := accS_wf (formed_acc HFI.out hjl)
                    generalize pk (As[i1]).2 j1 = kx at *
                    generalize pn (As[i1]).2 j1 = tx at *
                    have HWF := Lib.hid hwf
                    clear hp hwf p2
                    go_upto_region 25 with fail
                    have hal := Joins.below_alloc1 wr (.cells #[.int .i64 kx, .string (bs tx)] 39)
                    have hn := World.alloc_heap_new wr (.cells #[.int .i64 kx, .string (bs tx)] 39)
                    have Z10 := Lib.hid (Z9.out.step hal)
                    clear p0 p1 c0 c1' hal
                    generalize wr.alloc (.cells #[.int .i64 kx, .string (bs tx)] 39) = w8 at *
                    have x0 : w8.cell? ⟨wr.heap.size, 0, none⟩ = some (.int .i64 kx) := by rw [cell_of_row _ _ _ _ _ _ hn]; rfl
                    have x1 : w8.cell? ⟨wr.heap.size, 1, none⟩ = some (.string (bs tx)) := by rw [cell_of_row _ _ _ _ _ _ hn]; rfl
                    have y0 := After.cell x0
                    have y1 := After.cell x1
                    have HBL := Lib.hid (fun wx hx => Z10.out.balance kx tx HWF.out wx hx)
                    have HPO := Lib.hid (fun wx hx => Z10.out.posted c2 kx tx (by omega) (fun b hb => (HAL.out b hb).1) wx hx)
                    generalize balS As (kx, tx) = v at *
                    clear x0 x1 hn HWF
                    refine wp_region_after (w0 := w8) (B := w8.heap.size) (by kernel_rfl) (by kernel_rfl) (Below.refl _ _) ?_
                    repeat (go_big_quiet_step (first | (go_at_call 17; exact Calls.after_of (HBL.out _ (After.below _))) | exact Calls.after_of (HPO.out _ (After.below _))))
                    refine wpQuiet_nil ?_
                    rintro _ ⟨x, rfl⟩
                    clear y0 y1 HBL HPO
                    go_wp2_with fail
                    go_roundw
                    case rel => exact ⟨j1 + 1, by go_num, by omega, Z10.out.step x.below⟩
                    case measure => simp [intOf]; omega
                  · have hj' : j1 = (As[i1]).2.length := by omega
                    subst hj'
                    go_wp2_with fail
                    go_roundw
                    case rel => exact ⟨i1 + 1, by go_num, by omega, Z9⟩
                    case measure => simp [intOf]; omega
              · have hi' : i1 = m := by omega
                subst hi'
                go_wp2_with fail
                obtain ⟨wq, rfl⟩ : ∃ wq : World, wq = wr := ⟨wr, rfl⟩
                go_loopw [13] (fun v13 wr => ∃ q : Nat, v13 = .int .i64 q ∧ q ≤ j ∧ Hid (ZSt w1 wr g As la j L lb i1 As)) (fun v13 _ => j - (intOf v13).toNat)
                case atStart => exact ⟨0, rfl, Nat.zero_le _, Z8⟩
                case round =>
                  obtain ⟨q, rfl, hq, Z9⟩ := hrel
                  clear Z8
                  by_cases hqj : q < j
                  · obtain ⟨b, o, rfl, p0, p1, p2⟩ := Posts.at Z9.out.posts q hqj
                    have hat := HI.out.at (i := q) (by omega)
                    have HPO : Hid (∀ wx, Below wr.heap.size wr wx → Calls Try.prog 23 #[.slice lb i1 c2, .agg #[.int .i64 (pk L q), .string (bs (pn L q))]] wx fun e w' => e = .returned (.int .i64 (pa L q)) ∧ Below wr.heap.size wr w') := fun wx hx => by
                      have := Z9.out.posted c2 (pk L q) (pn L q) (by omega) (fun b hb => (HAL.out b hb).1) wx hx
                      rw [hat.1] at this
                      exact this
                    have y0 := After.cell p0
                    have y1 := After.cell p1
                    have y2 := After.cell p2
                    clear hat p0 p1 p2
                    generalize pk L q = kx at *
                    generalize pn L q = tx at *
                    generalize pa L q = v at *
                    go_upto_region 30 with fail
                    refine wp_region_after (w0 := wr) (B := wr.heap.size) (by kernel_rfl) (by kernel_rfl) (Below.refl _ _) ?_
                    repeat (go_big_quiet_step (exact Calls.after_of (HPO.out _ (After.below _))))
                    refine wpQuiet_nil ?_
                    rintro _ ⟨x, rfl⟩
                    clear y0 y1 y2 HPO
                    go_wp2_with fail
                    go_roundw
                    case rel => exact ⟨q + 1, by go_num, by omega, Z9.out.step x.below⟩
                    case measure => simp [intOf]; omega
                  · have hq' : q = j := by omega
                    subst hq'
                    go_wp2_with fail
                    go_ret
                    exact ⟨rfl, HB1.out.trans (Z9.out.one.below.mono hs1)⟩
  · have hf0 : fewS Bs 40 = false := by simpa using hf
    rw [hf0]
    go_wp2_with fail
    go_ret
    exact ⟨rfl, HB1.out⟩
end Go.Proofs.Ytafhdpalobalkaa
