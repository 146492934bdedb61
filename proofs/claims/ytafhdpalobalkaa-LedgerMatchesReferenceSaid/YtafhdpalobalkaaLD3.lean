/- ledger: LedgerOrder: the walk. -/
import Derived.Test.YtafhdpalobalkaaLD2
namespace Go.Proofs.Ytafhdpalobalkaa
open Go.RowKit Go.IntWalk

/-- The bookings that came in hold names and kinds that Go can hold. -/
def WfB (Bs : List BookT) : Prop := ∀ b ∈ Bs, ∀ i, i < b.2.length → (pn b.2 i).length ≤ maxLen ∧ (Lit.int .i64 (pk b.2 i)).wf = true

theorem TwoSt.start {w w1 w2 : World} {g h : Nat} (b1 : Below w.heap.size w w1) (l1 : LedAt w1 (Fresh w.heap.size w1.heap.size) g []) (b2 : Below w1.heap.size w1 w2) (l2 : LedAt w2 (Fresh w1.heap.size w2.heap.size) h []) : TwoSt w w2 g h [] [] :=
  ⟨b1.trans (b2.mono b1.size), _, _, l1.below b2, l2, fun i hi => ⟨hi.1, fun ht => by have := hi.2; have := ht.1; omega⟩, fun i hi => Nat.le_trans b1.size hi.1⟩

set_option maxRecDepth 10000 in
set_option maxHeartbeats 1600000 in
theorem order_any (ra : Option Addr) (n c : Nat) (Bs : List BookT) (w : World) (hB : Books w ra n Bs) (hn : n ≤ 9223372036854775807) (hw : WfB Bs) :
    Calls Try.prog 6 #[.slice ra n c] w fun e w' => e = .returned (.bool true) ∧ Below w.heap.size w w' := by
  have HB := Lib.hid hB
  have HW := Lib.hid hw
  have hlen := hB.len
  clear hB hw
  go_enter Try.func6, Try.ntmps6
  go_wp2_with fail
  refine (head_any w).mono ?_
  rintro e w1 ⟨rfl, hb1⟩
  have HB1 := Lib.hid hb1
  have hs1 := hb1.size
  clear hb1
  go_wp2_with fail
  change Calls Try.prog 9 _ _ _
  refine (few_any ra n c 40 Bs w1 (HB.out.below HB1.out) hn (by omega)).mono ?_
  rintro e w2 ⟨rfl, rfl⟩
  by_cases hf : fewS Bs 40 = true
  · rw [hf]
    have HF := Lib.hid hf
    clear hf
    go_wp2_with fail
    change Calls Try.prog 10 _ _ _
    refine (new_any w1).mono ?_
    rintro e w2 ⟨g, rfl, hb2, hl2⟩
    have HB2 := Lib.hid hb2
    have HL2 := Lib.hid hl2
    clear hb2 hl2
    go_wp2_with fail
    change Calls Try.prog 10 _ _ _
    refine (new_any w2).mono ?_
    rintro e w3 ⟨h, rfl, hb3, hl3⟩
    have H3 := Lib.hid (TwoSt.start HB2.out HL2.out hb3 hl3)
    clear hb3 hl3
    go_wp2_with fail
    have hn40 : n ≤ 40 := by
      have h0 := HF.out
      unfold fewS at h0
      simp only [Bool.and_eq_true, decide_eq_true_eq] at h0
      omega
    have HP : Hid (∀ i (hi : i < Bs.length) (m : Nat), (Bs[i]).2.length = m → m ≤ 25) := fun i hi m hm => by
      have h0 := HF.out
      unfold fewS at h0
      simp only [Bool.and_eq_true, List.all_eq_true, decide_eq_true_eq] at h0
      have := h0.2 _ (List.getElem_mem hi)
      omega
    go_loopw [6] (fun v6 wr => ∃ i : Nat, v6 = .int .i64 i ∧ i ≤ n ∧ Hid (TwoSt w1 wr g h (Bs.take i) (Bs.reverse.take i))) (fun v6 _ => n - (intOf v6).toNat)
    case atStart => exact ⟨0, rfl, Nat.zero_le _, H3.out⟩
    case round =>
      obtain ⟨i, rfl, hi, H4⟩ := hrel
      by_cases hlt : i < n
      · obtain ⟨b1, o1, pa1, pn1, pc1, e1, c0, c1, hp1⟩ := (HB.out.below (HB1.out.trans (H4.out.below.mono hs1))).at i hlt (by omega)
        have hib : i < Bs.length := by omega
        have hm1 := HP.out i hib pn1 hp1.1
        have hlA : (Bs.take i).length < 100 := by simp; omega
        have hlB : (Bs.reverse.take i).length < 100 := by simp; omega
        have HC1 : Hid (Calls Try.prog 12 #[.pointer (some ⟨g, 0, none⟩), .agg #[.int .i64 (Bs[i]).1, .slice pa1 pn1 pc1]] wr fun e w' => e = .returned (.int .i64 (bookE (Bs.take i) Bs[i])) ∧ TwoSt w1 w' g h (bookS (Bs.take i) Bs[i]) (Bs.reverse.take i)) :=
          H4.out.book _ pa1 pn1 pc1 (Bs[i]).2 hlA (by omega) hp1 (HW.out _ (List.getElem_mem hib))
        clear hp1 hm1
        subst e1
        obtain ⟨er, her⟩ : ∃ er, er = bookE (Bs.take i) Bs[i] := ⟨_, rfl⟩
        rw [← her] at HC1
        have HER := Lib.hid her
        clear her
        go_wp2_with fail
        refine HC1.out.mono ?_
        rintro e w5 ⟨rfl, h5⟩
        have H5 := Lib.hid h5
        clear h5 HC1 c0 c1
        by_cases h0 : er = 0
        · have H0 := Lib.hid h0
          subst h0
          have hst : bookS (Bs.take i) Bs[i] = Bs.take (i + 1) := by
            unfold bookS
            rw [if_pos HER.out.symm]
            exact (List.take_succ_eq_append_getElem hib).symm
          rw [hst] at H5
          have hjb : n - 1 - i < Bs.length := by omega
          obtain ⟨b2, o2, pa2, pn2, pc2, e2, d0, d1, hp2⟩ := (HB.out.below (HB1.out.trans (H5.out.below.mono hs1))).at (n - 1 - i) (by omega) hjb
          have hm2 := HP.out (n - 1 - i) hjb pn2 hp2.1
          have HC2 : Hid (Calls Try.prog 12 #[.pointer (some ⟨h, 0, none⟩), .agg #[.int .i64 (Bs[n - 1 - i]).1, .slice pa2 pn2 pc2]] w5 fun e w' => e = .returned (.int .i64 (bookE (Bs.reverse.take i) Bs[n - 1 - i])) ∧ TwoSt w1 w' h g (bookS (Bs.reverse.take i) Bs[n - 1 - i]) (Bs.take (i + 1))) :=
            H5.out.swap.book _ pa2 pn2 pc2 (Bs[n - 1 - i]).2 hlB (by omega) hp2 (HW.out _ (List.getElem_mem hjb))
          clear hp2 hm2
          cases e2
          have hcast : ((n : Int) - 1 - (i : Int)) = ((n - 1 - i : Nat) : Int) := by omega
          obtain ⟨bk, hbk⟩ : ∃ bk, bk = Bs[n - 1 - i] := ⟨_, rfl⟩
          have HBK := Lib.hid hbk
          rw [← hbk] at HC2 d0
          clear hbk
          obtain ⟨e2r, he2⟩ : ∃ er, er = bookE (Bs.reverse.take i) bk := ⟨_, rfl⟩
          rw [← he2] at HC2
          have HE2 := Lib.hid he2
          clear he2
          generalize hj : n - 1 - i = j at *
          have hjn : j < n := by omega
          clear hj
          go_wp2_with fail
          refine HC2.out.mono ?_
          rintro e w6 ⟨rfl, h6⟩
          have H6 := Lib.hid h6
          clear h6 HC2 d0 d1
          by_cases h0 : e2r = 0
          · have H02 := Lib.hid h0
            subst h0
            have hrb : i < Bs.reverse.length := by simp; omega
            have hbk2 : bk = Bs.reverse[i] := by
              rw [HBK.out, List.getElem_reverse]
              congr 1
              omega
            have hst2 : bookS (Bs.reverse.take i) bk = Bs.reverse.take (i + 1) := by
              unfold bookS
              rw [if_pos HE2.out.symm, hbk2]
              exact (List.take_succ_eq_append_getElem hrb).symm
            rw [hst2] at H6
            clear hst2 hbk2 hst
            go_wp2_with fail
            go_roundw
            case rel => exact ⟨i + 1, by go_num, by omega, H6.out.swap⟩
            case measure => simp [intOf]; omega
          · have hz : (e2r == 0) = false := by simp [h0]
            go_wp2_with fail
            go_ret
            exact ⟨rfl, HB1.out.trans (H6.out.below.mono hs1)⟩
        · have hz : (er == 0) = false := by simp [h0]
          go_wp2_with fail
          go_ret
          exact ⟨rfl, HB1.out.trans (H5.out.below.mono hs1)⟩
      · have hi' : i = n := by omega
        subst hi'
        have hA : Bs.take i = Bs := List.take_of_length_le (by omega)
        have hR : Bs.reverse.take i = Bs.reverse := List.take_of_length_le (by simp; omega)
        rw [hA, hR] at H4
        clear hA hR
        go_wp2_with fail
        change Calls Try.prog 15 _ _ _
        refine H4.out.balances.mono ?_
        rintro e w5 ⟨la, k, c1, L, rfl, h5, hp5, hi5, hk5⟩
        have H5 := Lib.hid h5
        have HP5 := Lib.hid hp5
        have HI5 := Lib.hid hi5
        clear h5 hp5 hi5
        go_wp2_with fail
        change Calls Try.prog 15 _ _ _
        obtain ⟨S, T, l1, l2, l3, l4⟩ := H5.out.swap.leds
        refine (balances_any S h Bs.reverse w5 l1 l1.ok.wf).mono ?_
        rintro e w6 ⟨lb, k2, c2, L2, rfl, hb6, ho6, hi6, hk6⟩
        have hLL : L2 = L := by
          rw [balS_reverse] at hi6
          exact hi6.unique HI5.out
        subst hLL
        have HB6 := Lib.hid hb6
        have HP6 := Lib.hid ho6.recs
        have HP5 := Lib.hid (HP5.out.below HB6.out)
        clear hb6 ho6 hi6 l1 l2 l3 l4
        go_wp2_with fail
        change Calls Try.prog 14 _ _ _
        refine (same_any la lb k c1 k2 c2 L2 L2 w6 HP5.out HP6.out (by omega) (by omega)).mono ?_
        rintro e w7 ⟨rfl, hb7⟩
        have HB7 := Lib.hid hb7
        clear hb7
        have ht : decide (L2 = L2) = true := by simp
        rw [ht]
        go_wp2_with fail
        go_ret
        have hs5 := H5.out.below.size
        exact ⟨rfl, HB1.out.trans ((H5.out.below.trans ((HB6.out.trans (HB7.out.mono HB6.out.size)).mono hs5)).mono hs1)⟩
  · have hf0 : fewS Bs 40 = false := by simpa using hf
    rw [hf0]
    go_wp2_with fail
    go_ret
    exact ⟨rfl, HB1.out⟩
end Go.Proofs.Ytafhdpalobalkaa
