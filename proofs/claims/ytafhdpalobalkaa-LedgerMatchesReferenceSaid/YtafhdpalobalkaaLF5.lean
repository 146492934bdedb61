/- ledger: LedgerMatchesReference: the walk. -/
import Derived.Test.YtafhdpalobalkaaLF4
namespace Go.Proofs.Ytafhdpalobalkaa
open Go.RowKit Go.IntWalk Go.Maps Go.ChangeMaps

set_option maxRecDepth 10000 in
set_option maxHeartbeats 6400000 in
theorem matches_any (ra : Option Addr) (n c : Nat) (Bs : List BookT) (rb : Option Addr) (nb cb : Nat) (Ac : List AccT) (w : World) (hB : Books w ra n Bs) (hn : n ≤ 9223372036854775807) (hw : WfB Bs)
    (hnb : nb ≤ 9223372036854775807) (hA : Recs AccE w rb nb Ac) (hwa : ∀ a ∈ Ac, WfA a) :
    Calls Try.prog 3 #[.slice ra n c, .slice rb nb cb] w fun e w' => e = .returned (.bool true) ∧ Below w.heap.size w w' := by
  have HB := Lib.hid hB
  have HW := Lib.hid hw
  have HAC := Lib.hid hA
  have HWA := Lib.hid hwa
  have hlen := hB.len
  have hal := hA.1
  clear hB hw hA hwa
  go_enter Try.func3, Try.ntmps3
  go_wp2_with fail
  refine (head_any w).mono ?_
  rintro e w1 ⟨rfl, hb1⟩
  have HB1 := Lib.hid hb1
  have hs1 := hb1.size
  clear hb1
  go_wp2_with fail
  change Calls Try.prog 9 _ _ _
  refine (few_any ra n c 40 Bs w1 (HB.out.below HB1.out) hn (by omega)).mono ?_
  rintro e w2 ⟨rfl, rfl⟩
  by_cases hf : fewS Bs 40 = true
  · rw [hf]
    have HF := Lib.hid (few_40 hf)
    clear hf
    by_cases h20 : 20 < nb
    · go_wp2_with fail
      go_ret
      exact ⟨rfl, HB1.out⟩
    · go_wp2_with fail
      change Calls Try.prog 10 _ _ _
      refine (new_any w1).mono ?_
      rintro e w2 ⟨g, rfl, hb2, hl2⟩
      have HB2 := Lib.hid hb2
      have HL2 := Lib.hid hl2
      clear hb2 hl2
      go_wp2_with fail
      change Calls Try.prog 11 _ _ _
      refine (rnew_any w2).mono ?_
      rintro e w3 ⟨rfl, hb3, hl3⟩
      have H3 := Lib.hid (MSt.start HB2.out HL2.out hb3 hl3)
      obtain ⟨h, hh⟩ : ∃ h, h = w2.heap.size := ⟨_, rfl⟩
      rw [← hh] at H3 ⊢
      clear hb3 hl3 HB2 HL2 hh
      have hn40 : n ≤ 40 := by have := HF.out.1; omega
      go_wp2_with fail
      go_loopw [8] (fun v8 wr => ∃ i : Nat, v8 = .int .i64 i ∧ i ≤ n ∧ Hid (∃ rs, MSt w1 wr g h (runS (Bs.take i)) (runS (Bs.take i)) rs)) (fun v8 _ => n - (intOf v8).toNat)
      case atStart => exact ⟨0, rfl, Nat.zero_le _, [], H3.out⟩
      case round =>
        obtain ⟨i, rfl, hi, HM⟩ := hrel
        clear H3
        obtain ⟨rs, hm⟩ := HM.out
        have M0 := Lib.hid hm
        clear hm HM
        by_cases hlt : i < n
        · have hib : i < Bs.length := by omega
          obtain ⟨b1, o1, pa1, pn1, pc1, e1, c0, c1, hp1⟩ := (HB.out.below HB1.out).at i hlt hib
          subst e1
          have hm1 := HF.out.2 i hib
          rw [hp1.1] at hm1
          have hlA : (runS (Bs.take i)).length < 100 := by
            have := runS_le (Bs.take i)
            rw [List.length_take] at this
            omega
          have HP1 := Lib.hid hp1
          have HKEEP : Hid (∀ w', Below w1.heap.size w1 w' → w'.cell? ⟨b1, o1 + i * 2, none⟩ = some (.int .i64 (Bs[i]).1) ∧ w'.cell? ⟨b1, o1 + i * 2 + 1, none⟩ = some (.slice pa1 pn1 pc1)) := fun w' hx => ⟨Below.cell_of hx c0, Below.cell_of hx c1⟩
          obtain ⟨er, her⟩ : ∃ er, er = bookE (runS (Bs.take i)) Bs[i] := ⟨_, rfl⟩
          have HRN : Hid (bookS (runS (Bs.take i)) Bs[i] = runS (Bs.take (i + 1))) := (runS_take hib).symm
          have HER := Lib.hid her
          clear her hp1 c0 c1
          have hh := HKEEP.out wr.drew M0.out.drew.below
          have y0 := (HKEEP.out wr M0.out.below).1
          have y1 := (HKEEP.out wr M0.out.below).2
          go_upto_region 9 with fail
          refine wp_region_held_drew (S := fun w' => w'.cell? ⟨b1, o1 + i * 2, none⟩ = some (.int .i64 (Bs[i]).1) ∧ w'.cell? ⟨b1, o1 + i * 2 + 1, none⟩ = some (.slice pa1 pn1 pc1)) (by kernel_rfl) ⟨y0, y1⟩ (fun hHeld => ?_)
          refine take_at (i := 0) (v := ?_) 28 rfl rfl (by kernel_rfl) (by kernel_rfl) (by kernel_rfl) (fun _ _ _ h => h) (Or.inl ⟨by rfl, ?_⟩) (by assumption) ?_
          rotate_left
          · intro w hSw; go_simp <;> with_reducible rfl
          try simp only [Act.put, List.setIfInBounds_toArray, List.set_cons_zero, List.set_cons_succ]
          refine take_at (i := 1) (v := ?_) 29 rfl rfl (by kernel_rfl) (by kernel_rfl) (by kernel_rfl) (fun _ _ _ h => h) (Or.inl ⟨by rfl, ?_⟩) (by assumption) ?_
          rotate_left
          · intro w hSw; go_simp <;> with_reducible rfl
          try simp only [Act.put, List.setIfInBounds_toArray, List.set_cons_zero, List.set_cons_succ]
          refine take_at (i := 2) (v := ?_) 30 rfl rfl (by kernel_rfl) (by kernel_rfl) (by kernel_rfl) (fun _ _ _ h => h) (Or.inl ⟨by rfl, ?_⟩) (by assumption) ?_
          rotate_left
          · intro w hSw; go_simp <;> with_reducible rfl
          try simp only [Act.put, List.setIfInBounds_toArray, List.set_cons_zero, List.set_cons_succ]
          refine take_at (i := 3) (v := ?_) 31 rfl rfl (by kernel_rfl) (by kernel_rfl) (by kernel_rfl) (fun _ _ _ h => h) (Or.inl ⟨by rfl, ?_⟩) (by assumption) ?_
          rotate_left
          · intro w hSw; go_simp <;> with_reducible rfl
          try simp only [Act.put, List.setIfInBounds_toArray, List.set_cons_zero, List.set_cons_succ]
          refine take_at (i := 4) (v := ?_) 32 rfl rfl (by kernel_rfl) (by kernel_rfl) (by kernel_rfl) (fun _ _ _ h => h) (Or.inl ⟨by rfl, ?_⟩) (by assumption) ?_
          rotate_left
          · intro w hSw; go_simp <;> with_reducible rfl
          try simp only [Act.put, List.setIfInBounds_toArray, List.set_cons_zero, List.set_cons_succ]
          refine take_at (i := 6) (v := ?_) 34 rfl rfl (by kernel_rfl) (by kernel_rfl) (by kernel_rfl) (fun _ _ _ h => h) (Or.inl ⟨by rfl, ?_⟩) (by assumption) ?_
          rotate_left
          · intro w hSw; go_simp <;> with_reducible rfl
          try simp only [Act.put, List.setIfInBounds_toArray, List.set_cons_zero, List.set_cons_succ]
          refine take_at (i := 7) (v := ?_) 35 rfl rfl (by kernel_rfl) (by kernel_rfl) (by kernel_rfl) (fun _ _ _ h => h) (Or.inl ⟨by rfl, ?_⟩) (by assumption) ?_
          rotate_left
          · intro w hSw; go_simp <;> with_reducible rfl
          try simp only [Act.put, List.setIfInBounds_toArray, List.set_cons_zero, List.set_cons_succ]
          refine take_at (i := 8) (v := ?_) 36 rfl rfl (by kernel_rfl) (by kernel_rfl) (by kernel_rfl) (fun _ _ _ h => h) (Or.inl ⟨by rfl, ?_⟩) (by assumption) ?_
          rotate_left
          · intro w hSw; go_simp <;> with_reducible rfl
          try simp only [Act.put, List.setIfInBounds_toArray, List.set_cons_zero, List.set_cons_succ]
          refine take_at (i := 9) (v := ?_) 37 rfl rfl (by kernel_rfl) (by kernel_rfl) (by kernel_rfl) (fun _ _ _ h => h) (Or.inl ⟨by rfl, ?_⟩) (by assumption) ?_
          rotate_left
          · intro w hSw; go_simp <;> with_reducible rfl
          try simp only [Act.put, List.setIfInBounds_toArray, List.set_cons_zero, List.set_cons_succ]
          refine take_at (i := 10) (v := ?_) 38 rfl rfl (by kernel_rfl) (by kernel_rfl) (by kernel_rfl) (fun _ _ _ h => h) (Or.inl ⟨by rfl, ?_⟩) (by assumption) ?_
          rotate_left
          · intro w hSw; go_simp <;> with_reducible rfl
          try simp only [Act.put, List.setIfInBounds_toArray, List.set_cons_zero, List.set_cons_succ]
          clear y0 y1 hh
          have HC1 : Hid (Calls Try.prog 12 #[.pointer (some ⟨g, 0, none⟩), .agg #[.int .i64 (Bs[i]).1, .slice pa1 pn1 pc1]] wr.drew fun e w' => e = .returned (.int .i64 er) ∧ MSt w1 w' g h (runS (Bs.take (i + 1))) (runS (Bs.take i)) rs) := by
            have := M0.out.drew.bookA (Bs[i]).1 pa1 pn1 pc1 (Bs[i]).2 hlA (by omega) HP1.out (HW.out _ (List.getElem_mem hib))
            rw [HER.out, ← HRN.out]
            exact this
          refine wpAnyH_ready (rs := [5]) (by kernel_rfl) (by simp) ?_
          refine AllReadyH.cons rfl (fun K' hK => ?_) AllReadyH.nil
          go_simp
          refine HC1.out.mono ?_
          rintro e w5 ⟨rfl, hm5⟩
          have M5 := Lib.hid hm5
          clear hm5 HC1
          go_simp
          refine hK.out _ _ (HKEEP.out w5 M5.out.below) (fun hHeld => ?_)
          clear hK K'
          try simp only [Act.put, List.setIfInBounds_toArray, List.set_cons_zero, List.set_cons_succ]
          have HC2 : Hid (Calls Try.prog 13 #[.pointer (some ⟨h, 0, none⟩), .agg #[.int .i64 (Bs[i]).1, .slice pa1 pn1 pc1]] w5 fun e w' => e = .returned (.int .i64 er) ∧ ∃ rs', MSt w1 w' g h (runS (Bs.take (i + 1))) (runS (Bs.take (i + 1))) rs') := by
            have := M5.out.bookB (Bs[i]).1 pa1 pn1 pc1 (Bs[i]).2 hlA (by omega) HP1.out (HW.out _ (List.getElem_mem hib))
            have h2 : bookS (runS (Bs.take i)) ((Bs[i]).1, (Bs[i]).2) = runS (Bs.take (i + 1)) := HRN.out
            rw [h2] at this
            rw [HER.out]
            exact this
          refine wpAnyH_ready (rs := [11]) (by kernel_rfl) (by simp) ?_
          refine AllReadyH.cons rfl (fun K' hK => ?_) AllReadyH.nil
          go_simp
          refine HC2.out.mono ?_
          rintro e w6 ⟨rfl, rs6, hm6⟩
          have M6 := Lib.hid hm6
          clear hm6 HC2 M5
          go_simp
          refine hK.out _ _ (HKEEP.out w6 M6.out.below) (fun hHeld => ?_)
          clear hK K'
          try simp only [Act.put, List.setIfInBounds_toArray, List.set_cons_zero, List.set_cons_succ]
          refine take_at (i := 12) (v := ?_) 40 rfl rfl (by kernel_rfl) (by kernel_rfl) (by kernel_rfl) (fun _ _ _ h => h) (Or.inl ⟨by rfl, ?_⟩) (by assumption) ?_
          rotate_left
          · intro w hSw; go_simp <;> with_reducible rfl
          try simp only [Act.put, List.setIfInBounds_toArray, List.set_cons_zero, List.set_cons_succ]
          refine take_at (i := 13) (v := ?_) 41 rfl rfl (by kernel_rfl) (by kernel_rfl) (by kernel_rfl) (fun _ _ _ h => h) (Or.inl ⟨by rfl, ?_⟩) (by assumption) ?_
          rotate_left
          · intro w hSw; go_simp <;> with_reducible rfl
          try simp only [Act.put, List.setIfInBounds_toArray, List.set_cons_zero, List.set_cons_succ]
          refine take_at (i := 14) (v := ?_) 42 rfl rfl (by kernel_rfl) (by kernel_rfl) (by kernel_rfl) (fun _ _ _ h => h) (Or.inl ⟨by rfl, ?_⟩) (by assumption) ?_
          rotate_left
          · intro w hSw; go_simp <;> with_reducible rfl
          try simp only [Act.put, List.setIfInBounds_toArray, List.set_cons_zero, List.set_cons_succ]
          refine take_at (i := 16) (v := ?_) 44 rfl rfl (by kernel_rfl) (by kernel_rfl) (by kernel_rfl) (fun _ _ _ h => h) (Or.inl ⟨by rfl, ?_⟩) (by assumption) ?_
          rotate_left
          · intro w hSw; go_simp <;> with_reducible rfl
          try simp only [Act.put, List.setIfInBounds_toArray, List.set_cons_zero, List.set_cons_succ]
          have HC3 := Lib.hid M6.out.balA
          refine wpAnyH_ready (rs := [15]) (by kernel_rfl) (by simp) ?_
          refine AllReadyH.cons rfl (fun K' hK => ?_) AllReadyH.nil
          go_simp
          refine HC3.out.mono ?_
          rintro e w7 ⟨la, k, c1, L, rfl, hm7, hp7, hi7, hk7⟩
          have M7 := Lib.hid hm7
          have HP7 := Lib.hid hp7
          have HI7 := Lib.hid hi7
          clear hm7 hp7 hi7 HC3 M6
          go_simp
          refine hK.out _ _ (HKEEP.out w7 M7.out.below) (fun hHeld => ?_)
          clear hK K'
          try simp only [Act.put, List.setIfInBounds_toArray, List.set_cons_zero, List.set_cons_succ]
          have HC4 := Lib.hid M7.out.balB
          refine wpAnyH_ready (rs := [17]) (by kernel_rfl) (by simp) ?_
          refine AllReadyH.cons rfl (fun K' hK => ?_) AllReadyH.nil
          go_simp
          refine HC4.out.mono ?_
          rintro e w8 ⟨lb, k2, c2, L2, rfl, ⟨rfl, hp8⟩, hi8, hk8⟩
          have hLL : L2 = L := hi8.unique HI7.out
          subst hLL
          have HP8 := Lib.hid hp8
          clear hp8 hi8 HC4
          go_simp
          refine hK.out _ _ (HKEEP.out w7 M7.out.below) (fun hHeld => ?_)
          clear hK K'
          try simp only [Act.put, List.setIfInBounds_toArray, List.set_cons_zero, List.set_cons_succ]
          have HC5 : Hid (Calls Try.prog 14 #[.slice la k c1, .slice lb k2 c2] w7 fun e w' => e = .returned (.bool true) ∧ MSt w1 w' g h (runS (Bs.take (i + 1))) (runS (Bs.take (i + 1))) rs6) := by
            refine (same_any la lb k c1 k2 c2 L2 L2 w7 HP7.out HP8.out (by omega) (by omega)).mono ?_
            rintro e w' ⟨rfl, hb⟩
            exact ⟨by simp, M7.out.step hb⟩
          refine wpAnyH_ready (rs := [18]) (by kernel_rfl) (by simp) ?_
          refine AllReadyH.cons rfl (fun K' hK => ?_) AllReadyH.nil
          go_simp
          refine HC5.out.mono ?_
          rintro e w9 ⟨rfl, hm9⟩
          have M9 := Lib.hid hm9
          clear hm9 HC5
          go_simp
          refine hK.out _ _ (HKEEP.out w9 M9.out.below) (fun hHeld => ?_)
          clear hK K'
          try simp only [Act.put, List.setIfInBounds_toArray, List.set_cons_zero, List.set_cons_succ]
          refine take_at (i := 19) (v := ?_) 47 rfl rfl (by kernel_rfl) (by kernel_rfl) (by kernel_rfl) (fun _ _ _ h => h) (Or.inl ⟨by rfl, ?_⟩) (by assumption) ?_
          rotate_left
          · intro w hSw; go_simp <;> with_reducible rfl
          try simp only [Act.put, List.setIfInBounds_toArray, List.set_cons_zero, List.set_cons_succ]
          refine take_at (i := 20) (v := ?_) 48 rfl rfl (by kernel_rfl) (by kernel_rfl) (by kernel_rfl) (fun _ _ _ h => h) (Or.inl ⟨by rfl, ?_⟩) (by assumption) ?_
          rotate_left
          · intro w hSw; go_simp <;> with_reducible rfl
          try simp only [Act.put, List.setIfInBounds_toArray, List.set_cons_zero, List.set_cons_succ]
          refine wpAnyH_done (by kernel_rfl) ?_ _
          clear hHeld HP7 HP8 HI7 M7 HKEEP HER HRN
          go_wp2_with fail
          go_roundw
          case rel => exact ⟨i + 1, by go_num, by omega, rs6, M9.out⟩
          case measure => simp [intOf]; omega
        · have hi' : i = n := by omega
          subst hi'
          have hT : Bs.take i = Bs := List.take_of_length_le (by omega)
          rw [hT] at M0
          obtain ⟨As, hAs⟩ : ∃ As, As = runS Bs := ⟨_, rfl⟩
          rw [← hAs] at M0
          have hlA : As.length ≤ 40 := by
            rw [hAs]
            have := runS_le Bs
            omega
          clear hT hAs
          obtain ⟨wo, rfl⟩ : ∃ wo : World, wo = wr := ⟨wr, rfl⟩
          go_wp2_with fail
          go_loopw [9] (fun v9 wr => ∃ j : Nat, v9 = .int .i64 j ∧ j ≤ nb ∧ Hid (MSt w1 wr g h As As rs)) (fun v9 _ => nb - (intOf v9).toNat)
          case atStart => exact ⟨0, rfl, Nat.zero_le _, M0⟩
          case round =>
            obtain ⟨j, rfl, hj, M1⟩ := hrel
            clear M0
            by_cases hjn : j < nb
            · obtain ⟨b2, o2, e2, cc⟩ := (HAC.out.below (HB1.out.trans (M1.out.below.mono hs1))).2 j hjn
              subst e2
              have hja : j < Ac.length := by omega
              obtain ⟨x, hx⟩ : ∃ x, x = Ac[j] := ⟨_, rfl⟩
              have HWX : Hid (WfA (x.1, x.2)) := by have := HWA.out _ (List.getElem_mem hja); rw [← hx] at this; exact this
              have d0 : wr.cell? ⟨b2, o2 + j * 2, none⟩ = some (.int .i64 x.1) := by
                have := cc 0 (by omega)
                rw [rc_eq _ _ hja, ← hx] at this
                exact this
              have d1 : wr.cell? ⟨b2, o2 + j * 2 + 1, none⟩ = some (.string (bs x.2)) := by
                have := cc 1 (by omega)
                rw [rc_eq _ _ hja, ← hx] at this
                exact this
              have HBA := Lib.hid (fun wx hx => M1.out.balanceA x.1 x.2 HWX.out wx hx)
              have HBB := Lib.hid (fun wx hx => M1.out.balanceB x.1 x.2 wx hx)
              clear cc hx HWX
              generalize balS As (x.1, x.2) = v at *
              obtain ⟨kx, tx⟩ := x
              dsimp only at d0 d1 HBA HBB
              have y0 := After.cell d0
              have y1 := After.cell d1
              clear d0 d1
              go_upto_region 14 with fail
              refine wp_region_after (w0 := wr) (B := wr.heap.size) (by kernel_rfl) (by kernel_rfl) (Below.refl _ _) ?_
              repeat (go_big_quiet_step (first | (go_at_call 17; exact Calls.after_of (HBA.out _ (After.below _))) | exact Calls.after_of (HBB.out _ (After.below _))))
              refine wpQuiet_nil ?_
              rintro _ ⟨xw, rfl⟩
              clear y0 y1 HBA HBB
              go_wp2_with fail
              go_roundw
              case rel => exact ⟨j + 1, by go_num, by omega, M1.out.step xw.below⟩
              case measure => simp [intOf]; omega
            · have hj' : j = nb := by omega
              subst hj'
              go_wp2_with fail
              change Calls Try.prog 20 _ _ _
              refine M1.out.booksA.mono ?_
              rintro e w5 ⟨la, k, c1, rfl, hm5, hB5⟩
              have M5 := Lib.hid hm5
              have HB5 := Lib.hid hB5
              have hk5 := hB5.len
              clear hm5 hB5 M1
              go_wp2_with fail
              change Calls Try.prog 21 _ _ _
              refine M5.out.booksB.mono ?_
              rintro e w6 ⟨lb, k2, c2, rfl, rfl, hB6⟩
              have HB6 := Lib.hid hB6
              have hk6 := hB6.len
              clear hB6
              go_wp2_with fail
              change Calls Try.prog 19 _ _ _
              have hpl : ∀ b ∈ As, b.2.length ≤ 1000000 := fun b hb => by have := formed_len (M5.out.okA.formed b hb); omega
              refine (sameBooks_any la lb k c1 k2 c2 As As w5 HB5.out HB6.out (by omega) (by omega) hpl hpl).mono ?_
              rintro e w7 ⟨rfl, hq7⟩
              have HB7 := Lib.hid (M5.out.below.trans ((below_q hq7).mono M5.out.below.size))
              clear hpl hq7 hk5 hk6
              have htt : decide (As = As) = true := by simp
              rw [htt]
              clear htt
              go_wp2_with fail
              go_ret
              exact ⟨rfl, HB1.out.trans (HB7.out.mono hs1)⟩
  · have hf0 : fewS Bs 40 = false := by simpa using hf
    rw [hf0]
    go_wp2_with fail
    go_ret
    exact ⟨rfl, HB1.out⟩
end Go.Proofs.Ytafhdpalobalkaa
