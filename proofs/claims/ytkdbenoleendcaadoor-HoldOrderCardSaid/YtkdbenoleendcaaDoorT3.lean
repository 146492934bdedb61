/- hold: HoldAtomic, the walk. -/
import Derived.Test.YtkdbenoleendcaaDoorT3a
namespace Go.Proofs.YtkdbenoleendcaaDoor
open Go.RowKit Go.IntWalk Go.Maps Go.WideMaps

theorem fewB_snoc {l : List OpT} {x : OpT} (h : fewB (l ++ [x]) = true) : fewB l = true ∧ l.length ≤ 39 ∧ x.2.1.length ≤ 60 ∧ x.2.2.1.length ≤ 20 := by
  have h1 := fewB_iff.mp h
  have h2 := h1.2
  rw [List.length_append, List.length_singleton] at h2
  refine ⟨fewB_iff.mpr ⟨fun y hy => h1.1 y (List.mem_append_left _ hy), by omega⟩, by omega, h1.1 x (List.mem_append_right _ (List.mem_singleton.mpr rfl))⟩

theorem OpsIn.snoc {w : World} {B : Nat} {rs : List OpR} {x : OpR} (h : OpsIn w B rs) (hx : OpsIn w B [x]) : OpsIn w B (rs ++ [x]) := fun r hr => by
  rcases List.mem_append.mp hr with h1 | h1
  · exact h r h1
  · exact hx r h1

set_option maxRecDepth 100000 in
set_option maxHeartbeats 6400000 in
theorem atomic_any (p : Nat) (hp : p ≤ 255) (ra : Option Addr) (n c B : Nat) (rs : List OpR) (x : OpR) (w : World) (h : Recs OpE w ra n rs) (ho : OpsIn w B rs) (hroom : n * 64 ≤ 140737488351232) (hx : OpsIn w B [x]) :
    Calls Tryd.prog 4 #[.int .u8 p, .slice ra n c, .agg #[.int .i64 x.1.1, .string (bs x.1.2.1), .slice x.2.1 x.1.2.2.1.length x.2.2, .int .i64 x.1.2.2.2.1, .int .i64 x.1.2.2.2.2]] w fun e w' => e = .returned (.bool true) ∧ Below w.heap.size w w' := by
  obtain ⟨⟨k, t, L, id, cl⟩, pa, pc⟩ := x
  have hb := Joins.below_alloc1 w (.cells #[.int .i64 k, .string (bs t), .slice pa L.length pc, .int .i64 id, .int .i64 cl] 38)
  have HB0 := Lib.hid hb
  have HM := Lib.hid (h.below hb)
  have HO := Lib.hid (ho.below hb)
  have HXI := Lib.hid (hx.below hb)
  have HX : Hid ((w.alloc (.cells #[.int .i64 k, .string (bs t), .slice pa L.length pc, .int .i64 id, .int .i64 cl] 38)).heap[w.heap.size]? = some (.cells #[.int .i64 k, .string (bs t), .slice pa L.length pc, .int .i64 id, .int .i64 cl] 38 (0, 0))) := World.alloc_heap_new w _
  have hwf := (hx _ (List.mem_singleton.mpr rfl)).1
  dsimp only
  clear hb h ho hx
  go_enter Tryd.func4, Tryd.ntmps4
  go_upto_region 1 with fail
  generalize w.alloc (.cells #[.int .i64 k, .string (bs t), .slice pa L.length pc, .int .i64 id, .int .i64 cl] 38) = wb at *
  obtain ⟨bx, hbx⟩ : ∃ bx, w.heap.size = bx := ⟨_, rfl⟩
  rw [hbx] at HX ⊢
  have HBX : Hid (∀ wx, Below wb.heap.size wb wx → wx.cell? ⟨bx, 0, none⟩ = some (.int .i64 k) ∧ wx.cell? ⟨bx, 1, none⟩ = some (.string (bs t)) ∧ wx.cell? ⟨bx, 2, none⟩ = some (.slice pa L.length pc) ∧ wx.cell? ⟨bx, 3, none⟩ = some (.int .i64 id) ∧ wx.cell? ⟨bx, 4, none⟩ = some (.int .i64 cl)) := fun wx hb => by
    have := (hb.block bx (lt_of_block HX.out)).trans HX.out
    exact ⟨cell_of_row (j := 0) _ _ _ _ _ this, cell_of_row (j := 1) _ _ _ _ _ this, cell_of_row (j := 2) _ _ _ _ _ this, cell_of_row (j := 3) _ _ _ _ _ this, cell_of_row (j := 4) _ _ _ _ _ this⟩
  have HEND : Hid (∀ wx, Below wb.heap.size wb wx → Below w.heap.size w wx) := fun wx hx => HB0.out.trans (hx.mono HB0.out.size)
  clear hbx HX HB0
  go_wp2_with fail
  refine (head_any wb).mono ?_
  rintro e w1 ⟨rfl, hb1⟩
  have HB1 := Lib.hid hb1
  have HK1 : Hid (∀ wx, Below w1.heap.size w1 wx → wx.cell? ⟨bx, 0, none⟩ = some (.int .i64 k) ∧ wx.cell? ⟨bx, 1, none⟩ = some (.string (bs t)) ∧ wx.cell? ⟨bx, 2, none⟩ = some (.slice pa L.length pc) ∧ wx.cell? ⟨bx, 3, none⟩ = some (.int .i64 id) ∧ wx.cell? ⟨bx, 4, none⟩ = some (.int .i64 cl)) := fun wx hb => HBX.out wx (HB1.out.trans (hb.mono HB1.out.size))
  have HM1 := Lib.hid (HM.out.below hb1)
  have HC : Hid (∀ wx lu cu, Below w1.heap.size w1 wx → Recs OpE wx lu (rs.length + 1) (rs ++ [((k, t, L, id, cl), pa, pc)]) → Calls Tryd.prog 10 #[.slice lu (rs.length + 1) cu] wx fun e w' => e = .returned (.bool (fewB (rs.map (·.1) ++ [(k, t, L, id, cl)]))) ∧ wx = w') := fun wx lu cu hb hr => by
    have := few_any lu (rs.length + 1) cu B _ wx hr (OpsIn.snoc (HO.out.below (HB1.out.trans (hb.mono HB1.out.size))) (HXI.out.below (HB1.out.trans (hb.mono HB1.out.size)))) (by have := HM1.out.1; omega)
    rw [List.map_append] at this
    exact this
  have hk1 := HK1.out w1 (Below.refl _ _)
  clear hb1
  go_upto_region 2 with fail
  refine wp_region_held_drew (S := fun w' => w'.cell? ⟨bx, 0, none⟩ = some (.int .i64 k) ∧ w'.cell? ⟨bx, 1, none⟩ = some (.string (bs t)) ∧ w'.cell? ⟨bx, 2, none⟩ = some (.slice pa L.length pc) ∧ w'.cell? ⟨bx, 3, none⟩ = some (.int .i64 id) ∧ w'.cell? ⟨bx, 4, none⟩ = some (.int .i64 cl)) (by kernel_rfl) hk1 (fun hHeld => ?_)
  refine take_at (i := 1) (v := ?_) 18 rfl rfl (by kernel_rfl) (by kernel_rfl) (by kernel_rfl) (fun _ _ _ h => h) (Or.inl ⟨by rfl, ?_⟩) (by assumption) ?_
  rotate_left
  · intro w hSw; go_simp <;> with_reducible rfl
  try simp only [Act.put, List.setIfInBounds_toArray, List.set_cons_zero, List.set_cons_succ]
  refine take_at (i := 3) (v := ?_) 20 rfl rfl (by kernel_rfl) (by kernel_rfl) (by kernel_rfl) (fun _ _ _ h => h) (Or.inl ⟨by rfl, ?_⟩) (by assumption) ?_
  rotate_left
  · intro w hSw; go_simp <;> with_reducible rfl
  try simp only [Act.put, List.setIfInBounds_toArray, List.set_cons_zero, List.set_cons_succ]
  refine wpAnyH_effects0 [(0, 17), (2, 19), (4, 21)] [[], [0], []] (FO w1.heap.size rs [((k, t, L, id, cl), pa, pc)]) (bkO rs) _ _ 3 _ ?dist ?ready FO.below hHeld ?step ?fin
  case dist => decide
  case ready => kernel_rfl
  case step =>
    intro k' e v w3 hk3 he hSw hbw3 hneed
    have hb3 : Below w1.heap.size w1 w3 := (Below.refl _ _).drew.trans hbw3
    have hs3 := hb3.size
    rcases k' with _ | _ | _ | k'
    all_goals simp only [List.getElem?_cons_zero, List.getElem?_cons_succ, List.getElem?_nil, Option.some.injEq, reduceCtorEq] at he
    all_goals subst he
    · clear hneed
      refine wpOp_step rfl (fun K' hK => ?_)
      simp only [putAll, Act.put, List.setIfInBounds_toArray, List.set_cons_zero, List.set_cons_succ]
      go_simp
      have hb : Below w3.heap.size w3 (w3.alloc (.cells #[] 38)) := Joins.below_alloc1 w3 _
      have how := World.ownsRow_made (e := 38) (size := 5) w3 #[] 0 (Nat.le_refl _) (by unfold maxLen; omega) rfl
      refine hK _ _ ⟨.slice (some ⟨w3.heap.size, 0, none⟩) 0 0, by simp only [putAll, Act.put, List.setIfInBounds_toArray, List.set_cons_zero, List.set_cons_succ], HK1.out _ (hb3.trans (hb.mono hs3)), hb, ⟨?_, _, rfl⟩, fun b hbk => by simp [bkO] at hbk⟩
      exact row_base hs3 how
    · obtain ⟨u, w', hr, hb, hf, hbk⟩ := ops_copy hs3 hroom (HM1.out.below hb3) (hneed 0 (by simp))
      refine wpOp_step rfl (fun K' hK => ?_)
      refine step_append_w (by simp only [putAll, Act.put, List.setIfInBounds_toArray, List.set_cons_zero, List.set_cons_succ]; rfl) (.tmp 17) (.tmp 18) 22 rfl 22 rfl hr ?_ rfl ?_
      · simp only [putAll, Act.put, List.setIfInBounds_toArray, List.set_cons_zero, List.set_cons_succ]
        rfl
      · exact hK _ _ ⟨u, rfl, HK1.out _ (hb3.trans (hb.mono hs3)), hb, hf, hbk⟩
    · clear hneed
      refine wpOp_step rfl (fun K' hK => ?_)
      simp only [putAll, Act.put, List.setIfInBounds_toArray, List.set_cons_zero, List.set_cons_succ]
      go_simp
      have hb : Below w3.heap.size w3 (w3.alloc (.cells #[.int .i64 k, .string (bs t), .slice pa L.length pc, .int .i64 id, .int .i64 cl] 38)) := Joins.below_alloc1 w3 _
      exact hK _ _ ⟨.slice (some ⟨w3.heap.size, 0, none⟩) 1 1, by simp only [putAll, Act.put, List.setIfInBounds_toArray, List.set_cons_zero, List.set_cons_succ], HK1.out _ (hb3.trans (hb.mono hs3)), hb, ⟨_, rfl, World.alloc_heap_new w3 _⟩, fun b hbk => by simp [bkO] at hbk⟩
  case fin =>
    intro v w4 hS4 hI
    obtain ⟨b2, lu, cu, w5, f2, hr, hb5, hrec⟩ := ops_fin (w := w1.drew) (by have := HM1.out.1; omega) (by first | exact Or.inl rfl | exact Or.inr rfl) hI
    have hb5' : Below w1.heap.size w1 w5 := (Below.refl _ _).drew.trans hb5
    simp only [putAll, Act.put, List.setIfInBounds_toArray, List.set_cons_zero, List.set_cons_succ]
    rw [f2]
    clear hI hb5
    refine wpAnyH_ready (rs := [5]) (by kernel_rfl) (by simp) ?_
    refine AllReadyH.cons rfl (fun K' hK => ?_) AllReadyH.nil
    refine step_append_w (by rfl) (.tmp 19) (.tmp 21) 22 rfl 22 rfl hr rfl rfl ?_
    refine hK.out _ _ (HK1.out w5 hb5') (fun hHeld => ?_)
    clear hK K' hr f2
    try simp only [Act.put, List.setIfInBounds_toArray, List.set_cons_zero, List.set_cons_succ]
    have HCX := Lib.hid (HC.out w5 lu cu hb5' hrec)
    clear hrec
    refine wpAnyH_ready (rs := [6]) (by kernel_rfl) (by simp) ?_
    refine AllReadyH.cons rfl (fun K' hK => ?_) AllReadyH.nil
    go_simp
    refine HCX.out.mono ?_
    rintro e w6 ⟨rfl, rfl⟩
    clear HCX
    go_simp
    refine hK.out _ _ (HK1.out w5 hb5') (fun hHeld => ?_)
    clear hK K'
    try simp only [Act.put, List.setIfInBounds_toArray, List.set_cons_zero, List.set_cons_succ]
    refine take_at (i := 7) (v := ?_) 24 rfl rfl (by kernel_rfl) (by kernel_rfl) (by kernel_rfl) (fun _ _ _ h => h) (Or.inl ⟨by rfl, ?_⟩) (by assumption) ?_
    rotate_left
    · intro w hSw; go_simp <;> with_reducible rfl
    try simp only [Act.put, List.setIfInBounds_toArray, List.set_cons_zero, List.set_cons_succ]
    refine wpAnyH_done (by kernel_rfl) ?_ _
    clear hHeld hS4
    have HB5 : Hid (Below wb.heap.size wb w5) := HB1.out.trans (hb5'.mono HB1.out.size)
    clear hb5' hk1 HC HK1 HM1
    cases hf : fewB (rs.map (·.1) ++ [(k, t, L, id, cl)])
    · go_wp2_with fail
      go_ret
      exact ⟨rfl, HEND.out w5 HB5.out⟩
    obtain ⟨hf1, hf2, hf3, hf4⟩ := fewB_snoc hf
    have HF := Lib.hid hf1
    dsimp only at hf3 hf4
    have hn40 : n ≤ 39 := by have := HM.out.1; simp at hf2; omega
    clear hf hf1 hf2
    go_wp2_with fail
    refine (played_any p hp ra n c B rs w5 (HM.out.below HB5.out) (HO.out.below HB5.out) HF.out).mono ?_
    rintro e w6 ⟨g, M, sb, rfl, hb6, hh6, ho6⟩
    have H6 : Hid (Hd w5 w6 g M sb (playN p (rs.map (·.1)))) := ⟨hb6, hh6, ho6⟩
    have hlast : (playN p (rs.map (·.1))).last ≤ 39 := by
      have h1 := playN_last p (rs.map (·.1))
      have h2 := HM.out.1
      rw [List.length_map] at h1
      omega
    have hspl : (playN p (rs.map (·.1))).sp.length ≤ 20 := by rw [playN_len]; omega
    have HI := Lib.hid (playN_inv p (rs.map (·.1)))
    have hol := inv_len HI.out
    obtain ⟨st, hst⟩ : ∃ st, st = playN p (rs.map (·.1)) := ⟨_, rfl⟩
    rw [← hst] at H6 hlast hspl HI hol
    clear hb6 hh6 ho6 hst HF
    go_wp2_with fail
    refine (hs_spaces H6.out.hs (by omega)).mono ?_
    rintro e w7 ⟨vs, rfl, hb7, _, hr7⟩
    have H7 := Lib.hid (H6.out.next hb7)
    have RS7 := Lib.hid hr7
    have HSB : Hid (∀ i, Own3 g M sb i → i < w6.heap.size) := fun i hi => H6.out.hs.lt hi
    clear hb7 hr7 H6
    go_wp2_with fail
    refine (hs_list H7.out.hs (by omega)).mono ?_
    rintro e w8 ⟨vl, rfl, hb8, _, hr8⟩
    have H8 := Lib.hid (H7.out.next hb8)
    have RS8 := Lib.hid (RS7.out.below hb8)
    have RL8 := Lib.hid hr8
    have HB8 : Hid (Below wb.heap.size wb w8) := HB5.out.trans (H8.out.below.mono HB5.out.size)
    clear hb8 hr8 H7 RS7
    have hcx := HBX.out w8 HB8.out
    obtain ⟨x0, x1, x2, x3, x4⟩ := hcx
    have HDO := Lib.hid (do_any w8 g M sb st k t L id cl pa L.length pc H8.out.hs (by omega) (by omega) (by omega) (by omega) hwf.1
      (fun wy hu => (HXI.out _ (List.mem_singleton.mpr rfl)).2.1.below (HB5.out.trans ((Upd.below H8.out.below hu H8.out.own).mono HB5.out.size))))
    go_wp2_with fail
    refine HDO.out.mono ?_
    rintro e w9 ⟨vd, rfl, _, hh, hu⟩
    have H9 := Lib.hid (H8.out.step hh hu)
    have RS9 := Lib.hid (RS8.out.keep HSB.out hu)
    have RL9 := Lib.hid (RL8.out.keep H8.out.hs hu)
    have HB9 : Hid (Below wb.heap.size wb w9) := HB5.out.trans (H9.out.below.mono HB5.out.size)
    clear hh hu x0 x1 x2 x3 x4 HDO RS8 RL8 HB8 H8
    obtain ⟨la, lc, rfl, RP0⟩ := RS9.out.recs
    have HDS : Hid ((doS nameS st (k, t, L, id, cl)).1.2.2 ≠ 0 → (doS nameS st (k, t, L, id, cl)).2 = st) := fun h => do_same HI.out h
    have HDK : Hid (k = 0 → (doS nameS st (k, t, L, id, cl)).1.2.2 = (takeS st (nameS t) t L id cl).1.2) := fun h => by unfold doS; rw [if_pos h]
    have HNX : Hid (∀ (P : Prop), P → P) := fun _ h => h
    obtain ⟨er, her⟩ : ∃ er, (doS nameS st (k, t, L, id, cl)).1.2.2 = er := ⟨_, rfl⟩
    rw [her] at HDS HDK ⊢
    clear her RP0
    go_upto_region 8 with fail
    go_cut [55] (fun v55 wx => v55 = .bool false ∧ Hid (Below w9.heap.size w9 wx))
    case first =>
      by_cases he : er = 0
      · have hb0 : (er == 0) = true := by simp [he]
        subst he
        go_wp2_with fail
        go_meet
        case rel => exact ⟨rfl, Below.refl _ _⟩
      · have hb0 : (er == 0) = false := by simp [he]
        have hsame := HDS.out he
        have H9' : Hid (Hd w5 w9 g M sb st) := by rw [← hsame]; exact H9.out
        clear HDS HDK H9 hsame
        go_wp2_with fail
        refine (hs_spaces H9'.out.hs (by omega)).mono ?_
        rintro e w10 ⟨v10, rfl, hb10, _, hr10⟩
        have H10 := Lib.hid (H9'.out.next hb10)
        have HB10 := Lib.hid hb10
        have RA := Lib.hid (RS9.out.below hb10)
        have RB := Lib.hid hr10
        clear hb10 hr10
        go_wp2_with fail
        refine (hs_samesp RA.out RB.out (by omega) (by omega)).mono ?_
        rintro e w11 ⟨rfl, hb11⟩
        have H11 := Lib.hid (H10.out.next hb11)
        have HB11 : Hid (Below w9.heap.size w9 w11) := HB10.out.trans (hb11.mono HB10.out.size)
        have hd1 : decide (st.sp = st.sp) = true := by simp
        clear hb11 RA RB
        go_wp2_with fail
        refine (hs_list H11.out.hs (by omega)).mono ?_
        rintro e w12 ⟨v12, rfl, hb12, _, hr12⟩
        have HB12 : Hid (Below w9.heap.size w9 w12) := HB11.out.trans (hb12.mono HB11.out.size)
        have RA := Lib.hid (RL9.out.below HB12.out)
        have RB := Lib.hid hr12
        clear hb12 hr12
        go_wp2_with fail
        refine (hs_sameho RA.out RB.out (by omega) (by omega) (inv_pl HI.out) (inv_pl HI.out)).mono ?_
        rintro e w13 ⟨rfl, hb13⟩
        have HB13 : Hid (Below w9.heap.size w9 w13) := HB12.out.trans (hb13.mono HB12.out.size)
        have hd2 : decide (st.op = st.op) = true := by simp
        clear hb13 RA RB
        go_wp2_with fail
        go_meet
        case rel => exact ⟨rfl, HB13.out⟩
    case rest =>
      obtain ⟨rfl, hq⟩ := hcut
      have HBc : Hid (Below wb.heap.size wb wc) := HB9.out.trans (hq.out.mono HB9.out.size)
      have RSc : Hid (Recs SpE wc la st.sp.length st.sp) := by
        obtain ⟨la', c', e, hr⟩ := RS9.out.recs
        cases e
        exact hr.below hq.out
      clear HDS H9 RL9 HSB RS9 hq
      obtain ⟨x0, x1, x2, x3, x4⟩ := HBX.out wc HBc.out
      by_cases hk : k = 0
      · subst hk
        have HER := Lib.hid (HDK.out rfl)
        have HXP : Hid (Ints wc pa L.length L) := (HXI.out _ (List.mem_singleton.mpr rfl)).2.1.below HBc.out
        have hpc : L.length ≤ pc := hwf.2.2.2
        clear HDK
        go_wp2_with fail
        refine (rchoice_any pa L.length pc st.sp.length L wc HXP.out (by omega) hpc).mono ?_
        rintro e w10 ⟨rfl, hq⟩
        have HB10 : Hid (Below wb.heap.size wb w10) := HBc.out.trans (hq.below.mono HBc.out.size)
        have RS10 := Lib.hid (RSc.out.below hq.below)
        have HXP10 := Lib.hid (HXP.out.below hq.below)
        clear hq x0 x1 x2 x3 x4 RSc HXP HBc
        obtain ⟨x0, x1, x2, x3, x4⟩ := HBX.out w10 HB10.out
        cases hch : choiceB st.sp.length L
        · have hE : er = 1 := by
            rw [HER.out]
            unfold takeS
            rw [if_pos (by unfold okTake; simp [hch])]
          subst hE
          go_wp2_with fail
          go_ret
          exact ⟨rfl, HEND.out w10 HB10.out⟩
        have hchs := Lib.hid (choice_iff.mp hch)
        go_wp2_with fail
        refine (rname_any t (by omega) w10).mono ?_
        rintro e w' ⟨rfl, rfl⟩
        cases hnm : nameS t
        · have hE : er = 1 := by
            rw [HER.out]
            unfold takeS
            rw [if_pos (by unfold okTake; simp [hnm])]
          subst hE
          go_wp2_with fail
          go_ret
          exact ⟨rfl, HEND.out w10 HB10.out⟩
        by_cases h0 : id < 0
        · have hE : er = 1 := by
            rw [HER.out]
            unfold takeS
            rw [if_pos (by unfold okTake; simp; omega)]
          subst hE
          go_wp2_with fail
          go_ret
          exact ⟨rfl, HEND.out w10 HB10.out⟩
        by_cases h1 : 1000000000 < id
        · have hE : er = 1 := by
            rw [HER.out]
            unfold takeS
            rw [if_pos (by unfold okTake; simp; omega)]
          subst hE
          go_wp2_with fail
          go_ret
          exact ⟨rfl, HEND.out w10 HB10.out⟩
        by_cases h2 : cl < 0
        · have hE : er = 1 := by
            rw [HER.out]
            unfold takeS
            rw [if_pos (by unfold okTake; simp; omega)]
          subst hE
          go_wp2_with fail
          go_ret
          exact ⟨rfl, HEND.out w10 HB10.out⟩
        by_cases h3 : 9 < cl
        · have hE : er = 1 := by
            rw [HER.out]
            unfold takeS
            rw [if_pos (by unfold okTake; simp; omega)]
          subst hE
          go_wp2_with fail
          go_ret
          exact ⟨rfl, HEND.out w10 HB10.out⟩
        have hE : Hid (er = if L.any (takenB st.sp) = true then 16 else 0) := by
          show _ = _
          rw [HER.out]
          unfold takeS
          rw [if_neg (by unfold okTake; simp [hch, hnm]; omega), if_neg (by omega)]
          split <;> rfl
        clear hch hnm HER
        go_wp2_with fail
        go_loopw [14, 15] (fun v14 v15 wr => ∃ i : Nat, v15 = .int .i64 i ∧ i ≤ L.length ∧ v14 = .bool (!(L.take i).any (takenB st.sp)) ∧ wr = w10) (fun _ v15 _ => L.length - (intOf v15).toNat)
        case atStart => exact ⟨0, rfl, Nat.zero_le _, rfl, rfl⟩
        case round =>
          obtain ⟨i, rfl, hi, rfl, rfl⟩ := hrel
          by_cases hlt : i < L.length
          · obtain ⟨b, o, rfl, c0⟩ := HXP10.out.2 i hlt
            have hr := hchs.out.2.1 _ (ix_mem hlt)
            have HT : Hid ((L.take (i + 1)).any (takenB st.sp) = ((L.take i).any (takenB st.sp) || takenB st.sp (ix L i))) := by
              show _ = _
              rw [List.take_succ_eq_append_getElem hlt, List.any_append, ix_get hlt]
              simp
            obtain ⟨pq, hpq⟩ : ∃ pq : Nat, ix L i = pq := ⟨(ix L i).toNat, by omega⟩
            rw [hpq] at c0 hr HT
            have hpl : pq < st.sp.length := by omega
            obtain ⟨b2, o2, rfl, y0, y1⟩ := sp_at2 RS10.out pq hpl
            have HTB : Hid (takenB st.sp (pq : Int) = !((spAt st.sp pq).1 == 0)) := by
              show _ = _
              unfold takenB
              rw [Int.toNat_natCast]
              by_cases h : (spAt st.sp pq).1 = 0 <;> simp [h]
            clear hr hpq
            generalize spAt st.sp pq = sx at *
            generalize takenB st.sp (pq : Int) = tx at *
            generalize (L.take i).any (takenB st.sp) = ax at *
            obtain ⟨s1, s2⟩ := sx
            dsimp only at y0 y1 HTB
            cases ax
            · go_wp2_with fail
              refine ⟨⟨i + 1, by go_num, hlt, ?_, trivial⟩, by simp [intOf]; omega⟩
              rw [HT.out, HTB.out]
              simp
            · go_wp2_with fail
              refine ⟨⟨i + 1, by go_num, hlt, ?_, trivial⟩, by simp [intOf]; omega⟩
              rw [HT.out]
              simp
          · have hi' : i = L.length := by omega
            subst hi'
            rw [List.take_length]
            have hE2 := hE.out
            clear hE
            cases ha : L.any (takenB st.sp)
            · rw [ha, if_neg (by simp)] at hE2
              subst hE2
              go_wp2_with fail
              go_ret
              exact ⟨rfl, HEND.out wr HB10.out⟩
            · rw [ha, if_pos rfl] at hE2
              subst hE2
              go_wp2_with fail
              go_ret
              exact ⟨rfl, HEND.out wr HB10.out⟩
      · have hk0 : (k == 0) = false := by simp [hk]
        clear HDK
        go_wp2_with fail
        go_ret
        exact ⟨rfl, HEND.out wc HBc.out⟩
end Go.Proofs.YtkdbenoleendcaaDoor
