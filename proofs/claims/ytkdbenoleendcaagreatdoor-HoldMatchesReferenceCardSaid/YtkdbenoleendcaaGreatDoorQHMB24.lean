/- hold.Take: the walk. -/
import Derived.Test.YtkdbenoleendcaaGreatDoorQHMB23

namespace Go.Proofs.YtkdbenoleendcaaGreatDoor
open Go.RowKit Go.IntWalk Go.Maps Go.WideMaps

/-- Two numbers, and the Holds that is left. -/
def TwoPost (F : Nat → Prop) (g M sb : Nat) (w : World) (r : (Int × Int) × St) (e : Ending) (w' : World) : Prop :=
  ∃ E', e = .returned (.tuple #[.int .i64 r.1.1, .int .i64 r.1.2]) ∧ HoldC w' F g M sb E' r.2 ∧ Upd (Own3 g M sb) w w'

set_option maxRecDepth 100000 in
set_option maxHeartbeats 3200000 in
theorem take_any (w : World) (F : Nat → Prop) (g M sb : Nat) (E : List OwnT) (st : St) (t : List UInt8) (l : List Int) (pa : Option Addr) (m mc : Nat) (til cls : Int) (h : HoldC w F g M sb E st)
    (hsp : st.sp.length ≤ 4000) (hla : st.last ≤ 900000000) (hm : m ≤ 4000) (hlen : t.length ≤ 1000) (hfr : ∀ i, w.heap.size ≤ i → F i) (hL : ∀ wx, Upd (Own3 g M sb) w wx → Ints wx pa m l) :
    Calls Tryz.prog 22 #[.pointer (some ⟨g, 0, none⟩), .string (bs t), .slice pa m mc, .int .i64 til, .int .i64 cls] w (TwoPost F g M sb w (takeS st (nameS t) t l til cls)) := by
  have HH := Lib.hid h
  have HL := Lib.hid hL
  have HF := Lib.hid hfr
  have HC := Lib.hid (choice_any g sb st.sp.length st.sp.length _ _ l pa m mc w h.blk hsp hm (hL w (Upd.refl _ _)))
  clear h hL hfr
  cases hch : choiceB st.sp.length l
  · have HS : Hid (takeS st (nameS t) t l til cls = ((0, 1), st)) := by
      show _ = _
      unfold takeS
      rw [if_pos (by unfold okTake; simp [hch])]
    go_enter Tryz.func22, Tryz.ntmps22
    go_wp2_with fail
    refine HC.out.mono ?_
    rintro e w1 ⟨rfl, hb⟩
    have HB := Lib.hid hb
    clear hb
    rw [hch]
    go_wp2_with fail
    go_ret2
    refine ⟨E, by rw [HS.out]; rfl, ?_, Upd.of_below HB.out⟩
    rw [HS.out]
    exact HH.out.keep (T := fun _ => False) (Upd.of_below HB.out) (fun _ _ h => h) (fun _ _ h => h)
  · go_enter Tryz.func22, Tryz.ntmps22
    go_wp2_with fail
    refine HC.out.mono ?_
    rintro e w1 ⟨rfl, hb⟩
    have HB0 := Lib.hid hb
    clear hb
    rw [hch]
    go_wp2_with fail
    refine (name_any t hlen w1).mono ?_
    rintro e w2 ⟨rfl, hb⟩
    have HB : Hid (Below w.heap.size w w2) := HB0.out.trans (hb.mono HB0.out.size)
    clear hb HB0
    cases hnm : nameS t
    ·
      have HS : Hid (takeS st (nameS t) t l til cls = ((0, 1), st)) := by
        show _ = _
        unfold takeS
        rw [if_pos (by unfold okTake; simp [hnm])]
      go_wp2_with fail
      go_ret2
      refine ⟨E, by rw [HS.out]; rfl, ?_, Upd.of_below HB.out⟩
      rw [HS.out]
      exact HH.out.keep (T := fun _ => False) (Upd.of_below HB.out) (fun _ _ h => h) (fun _ _ h => h)
    by_cases h0 : til < 0
    ·
      have HS : Hid (takeS st (nameS t) t l til cls = ((0, 1), st)) := by
        show _ = _
        unfold takeS
        rw [if_pos (by unfold okTake; simp; omega)]
      go_wp2_with fail
      go_ret2
      refine ⟨E, by rw [HS.out]; rfl, ?_, Upd.of_below HB.out⟩
      rw [HS.out]
      exact HH.out.keep (T := fun _ => False) (Upd.of_below HB.out) (fun _ _ h => h) (fun _ _ h => h)
    by_cases h1 : 1000000000 < til
    ·
      have HS : Hid (takeS st (nameS t) t l til cls = ((0, 1), st)) := by
        show _ = _
        unfold takeS
        rw [if_pos (by unfold okTake; simp; omega)]
      go_wp2_with fail
      go_ret2
      refine ⟨E, by rw [HS.out]; rfl, ?_, Upd.of_below HB.out⟩
      rw [HS.out]
      exact HH.out.keep (T := fun _ => False) (Upd.of_below HB.out) (fun _ _ h => h) (fun _ _ h => h)
    by_cases h2 : cls < 0
    ·
      have HS : Hid (takeS st (nameS t) t l til cls = ((0, 1), st)) := by
        show _ = _
        unfold takeS
        rw [if_pos (by unfold okTake; simp; omega)]
      go_wp2_with fail
      go_ret2
      refine ⟨E, by rw [HS.out]; rfl, ?_, Upd.of_below HB.out⟩
      rw [HS.out]
      exact HH.out.keep (T := fun _ => False) (Upd.of_below HB.out) (fun _ _ h => h) (fun _ _ h => h)
    by_cases h3 : 9 < cls
    ·
      have HS : Hid (takeS st (nameS t) t l til cls = ((0, 1), st)) := by
        show _ = _
        unfold takeS
        rw [if_pos (by unfold okTake; simp; omega)]
      go_wp2_with fail
      go_ret2
      refine ⟨E, by rw [HS.out]; rfl, ?_, Upd.of_below HB.out⟩
      rw [HS.out]
      exact HH.out.keep (T := fun _ => False) (Upd.of_below HB.out) (fun _ _ h => h) (fun _ _ h => h)
    have hok : okTake st (nameS t) l til cls = true := by unfold okTake; simp [hch, hnm]; omega
    have HOK := Lib.hid hok
    have HH2 : Hid (HoldC w2 F g M sb E st) := HH.out.keep (T := fun _ => False) (Upd.of_below HB.out) (fun _ _ h => h) (fun _ _ h => h)
    have g0 : w2.cell? ⟨g, 0, none⟩ = some (.map (some M)) := by rw [cell_of_row _ _ _ _ _ _ HH2.out.blk]; rfl
    have hml : ∀ ty, (Builtin.len_ #[54] ty #[.map (some M)]).run Tryz.prog w2 = .ok (.int .i64 E.length) w2 := fun ty => by
      have := HH2.out.map.len Tryz.underlying54 ty
      rwa [mapH_size] at this
    have hEl : st.op.length = E.length := by rw [← HH2.out.ops, List.length_map]
    have HEL := Lib.hid hEl
    clear hok hEl
    by_cases h4 : 1000 ≤ E.length
    · have HS : Hid (takeS st (nameS t) t l til cls = ((0, 3), st)) := by
        show _ = _
        unfold takeS
        rw [if_neg (by rw [HOK.out]; simp), if_pos (by rw [HEL.out]; exact h4)]
      go_wp2_with fail
      go_ret2
      refine ⟨E, by rw [HS.out]; rfl, ?_, Upd.of_below HB.out⟩
      rw [HS.out]
      exact HH2.out
    have hchs := choice_iff.mp hch
    go_wp2_with fail
    refine (contains_any g sb st.sp.length st.sp.length _ _ st.sp l pa m mc w2 HH2.out.blk HH2.out.sps rfl hm hchs.2.1 (HL.out w2 (Upd.of_below HB.out))).mono ?_
    rintro e w' ⟨rfl, rfl⟩
    cases han : l.any (takenB st.sp)
    · have HAN := Lib.hid han
      clear han hml
      have g2 : w2.cell? ⟨g, 2, none⟩ = some (.int .i64 st.last) := by rw [cell_of_row _ _ _ _ _ _ HH2.out.blk]; rfl
      have f2 : w2.frozen? ⟨g, 2, none⟩ = false := by simp only [World.frozen?, HH2.out.blk]; simp
      go_upto_region 8 with fail
      have hb3 : Hid ((w2.setCell ⟨g, 2, none⟩ (.int .i64 ((st.last : Int) + 1))).heap[g]? = some (.cells #[.map (some M), .slice (some ⟨sb, 0, none⟩) st.sp.length st.sp.length, .int .i64 ((st.last : Int) + 1)] 56 (0, 0))) := by
        have := HH2.out.blk
        show _ = _
        simp [World.setCell, Array.getElem?_modify, this]
      have hG3 : Hid (w2.grownBy (w2.setCell ⟨g, 2, none⟩ (.int .i64 ((st.last : Int) + 1))) (some g)) := grown_setCell _ _ _ _
      generalize w2.setCell ⟨g, 2, none⟩ (.int .i64 ((st.last : Int) + 1)) = w3 at *
      clear g0 g2 f2
      have q0 : w3.cell? ⟨g, 0, none⟩ = some (.map (some M)) := by rw [cell_of_row _ _ _ _ _ _ hb3.out]; rfl
      have q2 : w3.cell? ⟨g, 2, none⟩ = some (.int .i64 ((st.last : Int) + 1)) := by rw [cell_of_row _ _ _ _ _ _ hb3.out]; rfl
      have HI3 : Hid (Ints w3 pa m l) := HL.out w3 ((Upd.of_below HB.out).trans (Upd.of_row hG3.out (fun b e => by cases e; exact Or.inl rfl)))
      have hm1 : 1 ≤ m := by have := (HL.out w (Upd.refl _ _)).1; omega
      have HCL : Hid (∀ wx, Below w3.heap.size w3 wx → Calls Tryz.prog 41 #[.slice pa m mc] wx fun e w' => ∃ b c, e = .returned (.slice (some ⟨b, 0, none⟩) m c) ∧ wx.heap.size ≤ b ∧ IntRow w' b 3 l ∧ Below wx.heap.size wx w') := fun wx hb => clone_any l pa m mc wx hm hm1 (HI3.out.below hb)
      have hlm : l.length = m := HI3.out.1
      have HM3 : Hid (w3.ownsMap Tryz.prog 3 RH M E.length (mapH E)) := HH2.out.map.kept hG3.out (by have := HH2.out.ne_gM; simp; omega)
      have HKY : Hid (keyOf Tryz.prog 3 (.int .i64 ((st.last : Int) + 1)) = some (.int .i64 ((st.last : Int) + 1))) := key_int _ (by omega) (by omega)
      refine wp_region_held_drew (S := fun w' => w'.cell? ⟨g, 0, none⟩ = some (.map (some M)) ∧ w'.cell? ⟨g, 2, none⟩ = some (.int .i64 ((st.last : Int) + 1))) (by kernel_rfl) ⟨q0, q2⟩ (fun hHeld => ?_)
      have HCL2 := Lib.hid (HCL.out w3.drew (below_drewN (Below.refl _ _) 1))
      clear HCL q0 q2
      refine take_at (i := 0) (v := ?_) 57 rfl rfl (by kernel_rfl) (by kernel_rfl) (by kernel_rfl) (fun _ _ _ h => h) (Or.inl ⟨by rfl, ?_⟩) (by assumption) ?_
      rotate_left
      · intro w hSw; go_simp <;> with_reducible rfl
      try simp only [Act.put, List.setIfInBounds_toArray, List.set_cons_zero, List.set_cons_succ]
      refine take_at (i := 1) (v := ?_) 58 rfl rfl (by kernel_rfl) (by kernel_rfl) (by kernel_rfl) (fun _ _ _ h => h) (Or.inl ⟨by rfl, ?_⟩) (by assumption) ?_
      rotate_left
      · intro w hSw; go_simp <;> with_reducible rfl
      try simp only [Act.put, List.setIfInBounds_toArray, List.set_cons_zero, List.set_cons_succ]
      refine take_at (i := 2) (v := ?_) 59 rfl rfl (by kernel_rfl) (by kernel_rfl) (by kernel_rfl) (fun _ _ _ h => h) (Or.inl ⟨by rfl, ?_⟩) (by assumption) ?_
      rotate_left
      · intro w hSw; go_simp <;> with_reducible rfl
      try simp only [Act.put, List.setIfInBounds_toArray, List.set_cons_zero, List.set_cons_succ]
      refine take_at (i := 3) (v := ?_) 60 rfl rfl (by kernel_rfl) (by kernel_rfl) (by kernel_rfl) (fun _ _ _ h => h) (Or.inl ⟨by rfl, ?_⟩) (by assumption) ?_
      rotate_left
      · intro w hSw; go_simp <;> with_reducible rfl
      try simp only [Act.put, List.setIfInBounds_toArray, List.set_cons_zero, List.set_cons_succ]
      refine take_at (i := 4) (v := ?_) 61 rfl rfl (by kernel_rfl) (by kernel_rfl) (by kernel_rfl) (fun _ _ _ h => h) (Or.inl ⟨by rfl, ?_⟩) (by assumption) ?_
      rotate_left
      · intro w hSw; go_simp <;> with_reducible rfl
      try simp only [Act.put, List.setIfInBounds_toArray, List.set_cons_zero, List.set_cons_succ]
      refine take_at (i := 5) (v := ?_) 62 rfl rfl (by kernel_rfl) (by kernel_rfl) (by kernel_rfl) (fun _ _ _ h => h) (Or.inl ⟨by rfl, ?_⟩) (by assumption) ?_
      rotate_left
      · intro w hSw; go_simp <;> with_reducible rfl
      try simp only [Act.put, List.setIfInBounds_toArray, List.set_cons_zero, List.set_cons_succ]
      refine take_at (i := 6) (v := ?_) 63 rfl rfl (by kernel_rfl) (by kernel_rfl) (by kernel_rfl) (fun _ _ _ h => h) (Or.inl ⟨by rfl, ?_⟩) (by assumption) ?_
      rotate_left
      · intro w hSw; go_simp <;> with_reducible rfl
      try simp only [Act.put, List.setIfInBounds_toArray, List.set_cons_zero, List.set_cons_succ]
      refine take_at (i := 7) (v := ?_) 64 rfl rfl (by kernel_rfl) (by kernel_rfl) (by kernel_rfl) (fun _ _ _ h => h) (Or.inl ⟨by rfl, ?_⟩) (by assumption) ?_
      rotate_left
      · intro w hSw; go_simp <;> with_reducible rfl
      try simp only [Act.put, List.setIfInBounds_toArray, List.set_cons_zero, List.set_cons_succ]
      refine take_at (i := 8) (v := ?_) 65 rfl rfl (by kernel_rfl) (by kernel_rfl) (by kernel_rfl) (fun _ _ _ h => h) (Or.inl ⟨by rfl, ?_⟩) (by assumption) ?_
      rotate_left
      · intro w hSw; go_simp <;> with_reducible rfl
      try simp only [Act.put, List.setIfInBounds_toArray, List.set_cons_zero, List.set_cons_succ]
      refine take_at (i := 9) (v := ?_) 66 rfl rfl (by kernel_rfl) (by kernel_rfl) (by kernel_rfl) (fun _ _ _ h => h) (Or.inl ⟨by rfl, ?_⟩) (by assumption) ?_
      rotate_left
      · intro w hSw; go_simp <;> with_reducible rfl
      try simp only [Act.put, List.setIfInBounds_toArray, List.set_cons_zero, List.set_cons_succ]
      refine take_at (i := 10) (v := ?_) 67 rfl rfl (by kernel_rfl) (by kernel_rfl) (by kernel_rfl) (fun _ _ _ h => h) (Or.inl ⟨by rfl, ?_⟩) (by assumption) ?_
      rotate_left
      · intro w hSw; go_simp <;> with_reducible rfl
      try simp only [Act.put, List.setIfInBounds_toArray, List.set_cons_zero, List.set_cons_succ]
      refine take_at (i := 11) (v := ?_) 68 rfl rfl (by kernel_rfl) (by kernel_rfl) (by kernel_rfl) (fun _ _ _ h => h) (Or.inl ⟨by rfl, ?_⟩) (by assumption) ?_
      rotate_left
      · intro w hSw; go_simp <;> with_reducible rfl
      try simp only [Act.put, List.setIfInBounds_toArray, List.set_cons_zero, List.set_cons_succ]
      refine take_at (i := 12) (v := ?_) 69 rfl rfl (by kernel_rfl) (by kernel_rfl) (by kernel_rfl) (fun _ _ _ h => h) (Or.inl ⟨by rfl, ?_⟩) (by assumption) ?_
      rotate_left
      · intro w hSw; go_simp <;> with_reducible rfl
      try simp only [Act.put, List.setIfInBounds_toArray, List.set_cons_zero, List.set_cons_succ]
      refine take_at (i := 13) (v := ?_) 70 rfl rfl (by kernel_rfl) (by kernel_rfl) (by kernel_rfl) (fun _ _ _ h => h) (Or.inl ⟨by rfl, ?_⟩) (by assumption) ?_
      rotate_left
      · intro w hSw; go_simp <;> with_reducible rfl
      try simp only [Act.put, List.setIfInBounds_toArray, List.set_cons_zero, List.set_cons_succ]
      refine take_at (i := 15) (v := ?_) 72 rfl rfl (by kernel_rfl) (by kernel_rfl) (by kernel_rfl) (fun _ _ _ h => h) (Or.inl ⟨by rfl, ?_⟩) (by assumption) ?_
      rotate_left
      · intro w hSw; go_simp <;> with_reducible rfl
      try simp only [Act.put, List.setIfInBounds_toArray, List.set_cons_zero, List.set_cons_succ]
      refine take_at (i := 16) (v := ?_) 73 rfl rfl (by kernel_rfl) (by kernel_rfl) (by kernel_rfl) (fun _ _ _ h => h) (Or.inl ⟨by rfl, ?_⟩) (by assumption) ?_
      rotate_left
      · intro w hSw; go_simp <;> with_reducible rfl
      try simp only [Act.put, List.setIfInBounds_toArray, List.set_cons_zero, List.set_cons_succ]
      refine wpAnyH_ready (rs := [14]) (by kernel_rfl) (by simp) ?_
      refine AllReadyH.cons rfl (fun K' hK => ?_) AllReadyH.nil
      go_simp
      refine HCL2.out.mono ?_
      rintro e w4 ⟨b, c, rfl, hb4, hr4, hbl⟩
      have HBL : Hid (Below w3.heap.size w3 w4) := ⟨hbl.os, hbl.tape, hbl.output, hbl.size, hbl.block⟩
      have HB4 := Lib.hid hb4
      have HR4 := Lib.hid hr4
      have HS4 : Hid (w4.cell? ⟨g, 0, none⟩ = some (.map (some M)) ∧ w4.cell? ⟨g, 2, none⟩ = some (.int .i64 ((st.last : Int) + 1))) := ⟨Below.cell_of hbl hHeld.1, Below.cell_of hbl hHeld.2⟩
      obtain ⟨w5, hrun5, ho5, ht5⟩ := store_hold (w := w4) (HM3.out.kept (grown_below HBL.out none) (by simp)) (by omega) ((st.last : Int) + 1) (by omega) (by omega) (holdV ((((st.last : Int) + 1), t, l, til, cls), (some ⟨b, 0, none⟩, c)))
      simp only [holdV, hlm] at hrun5
      have HO5 := Lib.hid ho5
      have HT5 := Lib.hid ht5
      clear hbl hb4 hr4 ho5 ht5 HCL2
      go_simp
      refine hK.out _ _ (HS4.out) (fun hHeld => ?_)
      clear hK K'
      try simp only [Act.put, List.setIfInBounds_toArray, List.set_cons_zero, List.set_cons_succ]
      refine take_at (i := 17) (v := ?_) 74 rfl rfl (by kernel_rfl) (by kernel_rfl) (by kernel_rfl) (fun _ _ _ h => h) (Or.inl ⟨by rfl, ?_⟩) (by assumption) ?_
      rotate_left
      · intro w hSw; go_simp <;> with_reducible rfl
      try simp only [Act.put, List.setIfInBounds_toArray, List.set_cons_zero, List.set_cons_succ]
      refine wpAnyH_ready (rs := [18]) (by kernel_rfl) (by simp) ?_
      refine AllReadyH.cons rfl (fun K' hK => ?_) AllReadyH.nil
      go_simp
      have hG5 : Hid (w4.grownBy w5 (some M)) := HT5.out.grown
      have hgM := HH2.out.ne_gM
      have hb5 : Hid (w5.heap[g]? = some (.cells #[.map (some M), .slice (some ⟨sb, 0, none⟩) st.sp.length st.sp.length, .int .i64 ((st.last : Int) + 1)] 56 (0, 0))) :=
        ((hG5.out.block g (Nat.lt_of_lt_of_le (lt_of_block hb3.out) HBL.out.size) (by simpa using hgM)).trans (HBL.out.block g (lt_of_block hb3.out))).trans hb3.out
      have g5 : w5.cell? ⟨g, 2, none⟩ = some (.int .i64 ((st.last : Int) + 1)) := by rw [cell_of_row _ _ _ _ _ _ hb5.out]; rfl
      have HS5 : Hid (w5.cell? ⟨g, 0, none⟩ = some (.map (some M)) ∧ w5.cell? ⟨g, 2, none⟩ = some (.int .i64 ((st.last : Int) + 1))) := ⟨by rw [cell_of_row _ _ _ _ _ _ hb5.out]; rfl, g5⟩
      go_simp
      refine hK.out _ _ (HS5.out) (fun hHeld => ?_)
      clear hK K'
      try simp only [Act.put, List.setIfInBounds_toArray, List.set_cons_zero, List.set_cons_succ]
      refine wpAnyH_done (by kernel_rfl) ?_ _
      clear hHeld HS4 HS5 hrun5
      have HU5 : Hid (Upd (Own3 g M sb) w w5) := (Upd.of_below HB.out).trans ((Upd.of_row hG3.out (fun b e => by cases e; exact Or.inl rfl)).trans ((Upd.of_below HBL.out).trans (Upd.of_row hG5.out (fun b e => by cases e; exact Or.inr (Or.inl rfl)))))
      have HSP5 : Hid (RecRow SpE w5 sb 53 st.sp) := by
        have h0 := HH2.out.sps.grown hG3.out (by have := HH2.out.ne_gs; simp; omega)
        have h1 := h0.grown (grown_below HBL.out none) (by simp)
        exact h1.grown hG5.out (by have := HH2.out.ne_sM; simpa using this)
      have HC := Lib.hid (mark_any g sb st.sp.length st.sp.length _ _ st.sp l (1, (st.last : Int) + 1) pa m mc w5 hb5.out HH2.out.ne_gs HSP5.out rfl hm hchs.2.1 (fun wx hg => HL.out wx (HU5.out.trans (Upd.of_row hg (fun b e => by cases e; exact Or.inr (Or.inr rfl))))))
      clear hchs
      go_wp2_with fail
      refine HC.out.mono ?_
      rintro e w6 ⟨rfl, hg6, hr6⟩
      have HG6 := Lib.hid hg6
      have HR6 := Lib.hid hr6
      have hb6 : Hid (w6.heap[g]? = some (.cells #[.map (some M), .slice (some ⟨sb, 0, none⟩) st.sp.length st.sp.length, .int .i64 ((st.last : Int) + 1)] 56 (0, 0))) :=
        (HG6.out.block g (lt_of_block hb5.out) (by have := HH2.out.ne_gs; simpa using this)).trans hb5.out
      have g6 : w6.cell? ⟨g, 2, none⟩ = some (.int .i64 ((st.last : Int) + 1)) := by rw [cell_of_row _ _ _ _ _ _ hb6.out]; rfl
      clear hg6 hr6 g5 HC
      go_wp2_with fail
      go_ret2
      have hS : takeS st (nameS t) t l til cls = ((((st.last + 1 : Nat) : Int), 0), ⟨markS st.sp l (1, ((st.last + 1 : Nat) : Int)), st.last + 1, st.op ++ [(((st.last + 1 : Nat) : Int), t, l, til, cls)]⟩) := by
        unfold takeS
        rw [if_neg (by rw [HOK.out]; simp), if_neg (by rw [HEL.out]; exact h4), if_neg (by rw [HAN.out]; simp)]
      have hI := take_inv HH2.out.inv (nameS t) t l til cls
      rw [hS] at hI ⊢
      dsimp only at hI ⊢
      have hcast : ((st.last + 1 : Nat) : Int) = (st.last : Int) + 1 := by omega
      rw [hcast] at hI ⊢
      refine ⟨E ++ [((((st.last : Int) + 1), t, l, til, cls), (some ⟨b, 0, none⟩, c))], rfl, ⟨?_, ?_, HR6.out, ?_, ?_, hI⟩, HU5.out.trans (Upd.of_row HG6.out (fun b e => by cases e; exact Or.inr (Or.inr rfl)))⟩
      · rw [hb6.out]
        dsimp only
        rw [mark_len, hcast]
      · have h3 := HO5.out
        have hput := mapH_put E ((((st.last : Int) + 1), t, l, til, cls), (some ⟨b, 0, none⟩, c)) (fun y hy => by
          have := HH2.out.inv.rng y.1 (by rw [← HH2.out.ops]; exact List.mem_map_of_mem hy)
          show y.1.1 < (st.last : Int) + 1
          omega)
        dsimp only at hput
        rw [hput] at h3
        exact (tight_map h3).kept HG6.out (by have := HH2.out.ne_sM; simp; omega)
      · rw [List.map_append, HH2.out.ops]
        rfl
      · have hu36 : Upd (Own3 g M sb) w3 w6 := (Upd.of_below HBL.out).trans ((Upd.of_row hG5.out (fun b e => by cases e; exact Or.inr (Or.inl rfl))).trans (Upd.of_row HG6.out (fun b e => by cases e; exact Or.inr (Or.inr rfl))))
        have hu23 : Upd (Own3 g M sb) w2 w3 := Upd.of_row hG3.out (fun b e => by cases e; exact Or.inl rfl)
        intro y hy
        rcases List.mem_append.mp hy with hy | hy
        · obtain ⟨b', e', hb', hr'⟩ := HH2.out.pls y hy
          have hno := HH2.out.pl_own hr'
          exact ⟨b', e', hb', hr'.keep (hu23.trans hu36) hno⟩
        · rw [List.mem_singleton.mp hy]
          have h3w : w3.heap.size ≤ b := HB4.out
          have hu46 : Upd (Own3 g M sb) w4 w6 := (Upd.of_row hG5.out (fun b e => by cases e; exact Or.inr (Or.inl rfl))).trans (Upd.of_row HG6.out (fun b e => by cases e; exact Or.inr (Or.inr rfl)))
          have hno : ¬ Own3 g M sb b := by
            have h1 := lt_of_block HH2.out.blk
            obtain ⟨arr, ha, _⟩ := HH2.out.sps
            have h2 := lt_of_block ha
            obtain ⟨es, ck, he⟩ := HH2.out.map_blk
            have h3 := lt_of_block he
            have h4 := hG3.out.size
            rintro (e | e | e) <;> omega
          exact ⟨b, rfl, HF.out b (Nat.le_trans (Nat.le_trans HB.out.size hG3.out.size) h3w), HR4.out.keep hu46 hno⟩
    · have HS : Hid (takeS st (nameS t) t l til cls = ((0, 16), st)) := by
        show _ = _
        unfold takeS
        rw [if_neg (by rw [HOK.out]; simp), if_neg (by rw [HEL.out]; exact h4), if_pos han]
      clear han hml
      go_wp2_with fail
      go_ret2
      refine ⟨E, by rw [HS.out]; rfl, ?_, Upd.of_below HB.out⟩
      rw [HS.out]
      exact HH2.out
end Go.Proofs.YtkdbenoleendcaaGreatDoor
