/- hold.Swap: the walk. -/
import Derived.Test.YtkdbenoleendcaaGreatDoorQHMB24

namespace Go.Proofs.YtkdbenoleendcaaGreatDoor
open Go.RowKit Go.IntWalk Go.Maps Go.WideMaps

set_option maxRecDepth 100000 in
set_option maxHeartbeats 3200000 in
theorem swap_any (w : World) (F : Nat → Prop) (g M sb : Nat) (E : List OwnT) (st : St) (id : Int) (l : List Int) (pa : Option Addr) (m mc : Nat) (h : HoldC w F g M sb E st) (hw : (Lit.int .i64 id).wf = true)
    (hsp : st.sp.length ≤ 4000) (hla : st.last ≤ 900000000) (hm : m ≤ 4000) (hEn : E.length ≤ 1000) (hfr : ∀ i, w.heap.size ≤ i → F i) (hL : ∀ wx, Upd (Own3 g M sb) w wx → Ints wx pa m l) :
    Calls Tryz.prog 23 #[.pointer (some ⟨g, 0, none⟩), .int .i64 id, .slice pa m mc] w (ErrPost F g M sb w (swapS st id l).1 (swapS st id l).2) := by
  have HH := Lib.hid h
  have HL := Lib.hid hL
  have HF := Lib.hid hfr
  have HC := Lib.hid (choice_any g sb st.sp.length st.sp.length _ _ l pa m mc w h.blk hsp hm (hL w (Upd.refl _ _)))
  clear h hL hfr
  go_enter Tryz.func23, Tryz.ntmps23
  go_wp2_with fail
  refine HC.out.mono ?_
  rintro e w1 ⟨rfl, hb⟩
  have HB : Hid (Below w.heap.size w w1) := hb
  have HH1 : Hid (HoldC w1 F g M sb E st) := HH.out.keep (T := fun _ => False) (Upd.of_below hb) (fun _ _ h => h) (fun _ _ h => h)
  clear hb
  cases hch : choiceB st.sp.length l
  · have HS : Hid (swapS st id l = (1, st)) := by
      show _ = _
      unfold swapS
      rw [if_pos hch]
    go_wp2_with fail
    go_ret
    exact ⟨E, by rw [HS.out]; rfl, by rw [HS.out]; exact HH1.out, Upd.of_below HB.out⟩
  have hchs := choice_iff.mp hch
  have HCH := Lib.hid hch
  clear hch
  have g0 : w1.cell? ⟨g, 0, none⟩ = some (.map (some M)) := by rw [cell_of_row _ _ _ _ _ _ HH1.out.blk]; rfl
  have hrun := look_hold HH1.out.map hw
  cases hf : findO E id with
  | none =>
    have HS : Hid (swapS st id l = (11, st)) := by
      show _ = _
      unfold swapS
      rw [if_neg (by rw [HCH.out]; simp), ← HH1.out.ops, find_own, hf]
      rfl
    rw [hf] at hrun
    simp only [Option.isSome_none, zeroHoldV] at hrun
    clear hf
    go_upto_region 4 with fail
    have HB2 : Hid (Below w.heap.size w (w1.alloc (.cells #[.int .i64 0, .string (bs []), .int .i64 0, .slice none 0 0, .int .i64 0, .int .i64 0] 51))) := HB.out.trans ((Joins.below_alloc1 _ _).mono HB.out.size)
    have HH2 : Hid (HoldC (w1.alloc (.cells #[.int .i64 0, .string (bs []), .int .i64 0, .slice none 0 0, .int .i64 0, .int .i64 0] 51)) F g M sb E st) :=
      HH1.out.keep (T := fun _ => False) (Upd.of_below (Joins.below_alloc1 _ _)) (fun _ _ h => h) (fun _ _ h => h)
    generalize w1.alloc (.cells #[.int .i64 0, .string (bs []), .int .i64 0, .slice none 0 0, .int .i64 0, .int .i64 0] 51) = w2 at *
    clear hrun g0
    go_wp2_with fail
    go_ret
    exact ⟨E, by rw [HS.out]; rfl, by rw [HS.out]; exact HH2.out, Upd.of_below HB2.out⟩
  | some x =>
    obtain ⟨hxm, hxi⟩ := findO_mem hf
    have HXF : Hid (findH st.op id = some x.1) := by
      show _ = _
      rw [← HH1.out.ops, find_own, hf]
      rfl
    rw [hf] at hrun
    simp only [Option.isSome_some, holdV] at hrun
    obtain ⟨b, hxb, hFb, hIR⟩ := HH1.out.pls x hxm
    obtain ⟨⟨hid, nm', L, til, cls⟩, xa, xc⟩ := x
    dsimp only at hxb hxi hIR hrun HXF
    subst hxb
    subst hxi
    have HXM := Lib.hid hxm
    clear hxm hf
    go_upto_region 4 with fail
    have hb12 : Hid (Below w1.heap.size w1 (w1.alloc (.cells #[.int .i64 hid, .string (bs nm'), .int .i64 0, .slice (some ⟨b, 0, none⟩) L.length xc, .int .i64 til, .int .i64 cls] 51))) := Joins.below_alloc1 _ _
    have HC2 : Hid ((w1.alloc (.cells #[.int .i64 hid, .string (bs nm'), .int .i64 0, .slice (some ⟨b, 0, none⟩) L.length xc, .int .i64 til, .int .i64 cls] 51)).heap[w1.heap.size]? = some (.cells #[.int .i64 hid, .string (bs nm'), .int .i64 0, .slice (some ⟨b, 0, none⟩) L.length xc, .int .i64 til, .int .i64 cls] 51 (0, 0))) := World.alloc_heap_new _ _
    have HH2 : Hid (HoldC (w1.alloc (.cells #[.int .i64 hid, .string (bs nm'), .int .i64 0, .slice (some ⟨b, 0, none⟩) L.length xc, .int .i64 til, .int .i64 cls] 51)) F g M sb E st) :=
      HH1.out.keep (T := fun _ => False) (Upd.of_below hb12.out) (fun _ _ h => h) (fun _ _ h => h)
    generalize w1.alloc (.cells #[.int .i64 hid, .string (bs nm'), .int .i64 0, .slice (some ⟨b, 0, none⟩) L.length xc, .int .i64 til, .int .i64 cls] 51) = w2 at *
    have HB2 : Hid (Below w.heap.size w w2) := HB.out.trans (hb12.out.mono HB.out.size)
    have hIR2 : Hid (IntRow w2 b 3 L) := hIR.keep (T := fun _ => False) (Upd.of_below hb12.out) (fun h => h)
    obtain ⟨hx, hhx⟩ : ∃ hx, w1.heap.size = hx := ⟨_, rfl⟩
    have HXL : Hid (w.heap.size ≤ hx) := by rw [← hhx]; exact HB.out.size
    rw [hhx] at HC2
    have hnoL : Hid (¬ Own3 g M sb b) := HH2.out.pl_own (x := ((hid, nm', L, til, cls), some ⟨b, 0, none⟩, xc)) hIR2.out
    have hnoX : Hid (¬ Own3 g M sb hx) := by
      show ¬ _
      have h1 := lt_of_block HH1.out.blk
      obtain ⟨arr, ha, _⟩ := HH1.out.sps
      have h2 := lt_of_block ha
      obtain ⟨es, ck, he⟩ := HH1.out.map_blk
      have h3 := lt_of_block he
      rintro (e | e | e) <;> omega
    have hbx : Hid (b ≠ hx) := by
      obtain ⟨arr, ha, _⟩ := hIR
      have := lt_of_block ha
      show b ≠ hx
      omega
    clear hrun g0 hIR
    have hchL := (choice_iff.mp (HH2.out.inv.chs _ (by rw [← HH2.out.ops]; exact List.mem_map_of_mem HXM.out)))
    dsimp only at hchL
    have z0 := cell_of_row (j := 3) _ _ _ _ _ HC2.out
    have HM1 := Lib.hid (mark_any g sb st.sp.length st.sp.length _ _ st.sp L (0, 0) (some ⟨b, 0, none⟩) L.length xc w2 HH2.out.blk HH2.out.ne_gs HH2.out.sps rfl (by omega) hchL.2.1 (fun wx hg => by
      have : IntRow wx b 3 L := hIR2.out.keep (T := Own3 g M sb) (Upd.of_row hg (fun b e => by cases e; exact Or.inr (Or.inr rfl))) hnoL.out
      exact ⟨rfl, fun k hk => ⟨b, 0, rfl, by rw [Nat.zero_add]; exact this.cell k hk⟩⟩))
    rw [hhx]
    have HCHL := Lib.hid hchL
    clear hhx hchL
    go_wp2_with fail
    refine HM1.out.mono ?_
    rintro e w3 ⟨rfl, hg3, hr3⟩
    have HU3 : Hid (Upd (Own3 g M sb) w2 w3) := Upd.of_row hg3 (fun b e => by cases e; exact Or.inr (Or.inr rfl))
    have HG3 := Lib.hid hg3
    have HR3 := Lib.hid hr3
    have HB3 : Hid (w3.heap[g]? = some (.cells #[.map (some M), .slice (some ⟨sb, 0, none⟩) st.sp.length st.sp.length, .int .i64 st.last] 56 (0, 0))) :=
      (HG3.out.block g (lt_of_block HH2.out.blk) (by have := HH2.out.ne_gs; simpa using this)).trans HH2.out.blk
    have HC3 : Hid (w3.heap[hx]? = some (.cells #[.int .i64 hid, .string (bs nm'), .int .i64 0, .slice (some ⟨b, 0, none⟩) L.length xc, .int .i64 til, .int .i64 cls] 51 (0, 0))) := (HU3.out.block hx (lt_of_block HC2.out) hnoX.out).trans HC2.out
    have HU03 : Hid (Upd (Own3 g M sb) w w3) := (Upd.of_below HB2.out).trans HU3.out
    clear hg3 hr3 HM1 z0
    go_wp2_with fail
    refine (contains_any g sb st.sp.length st.sp.length _ _ _ l pa m mc w3 HB3.out HR3.out (by rw [mark_len]) hm hchs.2.1 (HL.out w3 HU03.out)).mono ?_
    rintro e w' ⟨rfl, rfl⟩
    have z0 := cell_of_row (j := 3) _ _ _ _ _ HC3.out
    cases han : l.any (takenB (markS st.sp L (0, 0)))
    · have HS : Hid (swapS st hid l = (0, ⟨markS (markS st.sp L (0, 0)) l (1, hid), st.last, setPl st.op hid l⟩)) := by
        show _ = _
        unfold swapS
        rw [if_neg (by rw [HCH.out]; simp), HXF.out]
        dsimp only
        rw [if_neg (by rw [han]; simp)]
      clear han
      have hm1 : 1 ≤ m := by have := (HL.out w (Upd.refl _ _)).1; omega
      have HCL := Lib.hid (clone_any l pa m mc w3 hm hm1 (HL.out w3 HU03.out))
      have HLM := Lib.hid (HL.out w (Upd.refl _ _)).1
      clear z0
      go_wp2_with fail
      refine HCL.out.mono ?_
      rintro e w4 ⟨b4, c4, rfl, hb4, hr4, hbl⟩
      have HBL := Lib.hid hbl
      have HR4 := Lib.hid hr4
      have HB4 := Lib.hid hb4
      have HC4 : Hid (w4.heap[hx]? = some (.cells #[.int .i64 hid, .string (bs nm'), .int .i64 0, .slice (some ⟨b, 0, none⟩) L.length xc, .int .i64 til, .int .i64 cls] 51 (0, 0))) := (HBL.out.block hx (lt_of_block HC3.out)).trans HC3.out
      have z3 := cell_of_row (j := 3) _ _ _ _ _ HC4.out
      have f3 : w4.frozen? ⟨hx, 3, none⟩ = false := by simp only [World.frozen?, HC4.out]; simp
      clear hbl hr4 hb4 HCL
      go_upto_region 11 with fail
      have HC5 : Hid ((w4.setCell ⟨hx, 3, none⟩ (.slice (some ⟨b4, 0, none⟩) m c4)).heap[hx]? = some (.cells #[.int .i64 hid, .string (bs nm'), .int .i64 0, .slice (some ⟨b4, 0, none⟩) m c4, .int .i64 til, .int .i64 cls] 51 (0, 0))) := by
        have := HC4.out
        show _ = _
        simp [World.setCell, Array.getElem?_modify, this]
      have HG5 : Hid (w4.grownBy (w4.setCell ⟨hx, 3, none⟩ (.slice (some ⟨b4, 0, none⟩) m c4)) (some hx)) := grown_setCell _ _ _ _
      generalize w4.setCell ⟨hx, 3, none⟩ (.slice (some ⟨b4, 0, none⟩) m c4) = w5 at *
      clear z3 f3
      have HU35 : Hid (Upd (fun i => i = hx) w3 w5) := (Upd.of_below HBL.out).trans (Upd.of_row HG5.out (fun b e => by cases e; rfl))
      have HB5 : Hid (w5.heap[g]? = some (.cells #[.map (some M), .slice (some ⟨sb, 0, none⟩) st.sp.length st.sp.length, .int .i64 st.last] 56 (0, 0))) :=
        (HU35.out.block g (lt_of_block HB3.out) (fun e => hnoX.out (Or.inl e.symm))).trans HB3.out
      have q0 : w5.cell? ⟨g, 0, none⟩ = some (.map (some M)) := by rw [cell_of_row _ _ _ _ _ _ HB5.out]; rfl
      have HM5 : Hid (w5.ownsMap Tryz.prog 3 RH M E.length (mapH E)) := by
        have h1 := HH2.out.map.kept HG3.out (by have := HH2.out.ne_sM; simp; omega)
        have h2 := h1.kept (grown_below HBL.out none) (by simp)
        exact h2.kept HG5.out (by have : ¬ M = hx := fun e => hnoX.out (Or.inr (Or.inl e.symm)); simpa using this)
      have HSP5 : Hid (RecRow SpE w5 sb 53 (markS st.sp L (0, 0))) := by
        have h2 := HR3.out.grown (grown_below HBL.out none) (by simp)
        exact h2.grown HG5.out (by have : ¬ sb = hx := fun e => hnoX.out (Or.inr (Or.inr e.symm)); simpa using this)
      have r0 := cell_of_row (j := 0) _ _ _ _ _ HC5.out
      have r1 := cell_of_row (j := 1) _ _ _ _ _ HC5.out
      have r2 := cell_of_row (j := 2) _ _ _ _ _ HC5.out
      have r3 := cell_of_row (j := 3) _ _ _ _ _ HC5.out
      have r4 := cell_of_row (j := 4) _ _ _ _ _ HC5.out
      have r5 := cell_of_row (j := 5) _ _ _ _ _ HC5.out
      have hrg := HH2.out.inv.rng _ (by rw [← HH2.out.ops]; exact List.mem_map_of_mem HXM.out)
      dsimp only at hrg
      refine wp_region_held_drew (S := fun w' => w'.cell? ⟨g, 0, none⟩ = some (.map (some M)) ∧ w'.cell? ⟨hx, 0, none⟩ = some (.int .i64 hid) ∧ w'.cell? ⟨hx, 1, none⟩ = some (.string (bs nm')) ∧ w'.cell? ⟨hx, 2, none⟩ = some (.int .i64 0) ∧ w'.cell? ⟨hx, 3, none⟩ = some (.slice (some ⟨b4, 0, none⟩) m c4) ∧ w'.cell? ⟨hx, 4, none⟩ = some (.int .i64 til) ∧ w'.cell? ⟨hx, 5, none⟩ = some (.int .i64 cls)) (by kernel_rfl) ⟨q0, r0, r1, r2, r3, r4, r5⟩ (fun hHeld => ?_)
      clear q0 r0 r1 r2 r3 r4 r5
      obtain ⟨w6, hrun5, ho6, ht6⟩ := store_hold (w := w5.drew) HM5.out.drew (by omega) hid (by omega) (by omega) (holdV ((hid, nm', l, til, cls), (some ⟨b4, 0, none⟩, c4)))
      simp only [holdV, HLM.out] at hrun5
      have HO6 := Lib.hid ho6
      have HT6 := Lib.hid ht6
      clear ho6 ht6
      refine take_at (i := 0) (v := ?_) 42 rfl rfl (by kernel_rfl) (by kernel_rfl) (by kernel_rfl) (fun _ _ _ h => h) (Or.inl ⟨by rfl, ?_⟩) (by assumption) ?_
      rotate_left
      · intro w hSw; go_simp <;> with_reducible rfl
      try simp only [Act.put, List.setIfInBounds_toArray, List.set_cons_zero, List.set_cons_succ]
      refine take_at (i := 1) (v := ?_) 43 rfl rfl (by kernel_rfl) (by kernel_rfl) (by kernel_rfl) (fun _ _ _ h => h) (Or.inl ⟨by rfl, ?_⟩) (by assumption) ?_
      rotate_left
      · intro w hSw; go_simp <;> with_reducible rfl
      try simp only [Act.put, List.setIfInBounds_toArray, List.set_cons_zero, List.set_cons_succ]
      refine take_at (i := 2) (v := ?_) 44 rfl rfl (by kernel_rfl) (by kernel_rfl) (by kernel_rfl) (fun _ _ _ h => h) (Or.inl ⟨by rfl, ?_⟩) (by assumption) ?_
      rotate_left
      · intro w hSw; go_simp <;> with_reducible rfl
      try simp only [Act.put, List.setIfInBounds_toArray, List.set_cons_zero, List.set_cons_succ]
      refine take_at (i := 3) (v := ?_) 45 rfl rfl (by kernel_rfl) (by kernel_rfl) (by kernel_rfl) (fun _ _ _ h => h) (Or.inl ⟨by rfl, ?_⟩) (by assumption) ?_
      rotate_left
      · intro w hSw; go_simp <;> with_reducible rfl
      try simp only [Act.put, List.setIfInBounds_toArray, List.set_cons_zero, List.set_cons_succ]
      refine take_at (i := 4) (v := ?_) 46 rfl rfl (by kernel_rfl) (by kernel_rfl) (by kernel_rfl) (fun _ _ _ h => h) (Or.inl ⟨by rfl, ?_⟩) (by assumption) ?_
      rotate_left
      · intro w hSw; go_simp <;> with_reducible rfl
      try simp only [Act.put, List.setIfInBounds_toArray, List.set_cons_zero, List.set_cons_succ]
      refine take_at (i := 5) (v := ?_) 47 rfl rfl (by kernel_rfl) (by kernel_rfl) (by kernel_rfl) (fun _ _ _ h => h) (Or.inl ⟨by rfl, ?_⟩) (by assumption) ?_
      rotate_left
      · intro w hSw; go_simp <;> with_reducible rfl
      try simp only [Act.put, List.setIfInBounds_toArray, List.set_cons_zero, List.set_cons_succ]
      refine wpAnyH_ready (rs := [6]) (by kernel_rfl) (by simp) ?_
      refine AllReadyH.cons rfl (fun K' hK => ?_) AllReadyH.nil
      go_simp
      have HG6 : Hid (w5.grownBy w6 (some M)) := grown_trans (grown_drew1 w5 _) HT6.out.grown
      have hxM : Hid (¬ hx = M) := fun e => hnoX.out (Or.inr (Or.inl e))
      have HC6 : Hid (w6.heap[hx]? = some (.cells #[.int .i64 hid, .string (bs nm'), .int .i64 0, .slice (some ⟨b4, 0, none⟩) m c4, .int .i64 til, .int .i64 cls] 51 (0, 0))) := (HG6.out.block hx (lt_of_block HC5.out) (by have := hxM.out; simpa using this)).trans HC5.out
      have HB6 : Hid (w6.heap[g]? = some (.cells #[.map (some M), .slice (some ⟨sb, 0, none⟩) st.sp.length st.sp.length, .int .i64 st.last] 56 (0, 0))) := (HG6.out.block g (lt_of_block HB5.out) (by have := HH2.out.ne_gM; simpa using this)).trans HB5.out
      have HS6 : Hid (w6.cell? ⟨g, 0, none⟩ = some (.map (some M)) ∧ w6.cell? ⟨hx, 0, none⟩ = some (.int .i64 hid) ∧ w6.cell? ⟨hx, 1, none⟩ = some (.string (bs nm')) ∧ w6.cell? ⟨hx, 2, none⟩ = some (.int .i64 0) ∧ w6.cell? ⟨hx, 3, none⟩ = some (.slice (some ⟨b4, 0, none⟩) m c4) ∧ w6.cell? ⟨hx, 4, none⟩ = some (.int .i64 til) ∧ w6.cell? ⟨hx, 5, none⟩ = some (.int .i64 cls)) :=
        ⟨by rw [cell_of_row _ _ _ _ _ _ HB6.out]; rfl, cell_of_row (j := 0) _ _ _ _ _ HC6.out, cell_of_row (j := 1) _ _ _ _ _ HC6.out, cell_of_row (j := 2) _ _ _ _ _ HC6.out, cell_of_row (j := 3) _ _ _ _ _ HC6.out, cell_of_row (j := 4) _ _ _ _ _ HC6.out, cell_of_row (j := 5) _ _ _ _ _ HC6.out⟩
      go_simp
      refine hK.out _ _ (HS6.out) (fun hHeld => ?_)
      clear hK K'
      try simp only [Act.put, List.setIfInBounds_toArray, List.set_cons_zero, List.set_cons_succ]
      refine wpAnyH_done (by kernel_rfl) ?_ _
      clear hHeld HS6 hrun5
      have HU06 : Hid (Upd (Own3 g M sb) w w6) := by
        have h35 : Upd (Own3 g M sb) w w5 := ⟨HU35.out.os.trans HU03.out.os, HU35.out.tape.trans HU03.out.tape, HU35.out.output.trans HU03.out.output, Nat.le_trans HU03.out.size HU35.out.size, fun i hi hn => (HU35.out.block i (Nat.lt_of_lt_of_le hi HU03.out.size) (by have := HXL.out; omega)).trans (HU03.out.block i hi hn)⟩
        exact h35.trans (Upd.of_row HG6.out (fun b e => by cases e; exact Or.inr (Or.inl rfl)))
      have HSP6 : Hid (RecRow SpE w6 sb 53 (markS st.sp L (0, 0))) := HSP5.out.grown HG6.out (by have := HH2.out.ne_sM; simpa using this)
      have HM3 := Lib.hid (mark_any g sb st.sp.length st.sp.length _ _ _ l (1, hid) pa m mc w6 HB6.out HH2.out.ne_gs HSP6.out (by rw [mark_len]) hm hchs.2.1 (fun wx hg => HL.out wx (HU06.out.trans (Upd.of_row hg (fun b e => by cases e; exact Or.inr (Or.inr rfl))))))
      clear hchs hrg
      go_wp2_with fail
      refine HM3.out.mono ?_
      rintro e w7 ⟨rfl, hg7, hr7⟩
      have HG7 := Lib.hid hg7
      have HR7 := Lib.hid hr7
      clear hg7 hr7 HM3
      go_wp2_with fail
      go_ret
      have hI := swap_inv HH2.out.inv hid l
      rw [HS.out] at hI ⊢
      dsimp only at hI ⊢
      have hu7 : Upd (Own3 g M sb) w6 w7 := Upd.of_row HG7.out (fun b e => by cases e; exact Or.inr (Or.inr rfl))
      have hu37 : ∀ {y : OwnT}, y ∈ E → PlAt w7 F y := fun {y} hy => by
        obtain ⟨b', e', hb', hr'⟩ := HH2.out.pls y hy
        have hno := HH2.out.pl_own hr'
        have h3 := hr'.keep HU3.out hno
        have hb2 : b' ≠ hx := by
          obtain ⟨arr, ha, _⟩ := hr'
          exact type_ne ha HC2.out (by decide)
        have h5 := h3.keep HU35.out hb2
        have h6 := h5.keep (T := Own3 g M sb) (Upd.of_row HG6.out (fun b e => by cases e; exact Or.inr (Or.inl rfl))) hno
        exact ⟨b', e', hb', h6.keep hu7 hno⟩
      refine ⟨E.map (fun y => if y.1.1 = hid then ((hid, nm', l, til, cls), (some ⟨b4, 0, none⟩, c4)) else y), rfl, ⟨?_, ?_, HR7.out, ?_, fun y hy => ?_, hI⟩, HU06.out.trans hu7⟩
      · rw [(HG7.out.block g (lt_of_block HB6.out) (by have := HH2.out.ne_gs; simpa using this)).trans HB6.out]
        dsimp only
        rw [mark_len, mark_len]
      · have h3 := HO6.out
        have hput := mapH_set E ((hid, nm', l, til, cls), (some ⟨b4, 0, none⟩, c4)) HH2.out.asc ⟨_, HXM.out, rfl⟩
        dsimp only at hput
        rw [hput] at h3
        exact (tight_map h3).kept HG7.out (by have := HH2.out.ne_sM; simp; omega)
      · have := set_own E ((hid, nm', l, til, cls), (some ⟨b4, 0, none⟩, c4)) hid l (fun y hy e => by
          have hy' : y.1 ∈ st.op := by rw [← HH2.out.ops]; exact List.mem_map_of_mem hy
          have hx' : ((hid, nm', L, til, cls) : HoldT) ∈ st.op := by rw [← HH2.out.ops]; exact List.mem_map_of_mem HXM.out
          have := HH2.out.inv.uniq hy' hx' e
          rw [this]) rfl
        rw [HH2.out.ops] at this
        exact this.symm
      · obtain ⟨z, hz, e⟩ := List.mem_map.mp hy
        by_cases hzi : z.1.1 = hid
        · rw [if_pos hzi] at e
          rw [← e]
          have hno : ¬ Own3 g M sb b4 := by
            have h1 := lt_of_block HB3.out
            obtain ⟨arr, ha, _⟩ := HR3.out
            have h2 := lt_of_block ha
            have h3 : M < w3.heap.size := by
              obtain ⟨es, ck, he⟩ := HH2.out.map_blk
              exact Nat.lt_of_lt_of_le (lt_of_block he) HU3.out.size
            have h4 := HB4.out
            rintro (e | e | e) <;> omega
          have hbx4 : b4 ≠ hx := by
            have := lt_of_block HC3.out
            have := HB4.out
            omega
          have h5 := HR4.out.keep (T := fun i => i = hx) (Upd.of_row HG5.out (fun b e => by cases e; rfl)) hbx4
          have h6 := h5.keep (T := Own3 g M sb) (Upd.of_row HG6.out (fun b e => by cases e; exact Or.inr (Or.inl rfl))) hno
          exact ⟨b4, rfl, HF.out b4 (Nat.le_trans HU03.out.size HB4.out), h6.keep hu7 hno⟩
        · rw [if_neg hzi] at e
          rw [← e]
          exact hu37 hz
    · have HS : Hid (swapS st hid l = (16, ⟨markS (markS st.sp L (0, 0)) L (1, hid), st.last, st.op⟩)) := by
        show _ = _
        unfold swapS
        rw [if_neg (by rw [HCH.out]; simp), HXF.out]
        dsimp only
        rw [if_pos han]
      clear han
      have HM2 := Lib.hid (mark_any g sb st.sp.length st.sp.length _ _ (markS st.sp L (0, 0)) L (1, hid) (some ⟨b, 0, none⟩) L.length xc w3 HB3.out HH2.out.ne_gs HR3.out (by rw [mark_len]) (by have := HCHL.out; omega) HCHL.out.2.1 (fun wx hg => by
        have : IntRow wx b 3 L := hIR2.out.keep (T := Own3 g M sb) (HU3.out.trans (Upd.of_row hg (fun b e => by cases e; exact Or.inr (Or.inr rfl)))) hnoL.out
        exact ⟨rfl, fun k hk => ⟨b, 0, rfl, by rw [Nat.zero_add]; exact this.cell k hk⟩⟩))
      clear hchs
      go_wp2_with fail
      refine HM2.out.mono ?_
      rintro e w4 ⟨rfl, hg4, hr4⟩
      have HG4 := Lib.hid hg4
      have HR4 := Lib.hid hr4
      clear hg4 hr4 z0
      go_wp2_with fail
      go_ret
      have hI := swap_inv HH2.out.inv hid l
      rw [HS.out] at hI ⊢
      have hu4 : Upd (Own3 g M sb) w3 w4 := Upd.of_row HG4.out (fun b e => by cases e; exact Or.inr (Or.inr rfl))
      refine ⟨E, rfl, ⟨?_, ?_, HR4.out, HH2.out.ops, fun y hy => ?_, hI⟩, HU03.out.trans hu4⟩
      · rw [(HG4.out.block g (lt_of_block HB3.out) (by have := HH2.out.ne_gs; simpa using this)).trans HB3.out]
        dsimp only
        rw [mark_len, mark_len]
      · exact (HH2.out.map.kept HG3.out (by have := HH2.out.ne_sM; simp; omega)).kept HG4.out (by have := HH2.out.ne_sM; simp; omega)
      · obtain ⟨b', e', hb', hr'⟩ := HH2.out.pls y hy
        have hno := HH2.out.pl_own hr'
        exact ⟨b', e', hb', hr'.keep (HU3.out.trans hu4) hno⟩
end Go.Proofs.YtkdbenoleendcaaGreatDoor
