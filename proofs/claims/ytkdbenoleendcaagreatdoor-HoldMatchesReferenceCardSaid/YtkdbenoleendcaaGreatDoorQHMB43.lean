/- foyerref26: end. -/
import Derived.Test.YtkdbenoleendcaaGreatDoorQHMB40
import Derived.Test.YtkdbenoleendcaaGreatDoorQHMB42

namespace Go.Proofs.YtkdbenoleendcaaGreatDoor
open Go.RowKit Go.IntWalk Go.Maps Go.WideMaps

/-- What end returns, and leaves. -/
def REndPost (g : Nat) (E : List OwnT) (L : List Int) (st' : St) (w : World) (e : Ending) (w' : World) : Prop :=
  ∃ xa xc oa' oc' sa' sc' E', e = .returned (.slice xa L.length xc) ∧ LRes w' (.slice xa L.length xc) L ∧ RefC w' g oa' oc' sa' sc' E' st' ∧ Upd (Gb g) w w' ∧ (∀ b o, sa' = some ⟨b, o, none⟩ → w.heap.size ≤ b) ∧ ∀ x ∈ E', x ∈ E

theorem PlAt.row {w : World} {F : Nat → Prop} {x : OwnT} (h : PlAt w F x) : ∃ b, x.2.1 = some ⟨b, 0, none⟩ ∧ IntRow w b 3 x.1.2.2.1 := let ⟨b, e, _, r⟩ := h; ⟨b, e, r⟩

set_option maxRecDepth 100000 in
set_option maxHeartbeats 3200000 in
theorem rend_any (w : World) (g : Nat) (oa sa : Option Addr) (oc sc : Nat) (E : List OwnT) (st : St) (i : Nat) (s id : Int) (h : RefC w g oa oc sa sc E st) (hinv : Inv st) (hi : i < st.op.length)
    (hsp : st.sp.length ≤ 4000) (hn : st.op.length ≤ 4000) :
    Calls Tryz.prog 33 #[.pointer (some ⟨g, 0, none⟩), .int .i64 i, .int .i64 s, .int .i64 id] w (REndPost g E (st.op[i]).2.2.1 ⟨markS st.sp (st.op[i]).2.2.1 (s, id), st.last, st.op.take i ++ st.op.drop (i + 1)⟩ w) := by
  have HC := Lib.hid h
  have hiE : i < E.length := by rw [h.elen]; exact hi
  have hx : E[i].1 = st.op[i] := map_at h.ops hiE (List.getElem?_eq_getElem hi)
  have hch := choice_iff.mp (hinv.chs _ (List.getElem_mem hi))
  have HCH := Lib.hid hch
  have g0 := h.c0
  obtain ⟨b, o, rfl, c0, c1, c2, c3, c4, c5⟩ := own_at h.opn.recs i hiE hiE
  obtain ⟨pb, hpb, hpr⟩ := (h.opn.2 _ (List.getElem_mem hiE)).row
  have HN := Lib.hid hn
  obtain ⟨n, hnn⟩ : ∃ n, st.op.length = n := ⟨_, rfl⟩
  have HEL : Hid (E.length = n) := h.elen.trans hnn
  have HOS := Lib.hid hnn
  rw [hnn] at g0 hi hn
  rw [hx] at c3 hpr
  generalize hLL : (st.op[i]).2.2.1 = L at *
  generalize hxa : E[i].2.1 = xa at *
  generalize hxc : E[i].2.2 = xc at *
  subst hpb
  have HPR := Lib.hid hpr
  have hS1 := set_any w g (some ⟨b, o, none⟩) sa oc sc E st L (some ⟨pb, 0, none⟩) L.length xc s id h (by omega) hsp hch.1.1 hch.2.1 hpr.ints
  have HS1 := Lib.hid hS1
  have HOC : Hid (n ≤ oc) := by have := h.cap; rw [hnn] at this; exact this
  clear h c0 c1 c2 c4 c5 hpr hch hinv hLL hxa hxc hx hiE hnn hS1
  go_enter Tryz.func33, Tryz.ntmps33
  go_wp2_with fail
  refine HS1.out.mono ?_
  rintro e w2 ⟨sa', sc', rfl, hh2, hu2, hfr2⟩
  have HH2 := Lib.hid hh2
  have HU2 := Lib.hid hu2
  have HFR := Lib.hid hfr2
  have k0 := hh2.c0
  dsimp only at k0
  rw [HOS.out] at k0
  have HEO : Hid (Recs OwnE w2 (some ⟨b, o, none⟩) n E) := by have := hh2.opn.recs; rw [HEL.out] at this; exact this
  have HKEEP : Hid (∀ wx, Below w2.heap.size w2 wx → wx.cell? ⟨g, 0, none⟩ = some (.slice (some ⟨b, o, none⟩) n oc)) := fun wx hb => Below.cell_of hb k0
  clear hh2 hu2 hfr2 HS1 g0 c3
  go_upto_region 3 with fail
  refine regionL (L := [16, 19]) (S := fun w' => w'.cell? ⟨g, 0, none⟩ = some (.slice (some ⟨b, o, none⟩) n oc)) (by kernel_rfl) k0 (fun hHeld => ?_)
  clear k0
  have hoc := HOC.out
  refine takeP (i := 0) (v := ?_) 23 rfl rfl (by kernel_rfl) (by kernel_rfl) (by kernel_rfl) (fun _ _ _ h => h) (Or.inl ⟨by rfl, ?_⟩) ?_
  rotate_left
  · intro w hSw; go_simp <;> with_reducible rfl
  try simp only [Act.put, List.setIfInBounds_toArray, List.set_cons_zero, List.set_cons_succ]
  refine takeP (i := 2) (v := ?_) 25 rfl rfl (by kernel_rfl) (by kernel_rfl) (by kernel_rfl) (fun _ _ _ h => h) (Or.inl ⟨by rfl, ?_⟩) ?_
  rotate_left
  · intro w hSw; go_simp <;> with_reducible rfl
  try simp only [Act.put, List.setIfInBounds_toArray, List.set_cons_zero, List.set_cons_succ]
  refine takeP (i := 3) (v := ?_) 26 rfl rfl (by kernel_rfl) (by kernel_rfl) (by kernel_rfl) (fun _ _ _ h => h) (Or.inl ⟨by rfl, ?_⟩) ?_
  rotate_left
  · intro w hSw; go_simp <;> with_reducible rfl
  try simp only [Act.put, List.setIfInBounds_toArray, List.set_cons_zero, List.set_cons_succ]
  refine takeP (i := 4) (v := ?_) 27 rfl rfl (by kernel_rfl) (by kernel_rfl) (by kernel_rfl) (fun _ _ _ h => h) (Or.inl ⟨by rfl, ?_⟩) ?_
  rotate_left
  · intro w hSw; go_simp <;> with_reducible rfl
  try simp only [Act.put, List.setIfInBounds_toArray, List.set_cons_zero, List.set_cons_succ]
  refine takeL (i := 5) (v := ?_) 28 rfl rfl (by kernel_rfl) (by kernel_rfl) (by kernel_rfl) (by kernel_rfl) (fun _ _ _ h => h) (Or.inl ⟨by rfl, ?_⟩) (by assumption) ?_
  rotate_left
  · intro w hSw; go_simp <;> with_reducible rfl
  try simp only [Act.put, List.setIfInBounds_toArray, List.set_cons_zero, List.set_cons_succ]
  refine takeP (i := 6) (v := ?_) 29 rfl rfl (by kernel_rfl) (by kernel_rfl) (by kernel_rfl) (fun _ _ _ h => h) (Or.inl ⟨by rfl, ?_⟩) ?_
  rotate_left
  · intro w hSw; go_simp <;> with_reducible rfl
  try simp only [Act.put, List.setIfInBounds_toArray, List.set_cons_zero, List.set_cons_succ]
  refine takeP (i := 7) (v := .slice (some ⟨b, o, none⟩) i oc) 30 rfl rfl (by kernel_rfl) (by kernel_rfl) (by kernel_rfl) (fun _ _ _ h => h) (Or.inl ⟨by rfl, ?_⟩) ?_
  · intro w hSw
    go_simp
    intro hh
    omega
  try simp only [Act.put, List.setIfInBounds_toArray, List.set_cons_zero, List.set_cons_succ]
  refine takeP (i := 9) (v := ?_) 32 rfl rfl (by kernel_rfl) (by kernel_rfl) (by kernel_rfl) (fun _ _ _ h => h) (Or.inl ⟨by rfl, ?_⟩) ?_
  rotate_left
  · intro w hSw; go_simp <;> with_reducible rfl
  try simp only [Act.put, List.setIfInBounds_toArray, List.set_cons_zero, List.set_cons_succ]
  refine takeP (i := 10) (v := ?_) 33 rfl rfl (by kernel_rfl) (by kernel_rfl) (by kernel_rfl) (fun _ _ _ h => h) (Or.inl ⟨by rfl, ?_⟩) ?_
  rotate_left
  · intro w hSw; go_simp <;> with_reducible rfl
  try simp only [Act.put, List.setIfInBounds_toArray, List.set_cons_zero, List.set_cons_succ]
  refine takeP (i := 11) (v := ?_) 34 rfl rfl (by kernel_rfl) (by kernel_rfl) (by kernel_rfl) (fun _ _ _ h => h) (Or.inl ⟨by rfl, ?_⟩) ?_
  rotate_left
  · intro w hSw; go_simp <;> with_reducible rfl
  try simp only [Act.put, List.setIfInBounds_toArray, List.set_cons_zero, List.set_cons_succ]
  refine takeL (i := 12) (v := ?_) 35 rfl rfl (by kernel_rfl) (by kernel_rfl) (by kernel_rfl) (by kernel_rfl) (fun _ _ _ h => h) (Or.inl ⟨by rfl, ?_⟩) (by assumption) ?_
  rotate_left
  · intro w hSw; go_simp <;> with_reducible rfl
  try simp only [Act.put, List.setIfInBounds_toArray, List.set_cons_zero, List.set_cons_succ]
  refine takeP (i := 13) (v := ?_) 36 rfl rfl (by kernel_rfl) (by kernel_rfl) (by kernel_rfl) (fun _ _ _ h => h) (Or.inl ⟨by rfl, ?_⟩) ?_
  rotate_left
  · intro w hSw; go_simp <;> with_reducible rfl
  try simp only [Act.put, List.setIfInBounds_toArray, List.set_cons_zero, List.set_cons_succ]
  refine takeP (i := 14) (v := .int .i64 ((i : Int) + 1)) 37 rfl rfl (by kernel_rfl) (by kernel_rfl) (by kernel_rfl) (fun _ _ _ h => h) (Or.inl ⟨by rfl, ?_⟩) ?_
  · intro w hSw
    go_simp
    exact i64_in _ (by omega)
  try simp only [Act.put, List.setIfInBounds_toArray, List.set_cons_zero, List.set_cons_succ]
  obtain ⟨A1, hA1⟩ : ∃ A1 : Option Addr, A1 = (if oc = i + 1 then some ⟨b, o, none⟩ else some ⟨b, o + (i + 1) * 6, none⟩) := ⟨_, rfl⟩
  have HA1 := Lib.hid hA1
  clear hA1
  refine takeP (i := 15) (v := .slice A1 (n - (i + 1)) (oc - (i + 1))) 38 rfl rfl (by kernel_rfl) (by kernel_rfl) (by kernel_rfl) (fun _ _ _ h => h) (Or.inl ⟨by rfl, ?_⟩) ?_
  · intro w hSw
    rw [HA1.out]
    go_simp
    intro hh
    exact absurd (hh (by omega)) (by omega)
  try simp only [Act.put, List.setIfInBounds_toArray, List.set_cons_zero, List.set_cons_succ]
  have hH1 := HEL.out
  refine readyL (i := 1) (by kernel_rfl) rfl (fun K' hK => ?_)
  go_simp
  have HBA : Hid (Below w2.heap.size w2 (w2.alloc (.cells #[] 51)).drew) := (Joins.below_alloc1 w2 _).drew
  have HOW : Hid ((w2.alloc (.cells #[] 51)).drew.ownsRow w2.heap.size 51 6 (.slice (some ⟨w2.heap.size, 0, none⟩) 0 0) 0 []) := World.ownsRow_made (e := 51) (size := 6) w2 #[] 0 (Nat.le_refl _) (by unfold maxLen; omega) rfl
  generalize (w2.alloc (.cells #[] 51)).drew = w3 at *
  go_simp
  refine hK.out _ _ (fun _ _ => HKEEP.out w3 HBA.out) ?_
  have hHeld := HKEEP.out w3 HBA.out
  clear hK K'
  try simp only [Act.put, List.setIfInBounds_toArray, List.set_cons_zero, List.set_cons_succ]
  obtain ⟨u, w4, hr, hb4, ho4, hf1, hf2⟩ := copy_holds w3 w2.heap.size w2.heap.size (some ⟨b, o, none⟩) i oc (E.take i) HBA.out.size (by omega) (recs_take (HEO.out.below HBA.out) i (by omega)) HOW.out
  have HB4 : Hid (Below w2.heap.size w2 w4) := HBA.out.trans (hb4.mono HBA.out.size)
  refine readyL (i := 8) (by kernel_rfl) rfl (fun K' hK => ?_)
  refine step_append_w (by rfl) (.tmp 24) (.tmp 30) 47 rfl 47 rfl hr rfl rfl ?_
  refine hK.out _ _ (fun _ _ => HKEEP.out w4 HB4.out) ?_
  clear hK K' hr
  try simp only [Act.put, List.setIfInBounds_toArray, List.set_cons_zero, List.set_cons_succ]
  obtain ⟨ad, had⟩ : ∃ ad, A1 = some ad := by rw [HA1.out]; split <;> exact ⟨_, rfl⟩
  have hrest := recs_rest (HEO.out.below HB4.out) (i + 1) (by omega) hoc
  rw [← HA1.out, had] at hrest
  subst had
  obtain ⟨v, w5, hr, ho5, hg5⟩ := join_holds w4 w2.heap.size i u (E.take i) (E.drop (i + 1)) ad (n - (i + 1)) (oc - (i + 1)) HB4.out.size (by omega) (by omega) hrest ho4 (fun h => ⟨_, hf2 h⟩)
  have HB5 : Hid (Below w2.heap.size w2 w5) := HB4.out.grown hg5 HB4.out.size (fun r h => by
    by_cases h0 : i = 0
    · rw [if_pos h0] at h; cases h
    · rw [if_neg h0] at h; exact Nat.le_trans HBA.out.size (hf1 h0 r h))
  obtain ⟨la, lc, rfl, hou, hlc⟩ := own_cap ho5
  refine readyL (i := 16) (by kernel_rfl) rfl (fun K' hK => ?_)
  refine step_append_w (by rfl) (.tmp 31) (.tmp 38) 47 rfl 47 rfl hr rfl rfl ?_
  refine hK.out _ _ (fun h => absurd h (by decide)) ?_
  clear hK K' hr hHeld
  try simp only [Act.put, List.setIfInBounds_toArray, List.set_cons_zero, List.set_cons_succ]
  have HOU := Lib.hid hou
  have HLC := Lib.hid hlc
  have HH5 := Lib.hid (HH2.out.below HB5.out)
  clear hrest ho4 ho5 hg5 hf1 hf2 hou hlc hb4 HOW HA1
  refine takeP (i := 17) (v := ?_) 40 rfl rfl (by kernel_rfl) (by kernel_rfl) (by kernel_rfl) (fun _ _ _ h => h) (Or.inl ⟨by rfl, ?_⟩) ?_
  rotate_left
  · intro w hSw; go_simp <;> with_reducible rfl
  try simp only [Act.put, List.setIfInBounds_toArray, List.set_cons_zero, List.set_cons_succ]
  refine takeP (i := 18) (v := ?_) 41 rfl rfl (by kernel_rfl) (by kernel_rfl) (by kernel_rfl) (fun _ _ _ h => h) (Or.inl ⟨by rfl, ?_⟩) ?_
  rotate_left
  · intro w hSw; go_simp <;> with_reducible rfl
  try simp only [Act.put, List.setIfInBounds_toArray, List.set_cons_zero, List.set_cons_succ]
  have z0 := HH5.out.c0
  have f0 := HH5.out.fr 0
  have HBK : Hid ((w5.setCell ⟨g, 0, none⟩ (.slice la (i + (n - (i + 1))) lc)).heap[g]? = some (.cells #[.slice la (i + (n - (i + 1))) lc, .slice sa' st.sp.length sc', .int .i64 st.last] 58 (0, 0))) := by
    have := HH5.out.blk
    dsimp only at this
    rw [mark_len] at this
    show _ = _
    simp [World.setCell, Array.getElem?_modify, this]
  have hG7 : Hid (w5.grownBy (w5.setCell ⟨g, 0, none⟩ (.slice la (i + (n - (i + 1))) lc)) (some g)) := grown_setCell _ _ _ _
  refine readyL (i := 19) (by kernel_rfl) rfl (fun K' hK => ?_)
  go_simp
  generalize w5.setCell ⟨g, 0, none⟩ (.slice la (i + (n - (i + 1))) lc) = w7 at *
  go_simp
  refine hK.out _ _ (fun h => absurd h (by decide)) ?_
  clear hK K'
  try simp only [Act.put, List.setIfInBounds_toArray, List.set_cons_zero, List.set_cons_succ]
  refine doneL (by kernel_rfl) ?_ _
  have HU57 : Hid (Upd (Gb g) w5 w7) := Upd.of_row hG7.out (fun b e => by cases e; rfl)
  have HU7 : Hid (Upd (Gb g) w w7) := HU2.out.trans ((Upd.of_below HB5.out).trans HU57.out)
  have hlen : (st.op.take i ++ st.op.drop (i + 1)).length = i + (n - (i + 1)) := by
    rw [List.length_append, List.length_take, List.length_drop, HOS.out]
    omega
  have HH7 : Hid (RefC w7 g la lc sa' sc' (E.take i ++ E.drop (i + 1)) ⟨markS st.sp L (s, id), st.last, st.op.take i ++ st.op.drop (i + 1)⟩) := by
    refine ⟨?_, ⟨fun hp => ?_, fun x hx => ?_⟩, ?_, HH5.out.sps.upd HU57.out (fun b' arr x hb => HH5.out.not_g hb (by decide)), ?_⟩
    · rw [HBK.out]
      dsimp only
      rw [mark_len, hlen]
    · obtain ⟨br, e, hbr, hrr⟩ := HOU.out.2 (by have := HOU.out.1; omega)
      refine ⟨br, e, hrr.grown hG7.out (fun e => ?_)⟩
      have h1 := lt_of_block HH2.out.blk
      have h3 : br = g := by simpa using e
      omega
    · have hxE : x ∈ E := by
        rcases List.mem_append.mp hx with hx | hx
        · exact List.mem_of_mem_take hx
        · exact List.mem_of_mem_drop hx
      exact (HH5.out.opn.upd HU57.out (fun b' arr ty x hb hty => HH5.out.not_g hb (by rcases hty with rfl | rfl <;> decide))).2 x hxE
    · rw [List.map_append, map_take HH5.out.ops, map_drop HH5.out.ops]
    · dsimp only
      rw [hlen]
      exact HLC.out
  have HLR : Hid (LRes w7 (.slice (some ⟨pb, 0, none⟩) L.length xc) L) := by
    obtain ⟨arr, ha, r⟩ := HPR.out
    exact Or.inr ⟨pb, xc, rfl, IntRow.keep ⟨arr, ha, r⟩ HU7.out (HC.out.not_g ha (by decide))⟩
  clear HU57 hlen HBK HH5 HOU HLC hG7 z0 f0
  go_wp2_with fail
  go_ret
  exact ⟨_, _, _, _, _, _, _, rfl, HLR.out, HH7.out, HU7.out, HFR.out, fun x hx => by
    rcases List.mem_append.mp hx with hx | hx
    · exact List.mem_of_mem_take hx
    · exact List.mem_of_mem_drop hx⟩
end Go.Proofs.YtkdbenoleendcaaGreatDoor
