/- hold: HoldTime, the walk. -/
import Derived.Test.YtkdbenoleendcaaDoorQC
import Derived.Test.YtkdbenoleendcaaDoorHY
namespace Go.Proofs.YtkdbenoleendcaaDoor
open Go.RowKit Go.IntWalk Go.Maps Go.WideMaps

theorem filter_take {α : Type} (l : List α) (p : α → Bool) (i : Nat) (h : i < l.length) : (l.take (i + 1)).filter p = (l.take i).filter p ++ (if p l[i] then [l[i]] else []) := by
  rw [List.take_succ_eq_append_getElem h, List.filter_append]
  congr 1
  by_cases hp : p l[i] = true
  · simp [hp]
  · simp [hp]

theorem filter_at {α : Type} (l : List α) (p : α → Bool) (i : Nat) (h : i < l.length) (hp : p l[i] = true) : (l.filter p)[((l.take i).filter p).length]? = some l[i] := by
  have h1 : l.filter p = ((l.take (i + 1)).filter p) ++ (l.drop (i + 1)).filter p := by rw [← List.filter_append, List.take_append_drop]
  rw [h1, filter_take l p i h, if_pos hp, List.append_assoc, List.getElem?_append_right (Nat.le_refl _)]
  simp

theorem filter_lt {α : Type} (l : List α) (p : α → Bool) (i : Nat) (h : i < l.length) (hp : p l[i] = true) : ((l.take i).filter p).length < (l.filter p).length := by
  have := filter_at l p i h hp
  rcases Nat.lt_or_ge ((l.take i).filter p).length (l.filter p).length with h1 | h1
  · exact h1
  · rw [List.getElem?_eq_none h1] at this
    cases this

theorem filter_le {α : Type} (l : List α) (p : α → Bool) (i : Nat) : ((l.take i).filter p).length ≤ (l.filter p).length := by
  have h1 : l.filter p = ((l.take i).filter p) ++ (l.drop i).filter p := by rw [← List.filter_append, List.take_append_drop]
  rw [h1, List.length_append]
  omega

/-- How many of the first i are over. -/
def nOver (op : List HoldT) (m : Int) (i : Nat) : Nat := ((op.take i).filter fun h => decide (h.2.2.2.1 < m)).length
def nStay (op : List HoldT) (m : Int) (i : Nat) : Nat := ((op.take i).filter fun h => !decide (h.2.2.2.1 < m)).length

theorem over_at {op : List HoldT} {m : Int} {i : Nat} (h : i < op.length) (hp : (op[i]).2.2.2.1 < m) : nOver op m i < (overS op m).length ∧ ix (overS op m) (nOver op m i) = (op[i]).1 ∧ nOver op m (i + 1) = nOver op m i + 1 ∧ nStay op m (i + 1) = nStay op m i := by
  have hd : (fun h : HoldT => decide (h.2.2.2.1 < m)) op[i] = true := by simpa using hp
  have h1 := filter_lt op (fun h => decide (h.2.2.2.1 < m)) i h hd
  have h2 := filter_at op (fun h => decide (h.2.2.2.1 < m)) i h hd
  have hl : (overS op m).length = (op.filter fun h => decide (h.2.2.2.1 < m)).length := by unfold overS; rw [List.length_map]
  refine ⟨by rw [hl]; exact h1, ?_, ?_, ?_⟩
  · unfold ix overS
    rw [List.getD_eq_getElem?_getD, List.getElem?_map]
    unfold nOver
    rw [h2]
    rfl
  · unfold nOver
    rw [filter_take op _ i h, if_pos hd, List.length_append]
    rfl
  · unfold nStay
    rw [filter_take op _ i h, if_neg (by simp [hp]), List.append_nil]

theorem stay_at {op : List HoldT} {m : Int} {i : Nat} (h : i < op.length) (hp : ¬ (op[i]).2.2.2.1 < m) : (op.filter fun h => !decide (h.2.2.2.1 < m))[nStay op m i]? = some op[i] ∧ nStay op m (i + 1) = nStay op m i + 1 ∧ nOver op m (i + 1) = nOver op m i := by
  have hd : (fun h : HoldT => !decide (h.2.2.2.1 < m)) op[i] = true := by simpa using hp
  refine ⟨filter_at op _ i h hd, ?_, ?_⟩
  · unfold nStay
    rw [filter_take op _ i h, if_pos hd, List.length_append]
    rfl
  · unfold nOver
    rw [filter_take op _ i h, if_neg (by simpa using hp), List.append_nil]

theorem over_end (op : List HoldT) (m : Int) : nOver op m op.length = (overS op m).length ∧ nStay op m op.length = (op.filter fun h => !decide (h.2.2.2.1 < m)).length := by
  unfold nOver nStay overS
  rw [List.take_length, List.length_map]
  exact ⟨rfl, rfl⟩

/-- One of a list's holds, as a slice of one. -/
theorem one_of {w : World} {la : Option Addr} {n : Nat} {E : List OwnT} (h : Recs OwnE w la n E) (hp : ∀ x ∈ E, PlIn w x) (i : Nat) (hi : i < n) (hiE : i < E.length) : ∃ b o, la = some ⟨b, o, none⟩ ∧ Recs OwnE w (some ⟨b, o + i * 6, none⟩) 1 [E[i]] ∧ ∀ x ∈ [E[i]], PlIn w x := by
  obtain ⟨b, o, e, _⟩ := h.2 i hi
  refine ⟨b, o, e, ⟨rfl, fun j hj => ⟨b, o + i * 6, rfl, fun k hk => ?_⟩⟩, fun x hx => ?_⟩
  · obtain ⟨b', o', e', c⟩ := h.2 i hi
    rw [e] at e'
    cases e'
    have h0 : j = 0 := by omega
    subst h0
    have := c k hk
    rw [rc_eq _ _ (by simp)]
    rw [rc_eq _ _ hiE] at this
    simpa using this
  · rw [List.mem_singleton.mp hx]
    exact hp _ (List.getElem_mem hiE)

theorem Hd.other {w wx w' : World} {g M sb g2 M2 sb2 : Nat} {st st2 : St} (h : Hd w wx g M sb st) (k : HS wx g2 M2 sb2 st2) (hu : Upd (Own3 g2 M2 sb2) wx w') (hd : ∀ i, Own3 g M sb i → ¬ Own3 g2 M2 sb2 i) (ho : ∀ i, Own3 g2 M2 sb2 i → w.heap.size ≤ i) : Hd w w' g M sb st :=
  ⟨Upd.below h.below hu ho, h.hs.other k hu hd, h.own⟩

set_option maxRecDepth 100000 in
set_option maxHeartbeats 6400000 in
theorem time_any (p : Nat) (hp : p ≤ 255) (ra : Option Addr) (n c B : Nat) (rs : List OpR) (a b : Int) (w : World) (h : Recs OpE w ra n rs) (ho : OpsIn w B rs) (hn : n ≤ 9223372036854775807) :
    Calls Tryd.prog 5 #[.int .u8 p, .slice ra n c, .int .i64 a, .int .i64 b] w fun e w' => e = .returned (.bool true) ∧ Below w.heap.size w w' := by
  have HM := Lib.hid h
  have HO := Lib.hid ho
  clear h ho
  go_enter Tryd.func5, Tryd.ntmps5
  go_wp2_with fail
  refine (head_any w).mono ?_
  rintro e w1 ⟨rfl, hb1⟩
  have HB1 := Lib.hid hb1
  clear hb1
  go_wp2_with fail
  refine (few_any ra n c B rs w1 (HM.out.below HB1.out) (HO.out.below HB1.out) hn).mono ?_
  rintro e w' ⟨rfl, rfl⟩
  cases hf : fewB (rs.map (·.1))
  · go_wp2_with fail
    go_ret
    exact ⟨rfl, HB1.out⟩
  have HF := Lib.hid hf
  clear hf
  go_wp2_with fail
  refine (played_any p hp ra n c B rs w1 (HM.out.below HB1.out) (HO.out.below HB1.out) HF.out).mono ?_
  rintro e w2 ⟨g, M, sb, rfl, hb2, hh2, ho2⟩
  have HD2 : Hid (Hd w1 w2 g M sb (playN p (rs.map (·.1)))) := ⟨hb2, hh2, ho2⟩
  have hlast : (playN p (rs.map (·.1))).last ≤ 40 := by
    have h1 := playN_last p (rs.map (·.1))
    have h2 := (fewB_iff.mp HF.out).2
    omega
  have hspl : (playN p (rs.map (·.1))).sp.length ≤ 20 := by rw [playN_len]; omega
  have HI := Lib.hid (playN_inv p (rs.map (·.1)))
  have hol := inv_len HI.out
  obtain ⟨st, hst⟩ : ∃ st, st = playN p (rs.map (·.1)) := ⟨_, rfl⟩
  have HST := Lib.hid hst
  rw [← hst] at HD2 hlast hspl HI hol
  clear hb2 hh2 ho2 hst
  go_wp2_with fail
  refine (hs_list HD2.out.hs (by omega)).mono ?_
  rintro e w3 ⟨vw, rfl, hb3, _, hr3⟩
  have HD3 := Lib.hid (HD2.out.next hb3)
  have RW3 := Lib.hid hr3
  clear hb3 hr3 HD2
  go_wp2_with fail
  refine (hs_expire HD3.out.hs (by omega) (max a b)).mono ?_
  rintro e w4 ⟨vg, rfl, hg4, hh4, hu4⟩
  have HD4 := Lib.hid (HD3.out.step hh4 hu4)
  have RW4 := Lib.hid (RW3.out.keep HD3.out.hs hu4)
  have RG4 := Lib.hid hg4
  clear hg4 hh4 hu4 HD3 RW3
  go_wp2_with fail
  refine (hs_list HD4.out.hs (by rw [expire_last HI.out]; omega)).mono ?_
  rintro e w5 ⟨vn, rfl, hb5, _, hr5⟩
  have HD5 := Lib.hid (HD4.out.next hb5)
  have RW5 := RW4.out.below hb5
  have RG5 := RG4.out.below hb5
  have RN5 := hr5
  clear hb5 hr5 HD4 RW4 RG4
  have hI2 := expire_inv HI.out (max a b)
  have hop2 := expire_op HI.out (max a b)
  rw [hop2] at RN5
  obtain ⟨E, la, lc, rfl, hE, hr, hpl, hcap⟩ := RW5.recs (inv_pl HI.out)
  obtain ⟨E2, lb, lc2, rfl, hE2, hr2, hpl2, hcap2⟩ := RN5.recs (by rw [← hop2]; exact inv_pl hI2)
  obtain ⟨ga, gc, rfl, hgi⟩ := RG5.ints
  have hEl : E.length = st.op.length := by rw [← hE, List.length_map]
  have hE2l : E2.length = (st.op.filter fun h => !decide (h.2.2.2.1 < max a b)).length := by rw [← hE2, List.length_map]
  have hGl : (expireS st (max a b)).1.length = (overS st.op (max a b)).length := rfl
  have hfl : (st.op.filter fun h => !decide (h.2.2.2.1 < max a b)).length ≤ st.op.length := List.length_filter_le _ _
  have hov : (overS st.op (max a b)).length ≤ st.op.length := by unfold overS; rw [List.length_map]; exact List.length_filter_le _ _
  obtain ⟨nE, hnE⟩ : ∃ nE, E.length = nE := ⟨_, rfl⟩
  obtain ⟨nN, hnN⟩ : ∃ nN, E2.length = nN := ⟨_, rfl⟩
  obtain ⟨nG, hnG⟩ : ∃ nG, (expireS st (max a b)).1.length = nG := ⟨_, rfl⟩
  rw [hnE] at hr hcap hEl ⊢
  rw [hnN] at hr2 hcap2 hE2l ⊢
  rw [hnG] at hgi hGl ⊢
  have hnb : nE ≤ 40 ∧ nN ≤ 40 ∧ nG ≤ 40 := by omega
  have HR := Lib.hid hr
  have HR2 := Lib.hid hr2
  have HPL := Lib.hid hpl
  have HPL2 := Lib.hid hpl2
  have HG := Lib.hid hgi
  have HEQ := Lib.hid hE
  have HEQ2 := Lib.hid hE2
  have HEL := Lib.hid hEl
  have HE2L := Lib.hid hE2l
  have HGL := Lib.hid hGl
  have HNE := Lib.hid hnE
  have HNN := Lib.hid hnN
  clear hr hr2 hpl hpl2 hgi hE hE2 hEl hE2l hGl hfl hov hnE hnN hnG hI2 hop2 RW5 RG5 RN5 hol
  obtain ⟨hnE, hnN, hnG⟩ := hnb
  go_wp2_with fail
  go_loopw [14, 15, 16] (fun v14 v15 v16 wr => ∃ i : Nat, v16 = .int .i64 i ∧ v14 = .int .i64 (nOver st.op (max a b) i) ∧ v15 = .int .i64 (nStay st.op (max a b) i) ∧ i ≤ nE ∧ Hid (Below w5.heap.size w5 wr)) (fun _ _ v16 _ => nE - (intOf v16).toNat)
  case atStart => exact ⟨0, rfl, rfl, rfl, Nat.zero_le _, Below.refl _ _⟩
  case round =>
    obtain ⟨i, rfl, rfl, rfl, hi, HB⟩ := hrel
    by_cases hlt : i < nE
    · have hiE : i < E.length := by rw [HNE.out]; exact hlt
      have hio : i < st.op.length := by rw [← HEL.out]; exact hlt
      have hx : E[i].1 = st.op[i] := by
        have : (E.map (·.1))[i]? = some st.op[i] := by rw [HEQ.out]; exact List.getElem?_eq_getElem hio
        rw [List.getElem?_map, List.getElem?_eq_getElem hiE] at this
        simpa using this
      obtain ⟨b1, o1, rfl, c0, c1, c2, c3, c4, c5⟩ := own_at (HR.out.below HB.out) i hlt hiE
      by_cases hu : (st.op[i]).2.2.2.1 < max a b
      · obtain ⟨h1, h2, h3, h4⟩ := over_at hio hu
        have HN3 := Lib.hid h3
        have HN4 := Lib.hid h4
        rw [← HGL.out] at h1
        obtain ⟨b2, o2, rfl, d0⟩ := (HG.out.below HB.out).2 _ h1
        have h2' : ix (expireS st (max a b)).1 (nOver st.op (max a b) i) = E[i].1.1 := by rw [hx]; exact h2
        rw [h2'] at d0
        rw [← hx] at hu
        clear h2 h2' h3 h4 c1 c2 c3 c5 hx
        generalize E[i] = x at *
        clear hiE hio
        generalize nOver st.op (max a b) i = k at *
        generalize nStay st.op (max a b) i = m at *
        obtain ⟨⟨x1, x2, xL, x4, x5⟩, xa, xc⟩ := x
        dsimp only at c0 c4 d0 hu
        have hd : decide (nG ≤ k) = false := by simp; omega
        go_upto_region 14 with fail
        go_quiet (fail)
        go_wp2_with fail
        go_roundw
        case rel => exact ⟨i + 1, by go_num, by rw [HN3.out]; go_num, by rw [HN4.out], hlt, below_drewN HB.out nq⟩
        case measure => simp [intOf]; omega
      · obtain ⟨h1, h2, h3⟩ := stay_at hio hu
        have HN3 := Lib.hid h2
        have HN4 := Lib.hid h3
        have hmN : nStay st.op (max a b) i < nN := by
          rw [HE2L.out]
          rcases Nat.lt_or_ge (nStay st.op (max a b) i) (st.op.filter fun h => !decide (h.2.2.2.1 < max a b)).length with hh | hh
          · exact hh
          · rw [List.getElem?_eq_none hh] at h1; cases h1
        have hm2 : nStay st.op (max a b) i < E2.length := by rw [HNN.out]; exact hmN
        have hy : E2[nStay st.op (max a b) i].1 = st.op[i] := by
          rw [← HEQ2.out, List.getElem?_map, List.getElem?_eq_getElem hm2] at h1
          simpa using h1
        have hxy : E[i].1 = E2[nStay st.op (max a b) i].1 := hx.trans hy.symm
        obtain ⟨b2, o2, e2, hs1, hp1⟩ := one_of (HR.out.below HB.out) (fun x hx => (HPL.out x hx).below HB.out) i hlt hiE
        cases e2
        obtain ⟨b3, o3, rfl, hs2, hp2⟩ := one_of (HR2.out.below HB.out) (fun x hx => (HPL2.out x hx).below HB.out) _ hmN hm2
        have HC : Hid (∀ wx, Below wr.heap.size wr wx → Calls Tryd.prog 16 #[.slice (some ⟨b1, o1 + i * 6, none⟩) 1 (lc - i), .slice (some ⟨b3, o3 + nStay st.op (max a b) i * 6, none⟩) 1 (lc2 - nStay st.op (max a b) i)] wx fun e w' => e = .returned (.bool true) ∧ Below wr.heap.size wr w') := fun wx hx => by
          refine (sameholds_any _ _ 1 _ 1 _ [E[i]] [E2[nStay st.op (max a b) i]] wx (hs1.below hx) (hs2.below hx) (fun x hm => (hp1 x hm).below hx) (fun x hm => (hp2 x hm).below hx) (by omega) (by omega)).mono ?_
          rintro e w' ⟨rfl, hb⟩
          exact ⟨by simp [hxy], hx.trans (hb.mono hx.size)⟩
        rw [← hx] at hu
        clear h1 h2 h3 hx hy hxy hs1 hs2 hp1 hp2 c0 c1 c2 c3 c5
        generalize E[i] = x at *
        generalize nOver st.op (max a b) i = k at *
        generalize nStay st.op (max a b) i = m at *
        clear hiE hio hm2
        obtain ⟨⟨x1, x2, xL, x4, x5⟩, xa, xc⟩ := x
        dsimp only at c4 hu
        have hd : decide (nN ≤ m) = false := by simp; omega
        go_upto_region 17 with fail
        refine wp_region_after (w0 := wr) (B := wr.heap.size) (by kernel_rfl) (by kernel_rfl) (Below.refl _ _) ?_
        repeat (go_big_quiet_step (exact Calls.after_of (HC.out _ (After.below _))))
        refine wpQuiet_nil ?_
        rintro _ ⟨xw, rfl⟩
        go_wp2_with fail
        go_roundw
        case rel => exact ⟨i + 1, by go_num, by rw [HN4.out], by rw [HN3.out]; go_num, hlt, HB.out.trans (xw.below.mono HB.out.size)⟩
        case measure => simp [intOf]; omega
    · have hi' : i = nE := by omega
      subst hi'
      have he := over_end st.op (max a b)
      rw [← HEL.out, ← HGL.out, ← HE2L.out] at he
      rw [he.1, he.2]
      clear he
      have HD : Hid (Hd w1 wr g M sb (expireS st (max a b)).2) := HD5.out.next HB.out
      obtain ⟨wo, rfl⟩ : ∃ wo : World, wo = wr := ⟨_, rfl⟩
      go_wp2_with fail
      refine (played_any p hp ra n c B rs wo (HM.out.below (HB1.out.trans (HD.out.below.mono HB1.out.size))) (HO.out.below (HB1.out.trans (HD.out.below.mono HB1.out.size))) HF.out).mono ?_
      rintro e w6 ⟨g2, M2, sb2, rfl, hb6, hh6, ho6⟩
      rw [← HST.out] at hh6
      have K6 : Hid (Hd wo w6 g2 M2 sb2 st) := ⟨hb6, hh6, ho6⟩
      have D6 := Lib.hid (HD.out.next hb6)
      have HAP : Hid (∀ i, Own3 g M sb i → ¬ Own3 g2 M2 sb2 i) := fun i hi hi2 => by
        have := HD.out.hs.lt hi
        have := ho6 i hi2
        omega
      clear hb6 hh6 ho6
      go_wp2_with fail
      refine (hs_expire K6.out.hs (by omega) (min a b)).mono ?_
      rintro e w7 ⟨v7, rfl, _, hh, hu⟩
      have K7 := Lib.hid (K6.out.step hh hu)
      have HOW : Hid (∀ i, Own3 g2 M2 sb2 i → w1.heap.size ≤ i) := fun i hi => Nat.le_trans HD.out.below.size (K6.out.own i hi)
      have D7 := Lib.hid (D6.out.other K6.out.hs hu HAP.out HOW.out)
      clear hh hu K6 D6
      go_wp2_with fail
      refine (hs_expire K7.out.hs (by rw [expire_last HI.out]; omega) (max a b)).mono ?_
      rintro e w8 ⟨v8, rfl, _, hh, hu⟩
      rw [expire_two HI.out (by omega)] at hh
      have K8 := Lib.hid (K7.out.step hh hu)
      have D8 := Lib.hid (D7.out.other K7.out.hs hu HAP.out HOW.out)
      clear hh hu K7 D7
      go_wp2_with fail
      refine (same_any w8 g M sb g2 M2 sb2 _ _ D8.out.hs K8.out.hs (by rw [expire_last HI.out]; omega) (by rw [expire_last HI.out]; omega) (by rw [expire_len HI.out]; omega) (by rw [expire_len HI.out]; omega)).mono ?_
      rintro e w9 ⟨rfl, hb9⟩
      have HB9 : Hid (Below w.heap.size w w9) := HB1.out.trans ((D8.out.below.trans (hb9.mono D8.out.below.size)).mono HB1.out.size)
      clear hb9
      go_wp2_with fail
      go_ret
      exact ⟨by simp, HB9.out⟩
end Go.Proofs.YtkdbenoleendcaaDoor
