/- foyerref26: free, find. -/
import Derived.Test.YtkdbenoleendcaaGreatDoorQHMB37

namespace Go.Proofs.YtkdbenoleendcaaGreatDoor
open Go.RowKit Go.IntWalk Go.Maps Go.WideMaps

theorem rfree_no {sp : List SpT} {id : Int} {l : List Int} {i : Nat} (hi : i < l.length) (h : freeOne sp id (ix l i) = false) : rfreeB sp id l = false := by
  cases hh : rfreeB sp id l
  · rfl
  · unfold rfreeB at hh
    rw [List.all_eq_true] at hh
    have := hh _ (ix_mem hi)
    rw [h] at this
    cases this

theorem rfree_yes {sp : List SpT} {id : Int} {l : List Int} (h : ∀ j, j < l.length → freeOne sp id (ix l j) = true) : rfreeB sp id l = true := by
  unfold rfreeB
  rw [List.all_eq_true]
  intro x hx
  obtain ⟨j, hj, e⟩ := List.getElem_of_mem hx
  have := h j hj
  rwa [ix_get hj, e] at this

set_option maxRecDepth 10000 in
set_option maxHeartbeats 1600000 in
theorem rfree_any (w : World) (g : Nat) (oa sa : Option Addr) (oc sc : Nat) (E : List OwnT) (st : St) (l : List Int) (pa : Option Addr) (m mc : Nat) (id : Int) (h : RefC w g oa oc sa sc E st) (hm : m ≤ 4000) (hr : ∀ p ∈ l, 0 ≤ p ∧ p < st.sp.length) (hL : Ints w pa m l) :
    Calls Tryz.prog 30 #[.pointer (some ⟨g, 0, none⟩), .slice pa m mc, .int .i64 id] w fun e w' => e = .returned (.bool (rfreeB st.sp id l)) ∧ Below w.heap.size w w' := by
  have HC := Lib.hid h
  have HL := Lib.hid hL
  have hlen := hL.1
  have HR : Hid (∀ i, i < m → 0 ≤ ix l i ∧ ix l i < st.sp.length) := fun i hi => hr _ (ix_mem (by omega))
  clear h hL hr
  go_enter Tryz.func30, Tryz.ntmps30
  go_wp2_with fail
  go_loopw [7, 8] (fun v7 v8 wr => ∃ i : Nat, v7 = .int .i64 i ∧ i ≤ m ∧ Hid (Below w.heap.size w wr) ∧ Hid (∀ j, j < i → freeOne st.sp id (ix l j) = true)) (fun v7 _ _ => m - (intOf v7).toNat)
  case atStart => exact ⟨0, rfl, Nat.zero_le _, Below.refl _ _, fun j hj => by omega⟩
  case round =>
    obtain ⟨i, rfl, hi, HB, HW⟩ := hrel
    by_cases hlt : i < m
    · have HCr := Lib.hid (HC.out.below HB.out)
      obtain ⟨b, o, rfl, c0⟩ := (HL.out.below HB.out).2 i hlt
      have hx := HR.out i hlt
      have HNO : Hid (freeOne st.sp id (ix l i) = false → rfreeB st.sp id l = false) := fun h => rfree_no (by omega) h
      have HYS : Hid (freeOne st.sp id (ix l i) = true → ∀ j, j < i + 1 → freeOne st.sp id (ix l j) = true) := fun h j hj => by
        by_cases e : j = i
        · rw [e]; exact h
        · exact HW.out j (by omega)
      obtain ⟨q, hq⟩ : ∃ q : Nat, ix l i = q := ⟨(ix l i).toNat, by omega⟩
      rw [hq] at c0 hx HNO HYS
      have hql : q < st.sp.length := by omega
      obtain ⟨b2, o2, rfl, x0, x1⟩ := sp_at2 HCr.out.sps.recs q hql
      have HFO : Hid (freeOne st.sp id (q : Int) = ((spAt st.sp q).1 == 0 || ((spAt st.sp q).1 == 1 && (spAt st.sp q).2 == id))) := by
        show _ = _
        unfold freeOne
        rw [Int.toNat_natCast]
        by_cases h1 : (spAt st.sp q).1 = 0 <;> by_cases h2 : (spAt st.sp q).1 = 1 <;> by_cases h3 : (spAt st.sp q).2 = id <;> simp [h1, h2, h3]
      rw [HFO.out] at HNO HYS
      have g1 := HCr.out.c1
      obtain ⟨ns, hns⟩ : ∃ ns, st.sp.length = ns := ⟨_, rfl⟩
      rw [hns] at g1 hql
      clear hx hq HFO hns
      generalize spAt st.sp q = x at *
      obtain ⟨xa, xb⟩ := x
      dsimp only at x0 x1 HNO HYS
      go_upto_region 4 with fail
      refine wp_region_held_drew (S := fun w' => w'.cell? ⟨g, 1, none⟩ = some (.slice (some ⟨b2, o2, none⟩) ns sc) ∧ w'.cell? ⟨b, o + i, none⟩ = some (.int .i64 (q : Int)) ∧ w'.cell? ⟨b2, o2 + q * 2, none⟩ = some (.int .i64 xa) ∧ w'.cell? ⟨b2, o2 + q * 2 + 1, none⟩ = some (.int .i64 xb)) (by kernel_rfl) ⟨g1, c0, x0, x1⟩ (fun hHeld => ?_)
      refine take_at (i := 0) (v := ?_) 15 rfl rfl (by kernel_rfl) (by kernel_rfl) (by kernel_rfl) (fun _ _ _ h => h) (Or.inl ⟨by rfl, ?_⟩) (by assumption) ?_
      rotate_left
      · intro w hSw; go_simp <;> with_reducible rfl
      try simp only [Act.put, List.setIfInBounds_toArray, List.set_cons_zero, List.set_cons_succ]
      refine take_at (i := 1) (v := ?_) 16 rfl rfl (by kernel_rfl) (by kernel_rfl) (by kernel_rfl) (fun _ _ _ h => h) (Or.inl ⟨by rfl, ?_⟩) (by assumption) ?_
      rotate_left
      · intro w hSw; go_simp <;> with_reducible rfl
      try simp only [Act.put, List.setIfInBounds_toArray, List.set_cons_zero, List.set_cons_succ]
      refine take_at (i := 2) (v := ?_) 17 rfl rfl (by kernel_rfl) (by kernel_rfl) (by kernel_rfl) (fun _ _ _ h => h) (Or.inl ⟨by rfl, ?_⟩) (by assumption) ?_
      rotate_left
      · intro w hSw; go_simp <;> with_reducible rfl
      try simp only [Act.put, List.setIfInBounds_toArray, List.set_cons_zero, List.set_cons_succ]
      refine take_at (i := 3) (v := ?_) 18 rfl rfl (by kernel_rfl) (by kernel_rfl) (by kernel_rfl) (fun _ _ _ h => h) (Or.inl ⟨by rfl, ?_⟩) (by assumption) ?_
      rotate_left
      · intro w hSw; go_simp <;> with_reducible rfl
      try simp only [Act.put, List.setIfInBounds_toArray, List.set_cons_zero, List.set_cons_succ]
      refine take_at (i := 4) (v := ?_) 19 rfl rfl (by kernel_rfl) (by kernel_rfl) (by kernel_rfl) (fun _ _ _ h => h) (Or.inl ⟨by rfl, ?_⟩) (by assumption) ?_
      rotate_left
      · intro w hSw; go_simp <;> with_reducible rfl
      try simp only [Act.put, List.setIfInBounds_toArray, List.set_cons_zero, List.set_cons_succ]
      refine take_at (i := 5) (v := ?_) 20 rfl rfl (by kernel_rfl) (by kernel_rfl) (by kernel_rfl) (fun _ _ _ h => h) (Or.inl ⟨by rfl, ?_⟩) (by assumption) ?_
      rotate_left
      · intro w hSw; go_simp <;> with_reducible rfl
      try simp only [Act.put, List.setIfInBounds_toArray, List.set_cons_zero, List.set_cons_succ]
      refine take_at (i := 6) (v := ?_) 21 rfl rfl (by kernel_rfl) (by kernel_rfl) (by kernel_rfl) (fun _ _ _ h => h) (Or.inl ⟨by rfl, ?_⟩) (by assumption) ?_
      rotate_left
      · intro w hSw; go_simp <;> with_reducible rfl
      try simp only [Act.put, List.setIfInBounds_toArray, List.set_cons_zero, List.set_cons_succ]
      refine take_at (i := 7) (v := ?_) 22 rfl rfl (by kernel_rfl) (by kernel_rfl) (by kernel_rfl) (fun _ _ _ h => h) (Or.inl ⟨by rfl, ?_⟩) (by assumption) ?_
      rotate_left
      · intro w hSw; go_simp <;> with_reducible rfl
      try simp only [Act.put, List.setIfInBounds_toArray, List.set_cons_zero, List.set_cons_succ]
      refine take_at (i := 8) (v := ?_) 23 rfl rfl (by kernel_rfl) (by kernel_rfl) (by kernel_rfl) (fun _ _ _ h => h) (Or.inl ⟨by rfl, ?_⟩) (by assumption) ?_
      rotate_left
      · intro w hSw; go_simp <;> with_reducible rfl
      try simp only [Act.put, List.setIfInBounds_toArray, List.set_cons_zero, List.set_cons_succ]
      refine take_at (i := 9) (v := ?_) 24 rfl rfl (by kernel_rfl) (by kernel_rfl) (by kernel_rfl) (fun _ _ _ h => h) (Or.inl ⟨by rfl, ?_⟩) (by assumption) ?_
      rotate_left
      · intro w hSw; go_simp <;> with_reducible rfl
      try simp only [Act.put, List.setIfInBounds_toArray, List.set_cons_zero, List.set_cons_succ]
      refine wpAnyH_ready (rs := [10]) (by kernel_rfl) (by simp) ?_
      refine AllReadyH.cons rfl (fun K' hK => ?_) AllReadyH.nil
      go_simp
      have HBA : Hid (Below wr.heap.size wr (wr.alloc (.cells #[.int .i64 0, .int .i64 0] 53)).drew) := (Joins.below_alloc1 wr _).drew
      have HXA : Hid ((wr.alloc (.cells #[.int .i64 0, .int .i64 0] 53)).drew.heap[wr.heap.size]? = some (.cells #[.int .i64 0, .int .i64 0] 53 (0, 0))) := World.alloc_heap_new wr _
      generalize (wr.alloc (.cells #[.int .i64 0, .int .i64 0] 53)).drew = wA at *
      obtain ⟨bx, hbx⟩ : ∃ bx, wr.heap.size = bx := ⟨_, rfl⟩
      rw [hbx] at HXA ⊢
      have HKP : Hid (∀ wx, Below wr.heap.size wr wx → wx.cell? ⟨g, 1, none⟩ = some (.slice (some ⟨b2, o2, none⟩) ns sc) ∧ wx.cell? ⟨b, o + i, none⟩ = some (.int .i64 (q : Int)) ∧ wx.cell? ⟨b2, o2 + q * 2, none⟩ = some (.int .i64 xa) ∧ wx.cell? ⟨b2, o2 + q * 2 + 1, none⟩ = some (.int .i64 xb)) := fun wx hb => ⟨Below.cell_of hb g1, Below.cell_of hb c0, Below.cell_of hb x0, Below.cell_of hb x1⟩
      go_simp
      refine hK.out _ _ (HKP.out wA HBA.out) (fun hHeld => ?_)
      clear hK K'
      try simp only [Act.put, List.setIfInBounds_toArray, List.set_cons_zero, List.set_cons_succ]
      have z0 : wA.cell? ⟨bx, 0, none⟩ = some (.int .i64 0) := cell_of_row (j := 0) _ _ _ _ _ HXA.out
      have z1 : wA.cell? ⟨bx, 1, none⟩ = some (.int .i64 0) := cell_of_row (j := 1) _ _ _ _ _ HXA.out
      have f0 : wA.frozen? ⟨bx, 0, none⟩ = false := by simp only [World.frozen?, HXA.out]; simp
      have f1 : wA.frozen? ⟨bx, 1, none⟩ = false := by simp only [World.frozen?, HXA.out]; simp
      have HBX : Hid (BoxS ((wA.setCell ⟨bx, 0, none⟩ (.int .i64 xa)).setCell ⟨bx, 1, none⟩ (.int .i64 xb)) bx (xa, xb)) := by
        show _ = _
        simp [World.setCell, Array.getElem?_modify, HXA.out]
      have HBB : Hid (Below wr.heap.size wr ((wA.setCell ⟨bx, 0, none⟩ (.int .i64 xa)).setCell ⟨bx, 1, none⟩ (.int .i64 xb))) := HBA.out.grown (grown_two wA bx _ _ _ _) HBA.out.size (fun k hk => by cases hk; rw [hbx]; exact Nat.le_refl _)
      refine wpAnyH_ready (rs := [11]) (by kernel_rfl) (by simp) ?_
      refine AllReadyH.cons rfl (fun K' hK => ?_) AllReadyH.nil
      go_simp
      generalize (wA.setCell ⟨bx, 0, none⟩ (.int .i64 xa)).setCell ⟨bx, 1, none⟩ (.int .i64 xb) = wB at *
      go_simp
      refine hK.out _ _ (HKP.out wB HBB.out) (fun hHeld => ?_)
      clear hK K'
      try simp only [Act.put, List.setIfInBounds_toArray, List.set_cons_zero, List.set_cons_succ]
      refine wpAnyH_done (by kernel_rfl) ?_ _
      have HBw : Hid (Below w.heap.size w wB) := HB.out.trans (HBB.out.mono HB.out.size)
      clear hHeld z0 z1 f0 f1 HXA HBA HKP HBB g1 c0 x0 x1 hbx HCr
      have x0 := HBX.out.c0
      have x1 := HBX.out.c1
      dsimp only at x0 x1
      cases hfo : (xa == 0 || (xa == 1 && xb == id))
      · have HS : Hid (rfreeB st.sp id l = false) := HNO.out hfo
        have h0 : (xa == 0) = false := by cases hh : xa == 0 <;> simp_all
        have n0 : (xa != 0) = true := by simp only [bne, h0]; rfl
        cases h1 : xa == 1
        · have n1 : (xa != 1) = true := by simp only [bne, h1]; rfl
          clear hfo HNO HYS
          go_wp2_with fail
          go_ret
          exact ⟨by rw [HS.out]; rfl, HBw.out⟩
        · have h2 : (xb == id) = false := by cases hh : xb == id <;> simp_all
          have n1 : (xa != 1) = false := by simp only [bne, h1]; rfl
          have n2 : (xb != id) = true := by simp only [bne, h2]; rfl
          clear hfo HNO HYS
          go_wp2_with fail
          go_ret
          exact ⟨by rw [HS.out]; rfl, HBw.out⟩
      · have HS := Lib.hid (HYS.out hfo)
        cases h0 : xa == 0
        · have h1 : (xa == 1) = true := by cases hh : xa == 1 <;> simp_all
          have h2 : (xb == id) = true := by cases hh : xb == id <;> simp_all
          have n0 : (xa != 0) = true := by simp only [bne, h0]; rfl
          have n1 : (xa != 1) = false := by simp only [bne, h1]; rfl
          have n2 : (xb != id) = false := by simp only [bne, h2]; rfl
          clear hfo HNO HYS
          go_wp2_with fail
          exact ⟨⟨i + 1, by go_num, hlt, HBw.out, HS.out⟩, by simp [intOf]; omega⟩
        · have n0 : (xa != 0) = false := by simp only [bne, h0]; rfl
          clear hfo HNO HYS
          go_wp2_with fail
          exact ⟨⟨i + 1, by go_num, hlt, HBw.out, HS.out⟩, by simp [intOf]; omega⟩
    · have hi' : i = m := by omega
      subst hi'
      have HS : Hid (rfreeB st.sp id l = true) := rfree_yes (fun j hj => HW.out j (by omega))
      go_wp2_with fail
      go_ret
      exact ⟨by rw [HS.out]; rfl, HB.out⟩

/-- Where an open hold is in the list. -/
def FindPost (st : St) (id : Int) (w : World) (e : Ending) (w' : World) : Prop :=
  w = w' ∧ ((findH st.op id = none ∧ e = .returned (.int .i64 (-1))) ∨ ∃ (i : Nat) (h : i < st.op.length), (st.op[i]).1 = id ∧ e = .returned (.int .i64 i))

set_option maxRecDepth 10000 in
theorem find_any (w : World) (g : Nat) (oa sa : Option Addr) (oc sc : Nat) (E : List OwnT) (st : St) (id : Int) (h : RefC w g oa oc sa sc E st) (hn : st.op.length ≤ 4000) :
    Calls Tryz.prog 32 #[.pointer (some ⟨g, 0, none⟩), .int .i64 id] w (FindPost st id w) := by
  have HC := Lib.hid h
  have g0 := h.c0
  obtain ⟨m, hm⟩ : ∃ m, st.op.length = m := ⟨_, rfl⟩
  have HMM := Lib.hid hm
  rw [hm] at g0 hn
  clear h hm
  go_enter Tryz.func32, Tryz.ntmps32
  go_wp2_with fail
  go_loopw [5] (fun v5 wr => ∃ i : Nat, v5 = .int .i64 i ∧ i ≤ m ∧ w = wr ∧ Hid (∀ j (hj : j < st.op.length), j < i → (st.op[j]).1 ≠ id)) (fun v5 _ => m - (intOf v5).toNat)
  case atStart => exact ⟨0, rfl, Nat.zero_le _, rfl, fun j _ hj => by omega⟩
  case round =>
    obtain ⟨i, rfl, hi, rfl, HW⟩ := hrel
    by_cases hlt : i < m
    · have hio : i < st.op.length := by rw [HMM.out]; exact hlt
      have hiE : i < E.length := by rw [HC.out.elen]; exact hio
      have hx : E[i].1 = st.op[i] := map_at HC.out.ops hiE (List.getElem?_eq_getElem hio)
      obtain ⟨b, o, rfl, c0, hjunk⟩ := own_at HC.out.opn.recs i hiE hiE
      clear hjunk
      rw [hx] at c0
      have HY : Hid ((st.op[i]).1 = id → FindPost st id w (.returned (.int .i64 (i : Int))) w) := fun e => ⟨rfl, Or.inr ⟨i, hio, e, rfl⟩⟩
      have HN : Hid ((st.op[i]).1 ≠ id → ∀ j (hj : j < st.op.length), j < i + 1 → (st.op[j]).1 ≠ id) := fun e j hj hji => by
        by_cases ej : j = i
        · subst ej; exact e
        · exact HW.out j hj (by omega)
      clear hx
      generalize (st.op[i]).1 = y at *
      clear hio hiE
      by_cases hy : y = id
      · have hb : (y == id) = true := by simp [hy]
        have HP := Lib.hid (HY.out hy)
        clear hy HY HN
        go_wp2_with fail
        go_ret
        exact HP.out
      · have hb : (y == id) = false := by simp [hy]
        have HP := Lib.hid (HN.out hy)
        clear hy HY HN
        go_wp2_with fail
        exact ⟨⟨i + 1, by go_num, hlt, trivial, HP.out⟩, by simp [intOf]; omega⟩
    · have hi' : i = m := by omega
      subst hi'
      have HF : Hid (findH st.op id = none) := by
        show _ = _
        unfold findH
        rw [List.find?_eq_none]
        intro x hx
        obtain ⟨j, hj, rfl⟩ := List.getElem_of_mem hx
        have := HW.out j hj (by rw [← HMM.out]; exact hj)
        simpa using this
      go_wp2_with fail
      go_ret
      exact ⟨rfl, Or.inl ⟨HF.out, rfl⟩⟩
end Go.Proofs.YtkdbenoleendcaaGreatDoor
