/- ledger: the fourth check of Book: the walk. -/
import Derived.RegionTactic
import Derived.BigRegion
import Derived.Test.YtafhdpalobalkaaL7
namespace Go.Proofs.Ytafhdpalobalkaa
open Go.RowKit Go.IntWalk Go.Maps Go.ChangeMaps

/-- A list of records of at least two cells is as it was behind a step that changes one box of one cell alone. -/
theorem Recs.far {α : Type} {k : Nat} {E : Enc α k} {w w' : World} {ra : Option Addr} {n g : Nat} {xs : List α} {u : Value} {T : TypeId} (hk : 2 ≤ k) (h : Recs E w ra n xs) (hb : w.heap[g]? = some (.cells #[u] T (0, 0))) (hg : w.grownBy w' (some g)) : Recs E w' ra n xs := by
  refine ⟨h.1, fun i hi => ?_⟩
  obtain ⟨b, o, e, c⟩ := h.2 i hi
  refine ⟨b, o, e, fun j hj => ?_⟩
  have hne : b ≠ g := by
    rintro rfl
    have h1 := c 1 (by omega)
    rw [cell_of_row _ _ _ _ _ _ hb] at h1
    have : (#[u] : Array Value)[o + i * k + 1]? = Option.none := Array.getElem?_eq_none (by show 1 ≤ _; omega)
    rw [this] at h1
    simp at h1
  have hl := cell_lt (c j hj)
  rw [← c j hj]
  simp only [World.cell?, hg.block b hl (by simp; omega)]

theorem box_cell {w : World} {g : Nat} {u : Value} {T : TypeId} (h : w.heap[g]? = some (.cells #[u] T (0, 0))) : w.cell? ⟨g, 0, none⟩ = some u := by rw [cell_of_row _ _ _ _ _ _ h]; rfl
theorem box_free {w : World} {g : Nat} {u : Value} {T : TypeId} (h : w.heap[g]? = some (.cells #[u] T (0, 0))) : w.frozen? ⟨g, 0, none⟩ = false := by simp only [World.frozen?, h]; simp

/-- The balances behind the first i postings. -/
def sumF (f : AccT → Int) (l : List PostT) : Nat → AccT → Int
  | 0 => f
  | i + 1 => plusF (sumF f l i) ((pk l i, pn l i), pa l i)

theorem sumF_le {f : AccT → Int} {l : List PostT} (hf : ∀ a, -1000000000000 ≤ f a ∧ f a ≤ 1000000000000) (hl : ∀ i, i < l.length → -1000000000 ≤ pa l i ∧ pa l i ≤ 1000000000) : ∀ i, i ≤ l.length → ∀ a, -1000000000000 - 1000000000 * (i : Int) ≤ sumF f l i a ∧ sumF f l i a ≤ 1000000000000 + 1000000000 * (i : Int) := by
  intro i
  induction i with
  | zero => intro _ a; have := hf a; show _ ≤ f a ∧ f a ≤ _; omega
  | succ i ih =>
    intro h a
    have h1 := ih (by omega) a
    have h2 := hl i (by omega)
    show _ ≤ plusF _ _ _ ∧ plusF _ _ _ ≤ _
    unfold plusF
    dsimp only
    split <;> omega

/-- A balance that is too great. -/
def farB (g : AccT → Int) (p : PostT) : Bool := decide (1000000000000 < g p.1) || decide (g p.1 < -1000000000000)

/-- The postings of a booking that is well-formed. -/
structure PostsOk (l : List PostT) : Prop where
  len : l.length ≤ 20
  amt : ∀ i, i < l.length → -1000000000 ≤ pa l i ∧ pa l i ≤ 1000000000
  wf : ∀ i, i < l.length → WfA (pk l i, pn l i)

theorem BalM.block {w : World} {M N : Nat} {f : AccT → Int} (h : BalM w M N f) : ∃ o, w.heap[M]? = some o := let ⟨_, ⟨_, _, hb, _⟩, _⟩ := h; ⟨_, hb⟩

theorem wf_int {x : Int} (h1 : -9223372036854775808 ≤ x) (h2 : x ≤ 9223372036854775807) : (Lit.int .i64 x).wf = true := WalkArith.wf_i64 ⟨h1, h2⟩

/-- The error of the fourth check. -/
def rangeS (f : AccT → Int) (l : List PostT) : Int := if l.any (farB (sumF f l l.length)) = true then 2 else 0

theorem range_yes {f F : AccT → Int} {l : List PostT} (h : sumF f l l.length = F) (h2 : l.any (farB F) = true) : rangeS f l = 2 := by unfold rangeS; rw [h, if_pos h2]
theorem range_no {f F : AccT → Int} {l : List PostT} (h : sumF f l l.length = F) (h2 : l.any (farB F) = false) : rangeS f l = 0 := by unfold rangeS; rw [h, h2]; rfl

set_option maxRecDepth 10000 in
set_option maxHeartbeats 1600000 in
theorem book4_any (lb nb bb g M N : Nat) (id : Int) (ra : Option Addr) (n c : Nat) (l : List PostT) (f : AccT → Int) (v0 : Value) (w : World) (hN : N ≤ 1000000) (hlb : w.heap[lb]? = some (.cells #[.pointer (some ⟨g, 0, none⟩)] 26 (0, 0)))
    (hnb : w.heap[nb]? = some (.cells #[v0] 52 (0, 0))) (hbb : w.heap[bb]? = some (.cells #[.int .i64 id, .slice ra n c] 34 (0, 0))) (hg : w.cell? ⟨g, 1, none⟩ = some (.map (some M)))
    (hB : BalM w M N f) (hf : ∀ a, -1000000000000 ≤ f a ∧ f a ≤ 1000000000000) (hP : Posts w ra n l) (hok : PostsOk l) :
    Calls Try.prog 33 #[.pointer (some ⟨lb, 0, none⟩), .pointer (some ⟨nb, 0, none⟩), .pointer (some ⟨bb, 0, none⟩)] w fun e w' => e = .returned (.int .i64 (rangeS f l)) ∧ w.grownBy w' (some nb) ∧
      ∃ M', w'.heap[nb]? = some (.cells #[.map (some M')] 52 (0, 0)) ∧ w.heap.size ≤ M' ∧ BalM w' M' (N + l.length) (sumF f l l.length) := by
  have HP := Lib.hid hP
  have HOK := Lib.hid hok
  have HNB := Lib.hid hnb
  have HBB := Lib.hid hbb
  have HM := Lib.hid hB
  have HF := Lib.hid (sumF_le hf hok.amt)
  have hlen := hP.1
  have hn20 := hok.len
  have x0 := box_cell hlb
  have hnbl := lt_of_block hnb
  have hnbb : bb ≠ nb := by rintro rfl; rw [hbb] at hnb; simp at hnb
  clear hlb hnb hbb hB hP hok hf
  go_enter Try.func33, Try.ntmps33
  go_wp2_with fail
  refine (clone_map M N f w HM.out).mono ?_
  rintro e w1 ⟨M', rfl, hM', hb1, hB1⟩
  have hne : M' ≠ nb := by omega
  have HNB1 : Hid (w1.heap[nb]? = some (.cells #[v0] 52 (0, 0))) := (hb1.block nb hnbl).trans HNB.out
  have f0 := box_free HNB1.out
  have y0 := box_cell HNB1.out
  have HG1 : Hid (w.grownBy (w1.setCell ⟨nb, 0, none⟩ (.map (some M'))) (some nb)) := (grown_below hb1 _).trans (grown_setCell w1 nb 0 _)
  have HN1 : Hid ((w1.setCell ⟨nb, 0, none⟩ (.map (some M'))).heap[nb]? = some (.cells #[.map (some M')] 52 (0, 0))) := by
    show _ = _
    simp [World.setCell, Array.getElem?_modify, HNB1.out]
  have HM1 : Hid (BalM (w1.setCell ⟨nb, 0, none⟩ (.map (some M'))) M' N f) := hB1.of_heap (Below.heap_setCell _ _ _ _ hne)
  clear hb1 hB1 x0 hg
  go_upto_region 2 with fail
  generalize w1.setCell ⟨nb, 0, none⟩ (.map (some M')) = w2 at *
  clear f0 y0 HNB1
  have hbbl : bb < w.heap.size := lt_of_block HBB.out
  have HB2 : Hid (w2.heap[bb]? = some (.cells #[.int .i64 id, .slice ra n c] 34 (0, 0))) := (HG1.out.block bb hbbl (by simp; exact hnbb)).trans HBB.out
  have z1 : w2.cell? ⟨bb, 1, none⟩ = some (.slice ra n c) := by rw [cell_of_row _ _ _ _ _ _ HB2.out]; rfl
  go_wp2_with fail
  go_loopw [17] (fun v17 wr => ∃ i : Nat, v17 = .int .i64 i ∧ i ≤ n ∧ Hid (w.grownBy wr (some nb)) ∧ Hid (wr.heap[nb]? = some (.cells #[.map (some M')] 52 (0, 0))) ∧ Hid (BalM wr M' (N + i) (sumF f l i))) (fun v17 _ => n - (intOf v17).toNat)
  case atStart => exact ⟨0, rfl, Nat.zero_le _, HG1, HN1, HM1⟩
  case round =>
    clear z1 HG1 HN1 HM1 HB2
    obtain ⟨i, rfl, hi, HG, HNR, HMR⟩ := hrel
    by_cases hlt : i < n
    · obtain ⟨b, o, rfl, c0, c1, c2⟩ := Posts.at (HP.out.far (by decide) HNB.out HG.out) i hlt
      have hwf := HOK.out.wf i (by omega)
      have hamt := HOK.out.amt i (by omega)
      have hle := HF.out i (by omega) (pk l i, pn l i)
      go_upto_region 5 with fail
      have hba := Joins.below_alloc1 wr (.cells #[.int .i64 (pk l i), .string (bs (pn l i)), .int .i64 (pa l i)] 44)
      have HG3 := Lib.hid (HG.out.trans (grown_below hba (some nb)))
      have HN3 : Hid ((wr.alloc (.cells #[.int .i64 (pk l i), .string (bs (pn l i)), .int .i64 (pa l i)] 44)).heap[nb]? = some (.cells #[.map (some M')] 52 (0, 0))) := (hba.block nb (lt_of_block HNR.out)).trans HNR.out
      have HM3 := Lib.hid (HMR.out.below hba)
      have HY : Hid (Boxed3 (wr.alloc (.cells #[.int .i64 (pk l i), .string (bs (pn l i)), .int .i64 (pa l i)] 44)) wr.heap.size (.int .i64 (pk l i)) (.string (bs (pn l i))) (.int .i64 (pa l i)) 44) := World.alloc_heap_new wr _
      have hMl := HMR.out.lt
      obtain ⟨b5, hb5⟩ : ∃ b5, wr.heap.size = b5 := ⟨_, rfl⟩
      rw [hb5] at HY hMl
      rw [hb5]
      generalize wr.alloc (.cells #[.int .i64 (pk l i), .string (bs (pn l i)), .int .i64 (pa l i)] 44) = w3 at *
      clear c0 c1 c2 hba hb5
      have y0 := HY.out.c0
      have y1 := HY.out.c1
      have y2 := HY.out.c2
      have y3 := box_cell HN3.out
      have hMd : BalM w3.drew M' (N + i) (sumF f l i) := HM3.out
      obtain ⟨fa, hfa⟩ : ∃ fa, sumF f l i (pk l i, pn l i) = fa := ⟨_, rfl⟩
      have HLK := hMd.look _ hwf
      obtain ⟨v9, st, X, e1, hX, hY⟩ := hMd.entry _ hwf (by unfold maxLen; omega)
      have e2 := hX.look _ hwf
      rw [hfa] at HLK e2 hY hle
      obtain ⟨Y, hS, hYM⟩ := hY (pa l i) (wf_int (by omega) (by omega))
      have e3 : (Instr.entryStore 52 (.map (some M')) (.int .i64 (st : Int)) (.int .i64 (fa + pa l i))).run Try.prog (setBlock w3.drew M' X) = .ok () (setBlock (setBlock w3.drew M' X) M' Y) :=
        hS (setBlock w3.drew M' X) (let ⟨o, ho⟩ := HM3.out.block; set_at (w := w3.drew) (o := o) ho)
      have HYM := Lib.hid hYM
      clear hS hY hYM
      unfold accV at HLK e1 e2
      dsimp only at HLK e1 e2
      clear hfa hMd hX
      have hXX : ∃ o, (setBlock w3.drew M' X).heap[M']? = some o := let ⟨o, ho⟩ := HM3.out.block; ⟨X, set_at (w := w3.drew) (o := o) ho⟩
      have HM5 : Hid (BalM (setBlock (setBlock w3.drew M' X) M' Y) M' (N + (i + 1)) (sumF f l (i + 1))) := by
        obtain ⟨o, ho⟩ := HM3.out.block
        obtain ⟨o2, ho2⟩ := hXX
        exact HYM.out.of_heap (by rw [set_at ho2, set_at (w := w3.drew) (o := o) ho])
      have HN5 : Hid ((setBlock (setBlock w3.drew M' X) M' Y).heap[nb]? = some (.cells #[.map (some M')] 52 (0, 0))) := by
        have h1 := (set_grown (setBlock w3.drew M' X) M' Y).block nb (by simp [setBlock]; exact lt_of_block HN3.out) (by simp; omega)
        have h2 := (set_grown w3.drew M' X).block nb (lt_of_block (w := w3.drew) HN3.out) (by simp; omega)
        exact h1.trans (h2.trans HN3.out)
      have HG5 : Hid (w.grownBy (setBlock (setBlock w3.drew M' X) M' Y) (some nb)) :=
        ((HG3.out.trans (grown_drew1 w3 _)).andThen (set_grown w3.drew M' X) (fun j hj => by cases hj; exact Or.inl hM')).andThen (set_grown _ M' Y) (fun j hj => by cases hj; exact Or.inl hM')
      clear hXX HYM HM3 HN3 HG3 HY
      go_region
      generalize setBlock (setBlock w3.drew M' X) M' Y = w5 at *
      clear HLK e1 e2 e3 y0 y1 y2 y3
      go_wp2_with fail
      go_roundw
      case rel => exact ⟨i + 1, by go_num, hlt, HG5, HN5, HM5⟩
      case measure => simp [intOf]; omega
    · have hi' : i = n := by omega
      subst hi'
      have hbbl2 : bb < w.heap.size := lt_of_block HBB.out
      have HB2 : Hid (wr.heap[bb]? = some (.cells #[.int .i64 id, .slice ra i c] 34 (0, 0))) := (HG.out.block bb hbbl2 (by simp; exact hnbb)).trans HBB.out
      have z1 : wr.cell? ⟨bb, 1, none⟩ = some (.slice ra i c) := by rw [cell_of_row _ _ _ _ _ _ HB2.out]; rfl
      have HPR := Lib.hid (HP.out.far (by decide) HNB.out HG.out)
      have HFL := Lib.hid (HF.out i (by omega))
      obtain ⟨F, hF⟩ : ∃ F, sumF f l i = F := ⟨_, rfl⟩
      have HFE : Hid (sumF f l l.length = F ∧ sumF f l i = F) := ⟨by rw [hlen]; exact hF, hF⟩
      have HLN := Lib.hid hlen
      rw [hF] at HMR HFL
      clear hF
      go_wp2_with fail
      obtain ⟨wo, rfl⟩ : ∃ wo : World, wo = wr := ⟨_, rfl⟩
      go_loopw [34] (fun v34 wx => ∃ j : Nat, v34 = .int .i64 j ∧ j ≤ i ∧ Hid (Below wo.heap.size wo wx) ∧ Hid (∀ q, q < j → farB F ((pk l q, pn l q), pa l q) = false)) (fun v34 _ => i - (intOf v34).toNat)
      case atStart => exact ⟨0, rfl, Nat.zero_le _, Below.refl _ _, fun q hq => by omega⟩
      case round =>
        clear z1
        obtain ⟨j, rfl, hj, HW, HQ⟩ := hrel
        by_cases hjl : j < i
        · obtain ⟨b, o, rfl, c0, c1, c2⟩ := Posts.at (HPR.out.below HW.out) j hjl
          have hwf := HOK.out.wf j (by omega)
          have hle := HFL.out (pk l j, pn l j)
          go_upto_region 10 with fail
          have HW2 := Lib.hid (HW.out.trans ((Joins.below_alloc1 wr (.cells #[.int .i64 (pk l j), .string (bs (pn l j)), .int .i64 (pa l j)] 44)).mono HW.out.size))
          have HY : Hid (Boxed3 (wr.alloc (.cells #[.int .i64 (pk l j), .string (bs (pn l j)), .int .i64 (pa l j)] 44)) wr.heap.size (.int .i64 (pk l j)) (.string (bs (pn l j))) (.int .i64 (pa l j)) 44) := World.alloc_heap_new wr _
          generalize wr.alloc (.cells #[.int .i64 (pk l j), .string (bs (pn l j)), .int .i64 (pa l j)] 44) = w3 at *
          clear c0 c1 c2
          have y0 := HY.out.c0
          have y1 := HY.out.c1
          have y3 := box_cell ((HW2.out.block nb (lt_of_block HNR.out)).trans HNR.out)
          have HLK := (HMR.out.below HW2.out).look _ hwf
          obtain ⟨fa, hfa⟩ : ∃ fa, F (pk l j, pn l j) = fa := ⟨_, rfl⟩
          have HFB : Hid (farB F ((pk l j, pn l j), pa l j) = (decide (1000000000000 < fa) || decide (fa < -1000000000000))) := by show _ = _; unfold farB; rw [hfa]
          have HANY := Lib.hid (fun (h : farB F ((pk l j, pn l j), pa l j) = true) => (show l.any (farB F) = true from by
            rw [← any_range l (farB F), List.any_eq_true]
            exact ⟨j, List.mem_range.mpr (by omega), h⟩))
          rw [hfa] at HLK hle
          unfold accV at HLK
          dsimp only at HLK
          clear hfa
          by_cases h1 : 1000000000000 < fa
          · have HR : Hid (l.any (farB F) = true) := HANY.out (by rw [HFB.out]; simp [h1])
            go_wp2_with fail
            go_ret
            exact ⟨by rw [range_yes HFE.out.1 HR.out]; rfl, HG.out.trans (grown_below HW2.out _), M', (HW2.out.block nb (lt_of_block HNR.out)).trans HNR.out, hM', by first | (rw [HFE.out.2]; exact HMR.out.below HW2.out) | (rw [HFE.out.1, HLN.out]; exact HMR.out.below HW2.out)⟩
          · by_cases h2 : fa < -1000000000000
            · have HR : Hid (l.any (farB F) = true) := HANY.out (by rw [HFB.out]; simp [h2])
              go_wp2_with fail
              go_ret
              exact ⟨by rw [range_yes HFE.out.1 HR.out]; rfl, HG.out.trans (grown_below HW2.out _), M', (HW2.out.block nb (lt_of_block HNR.out)).trans HNR.out, hM', by first | (rw [HFE.out.2]; exact HMR.out.below HW2.out) | (rw [HFE.out.1, HLN.out]; exact HMR.out.below HW2.out)⟩
            · have HR : Hid (farB F ((pk l j, pn l j), pa l j) = false) := by show _ = _; rw [HFB.out]; simp [h1, h2]
              go_wp2_with fail
              go_roundw
              case rel => exact ⟨j + 1, by go_num, hjl, HW2, fun q hq => by
                by_cases e : q = j
                · rw [e]; exact HR.out
                · exact HQ.out q (by omega)⟩
              case measure => simp [intOf]; omega
        · have HR : Hid (l.any (farB F) = false) := by
            show _ = _
            rw [← any_range l (farB F), List.any_eq_false]
            intro q hq
            rw [HQ.out q (by have := List.mem_range.mp hq; omega)]
            simp
          go_wp2_with fail
          go_ret
          exact ⟨by rw [range_no HFE.out.1 HR.out]; rfl, HG.out.trans (grown_below HW.out _), M', (HW.out.block nb (lt_of_block HNR.out)).trans HNR.out, hM', by first | (rw [HFE.out.2]; exact HMR.out.below HW.out) | (rw [HFE.out.1, HLN.out]; exact HMR.out.below HW.out)⟩
end Go.Proofs.Ytafhdpalobalkaa
