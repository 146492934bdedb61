/- refund.means.right: the walk. -/
import Derived.Maps.Own
import Derived.Maps.OwnSet
import Derived.Maps.Views
import Derived.Test.YtgpmhaeiccljaaaDoorR4
import Derived.Test.YtgpmhaeiccljaaaDoorLX
import Derived.Test.YtgpmhaeiccljaaaDoorMD
namespace Go.Proofs.YtgpmhaeiccljaaaDoor
open Go.RowKit Go.IntWalk Go.Maps Go.WideMaps

theorem lawS : Keyed Tryd.prog 9 := string_keyed Tryd.underlying9
theorem zeroB (w : World) : (zeroValue 4).run Tryd.prog w = .ok (.bool false) w := by kernel_rfl

theorem plainElem_bool_inv {H : Type} {P : Program} {e : TypeId} (he : P.underlying e = some .bool) {v : Value} {b : Bool} {ps : List MemPlace} (h : plainElem (H := H) P e v = some (.lit (.bool b), ps)) : v = .bool b := by
  unfold plainElem at h
  rw [he] at h
  cases v <;> simp at h
  rw [h.1]

/-- The names of the first i means, as the map has them. -/
def setD (l : List MeanT) (i : Nat) : DataW Unit := setOf (.lit (.bool true)) ((l.take i).map fun m => Lit.string m.1)

theorem setD_next {l : List MeanT} {i : Nat} (h : i < l.length) : setD l (i + 1) = (setD l i).put (.string (nm l i)) (.lit (.bool true)) := by
  unfold setD
  rw [List.take_succ_eq_append_getElem h, List.map_append, List.map_singleton, setOf_snoc, nm_eq _ _ h]

theorem setD_map (l : List MeanT) (i : Nat) : IsMap (setD l i) := by
  unfold setD setOf
  generalize (l.take i).map (fun m => Lit.string m.1) = ks
  have : ∀ (ks : List Lit) (m : DataW Unit), IsMap m → IsMap (ks.foldl (fun m x => m.put x (.lit (.bool true))) m) := by
    intro ks
    induction ks with
    | nil => intro m h; exact h
    | cons k ks ih => intro m h; exact ih _ (h.put k _)
  exact this ks _ isMap_empty

theorem setD_at {l : List MeanT} (n : Name) : ∀ i, i ≤ l.length → (setD l i).atKey (.string n) (.lit (.bool false)) = .lit (.bool (decide (∃ j, j < i ∧ nm l j = n))) := by
  intro i
  induction i with
  | zero => intro _; simp [setD, setOf, DataW.atKey]
  | succ i ih =>
    intro h
    rw [setD_next (by omega)]
    by_cases e : nm l i = n
    · subst e
      rw [atKey_put_same (setD_map l i) (by trivial)]
      have : (∃ j, j < i + 1 ∧ nm l j = nm l i) := ⟨i, by omega, rfl⟩
      simp [this]
    · rw [atKey_put_other (by intro h; exact e (by cases h; rfl)), ih (by omega)]
      have : (∃ j, j < i + 1 ∧ nm l j = n) ↔ ∃ j, j < i ∧ nm l j = n := ⟨fun ⟨j, h1, h2⟩ => ⟨j, by
        rcases Nat.lt_or_ge j i with h | h
        · exact h
        · exact absurd (by rwa [show j = i from by omega] at h2) e, h2⟩, fun ⟨j, h1, h2⟩ => ⟨j, by omega, h2⟩⟩
      simp only [this]

theorem key_mk (n : Name) (h : n.length ≤ 1000) : keyOf Tryd.prog 9 (.string (bs n)) = some (.string n) := by
  have := keyOf_string_mk (P := Tryd.prog) Tryd.underlying9 (s := bs n) (by rw [bs_size]; unfold maxLen; omega)
  rw [this, bs_list]

theorem look_mk {w : World} {M i : Nat} {l : List MeanT} {n : Name} (h : w.ownsMap Tryd.prog 9 (plainElem Tryd.prog 4) M i (setD l i)) (hi : i ≤ l.length) (hn : n.length ≤ 1000) :
    (Instr.lookup 67 (.map (some M)) (.string (bs n)) false).run Tryd.prog w = .ok (.bool (decide (∃ j, j < i ∧ nm l j = n))) w := by
  obtain ⟨v, ps, hrun, hv⟩ := h.lookup lawS Tryd.underlying67 (zeroB w) (plainElem_bool Tryd.underlying4 false) (key_mk n hn)
  rw [setD_at n i hi] at hv
  rw [hrun, plainElem_bool_inv Tryd.underlying4 hv]

/-- A box of two cells. -/
def Boxed2 (W : World) (b : Nat) (u v : Value) : Prop := W.heap[b]? = some (.cells #[u, v] 46 (0, 0))
theorem Boxed2.c0 {W : World} {b : Nat} {u v : Value} (h : Boxed2 W b u v) : W.cell? ⟨b, 0, none⟩ = some u := by rw [cell_of_row _ _ _ _ _ _ h]; rfl
theorem Boxed2.c1 {W : World} {b : Nat} {u v : Value} (h : Boxed2 W b u v) : W.cell? ⟨b, 1, none⟩ = some v := by rw [cell_of_row _ _ _ _ _ _ h]; rfl
theorem Boxed2.step {W W' : World} {b : Nat} {u v : Value} (h : Boxed2 W b u v) (hb : Below W.heap.size W W') : Boxed2 W' b u v := (hb.block b (lt_of_block h)).trans h

theorem tok_one {w : World} {la : Option Addr} {x : Fnd} (h : Recs TokE w la 1 [x]) : ∃ b o, la = some ⟨b, o, none⟩ ∧ w.cell? ⟨b, o, none⟩ = some (.int .i64 x.kind) ∧ w.cell? ⟨b, o + 1, none⟩ = some (.string (bs x.text)) := by
  obtain ⟨b, o, e, c⟩ := h.2 0 (by omega)
  have c0 := c 0 (by omega)
  have c1 := c 1 (by omega)
  rw [rc_eq _ _ (by simp)] at c0 c1
  exact ⟨b, o, e, by simpa [TokE] using c0, by simpa [TokE] using c1⟩

set_option maxRecDepth 100000 in
set_option maxHeartbeats 3200000 in
theorem mright_any (ra : Option Addr) (n c : Nat) (l : List MeanT) (w : World) (h : Means w ra n l) (hn : n ≤ 30) (hl : ∀ i, i < n → (nm l i).length ≤ 60) :
    Calls Tryd.prog 27 #[.slice ra n c] w fun e w' => e = .returned (.bool (rightB l)) ∧ Below w.heap.size w w' := by
  have HM := Lib.hid h
  have hlen := h.1
  have HL := Lib.hid hl
  clear h hl
  have hmm := @run_makeMap Tryd.prog
  go_enter Tryd.func27, Tryd.ntmps27
  go_wp2_with fail
  go_loopw [13] (fun v13 wr => ∃ i : Nat, v13 = .int .i64 i ∧ i ≤ n ∧ Hid (Below w.heap.size w wr) ∧ Hid (wr.ownsMap Tryd.prog 9 (plainElem Tryd.prog 4) w.heap.size i (setD l i)) ∧
    Hid (∀ j, j < i → nameS (nm l j) = true ∧ (1 ≤ am l j ∧ am l j ≤ 1000000000) ∧ ∀ k, k < j → nm l k ≠ nm l j)) (fun v13 _ => n - (intOf v13).toNat)
  case atStart => exact ⟨0, rfl, Nat.zero_le _, Joins.below_alloc1 _ _, World.ownsMap_made _ _ _ _, fun j hj => by omega⟩
  case round =>
    obtain ⟨i, rfl, hi, HB, HO, HW⟩ := hrel
    by_cases hlt : i < n
    · obtain ⟨b, o, rfl, c0, c1⟩ := Means.at (HM.out.below HB.out) i hlt
      have hl60 := HL.out i hlt
      go_upto_region 5 with fail
      have HB1 := Lib.hid (HB.out.trans ((Joins.below_alloc1 wr (.cells #[.string (bs (nm l i)), .int .i64 (am l i)] 46)).mono HB.out.size))
      have HO1 := Lib.hid (HO.out.alloc (.cells #[.string (bs (nm l i)), .int .i64 (am l i)] 46))
      have HX : Hid (Boxed2 (wr.alloc (.cells #[.string (bs (nm l i)), .int .i64 (am l i)] 46)) wr.heap.size (.string (bs (nm l i))) (.int .i64 (am l i))) := World.alloc_heap_new wr _
      generalize wr.alloc (.cells #[.string (bs (nm l i)), .int .i64 (am l i)] 46) = w1 at *
      clear c0 c1
      have x0 := HX.out.c0
      go_wp2_with fail
      refine (lex_any (nm l i) (by omega) w1).mono ?_
      rintro e w2 ⟨v, er, p, toks, rfl, hb2, htl, hv0, hv1, hny, hnn⟩
      have HB2 := Lib.hid (HB1.out.trans (hb2.mono HB1.out.size))
      have HO2 := Lib.hid (HO1.out.kept (grown_below hb2 none) (by simp))
      have HX2 := Lib.hid (HX.out.step hb2)
      clear x0 hb2 HB1 HO1 HX
      have x0 := HX2.out.c0
      have x1 := HX2.out.c1
      have HNY := Lib.hid hny
      have HNN := Lib.hid hnn
      clear hny hnn
      go_upto_region 6 with fail
      go_cut [9] (fun v9 wx => v9 = .bool (nameS (nm l i)) ∧ ∃ q, wx = w2.drewN q)
      case first =>
        by_cases he : er = 0
        · subst he
          obtain ⟨la, c', rfl, hrec⟩ := hv0 rfl
          clear hv0 hv1
          by_cases h1 : toks.length = 1
          · obtain ⟨x, rfl⟩ := List.length_eq_one_iff.mp h1
            obtain ⟨b', o', rfl, d0, d1⟩ := tok_one hrec
            clear hrec h1 htl
            by_cases hk : x.kind = 1
            · have HR : Hid (decide (x.text = nm l i) = nameS (nm l i)) := by
                show _ = _
                cases hh : nameS (nm l i)
                · have := HNN.out hh rfl x [] rfl
                  simp only [decide_eq_false_iff_not]
                  exact fun e => this ⟨hk, e⟩
                · obtain ⟨_, y, e, h2, h3⟩ := HNY.out hh
                  cases e
                  simp [h3]
              have e1 := bs_beq x.text (nm l i)
              have k1 : (x.kind == 1) = true := by simp [hk]
              clear hk
              go_wp2_with fail
              go_quiet (fail)
              go_wp2_with fail
              go_meet
              case rel => exact ⟨by rw [HR.out], nq, rfl⟩
            · have HR : Hid (nameS (nm l i) = false) := by
                show _ = _
                cases hh : nameS (nm l i)
                · rfl
                · obtain ⟨_, y, e, h2, h3⟩ := HNY.out hh
                  cases e
                  exact absurd h2 hk
              have k1 : (x.kind == 1) = false := by simp [hk]
              clear hk
              go_wp2_with fail
              go_quiet (fail)
              go_wp2_with fail
              go_meet
              case rel => exact ⟨by rw [HR.out], nq, rfl⟩
          · have HR : Hid (nameS (nm l i) = false) := by
              show _ = _
              cases hh : nameS (nm l i)
              · rfl
              · obtain ⟨_, y, e, h2, h3⟩ := HNY.out hh
                rw [e] at h1
                exact absurd rfl h1
            have k1 : ((toks.length : Int) == 1) = false := by simp; omega
            go_wp2_with fail
            go_quiet (fail)
            go_wp2_with fail
            go_meet
            case rel => exact ⟨by rw [HR.out], nq, rfl⟩
        · have hv := hv1 he
          subst hv
          clear hv0 hv1
          have HR : Hid (nameS (nm l i) = false) := by
            show _ = _
            cases hh : nameS (nm l i)
            · rfl
            · exact absurd (HNY.out hh).1 he
          have k1 : (er == 0) = false := by simp [he]
          clear he
          go_wp2_with fail
          go_quiet (fail)
          go_wp2_with fail
          go_meet
          case rel => exact ⟨by rw [HR.out], nq, rfl⟩
      case rest =>
        obtain ⟨rfl, q, hq⟩ := hcut
        clear hv0 hv1 htl x0 x1
        have HB3 : Hid (Below w.heap.size w wc) := by rw [hq]; exact below_drewN HB2.out q
        have HO3 : Hid (wc.ownsMap Tryd.prog 9 (plainElem Tryd.prog 4) w.heap.size i (setD l i)) := by rw [hq]; exact HO2.out
        have HX3 : Hid (Boxed2 wc wr.heap.size (.string (bs (nm l i))) (.int .i64 (am l i))) := by rw [hq]; exact HX2.out
        clear hq HB2 HO2 HX2
        have x0 := HX3.out.c0
        have x1 := HX3.out.c1
        cases hnm : nameS (nm l i)
        · have HR : Hid (rightB l = false) := right_false (fun h => by have := h.name i (by omega); rw [hnm] at this; simp at this)
          clear hnm
          go_wp2_with fail
          go_ret
          exact ⟨by rw [HR.out]; rfl, HB3.out⟩
        have HNM := Lib.hid hnm
        clear hnm
        have hrun := look_mk (n := nm l i) HO3.out (by omega) (by omega)
        cases hb : decide (∃ j, j < i ∧ nm l j = nm l i)
        · have HNB : Hid (∀ k, k < i → nm l k ≠ nm l i) := fun k hk e => by
            rw [decide_eq_false_iff_not] at hb
            exact hb ⟨k, hk, e⟩
          rw [hb] at hrun
          clear hb
          by_cases ha1 : am l i < 1
          · have HR : Hid (rightB l = false) := right_false (fun h => by have := h.amt i (by omega); omega)
            go_wp2_with fail
            go_ret
            exact ⟨by rw [HR.out]; rfl, HB3.out⟩
          go_wp2_with fail
          refine (mvalid_any (am l i) wc).mono ?_
          rintro e w' ⟨rfl, rfl⟩
          by_cases ha2 : 1000000000 < am l i
          · have HR : Hid (rightB l = false) := right_false (fun h => by have := h.amt i (by omega); omega)
            have ha3 : amtB (am l i) = false := by unfold amtB inB; simp; omega
            rw [ha3]
            go_wp2_with fail
            go_ret
            exact ⟨by rw [HR.out]; rfl, HB3.out⟩
          have ha3 : amtB (am l i) = true := by unfold amtB inB; simp; omega
          rw [ha3]
          clear hrun ha3
          have HKM := Lib.hid (key_mk (nm l i) (by omega))
          go_wp2_with (at_mapUpdate; refine wpList_mapUpdate_own _ rfl _ _ _ 67 rfl 9 4 lawS Tryd.underlying67 _ w.heap.size i _ rfl HO3.out (by unfold maxLen; omega) _ _ _ rfl rfl HKM.out _ [] (plainElem_bool Tryd.underlying4 true) ?_; intro w3 hown3 hgrow3; have HO4 := Lib.hid hown3; have HG4 := Lib.hid hgrow3; clear hown3 hgrow3)
          go_roundw
          case rel =>
            refine ⟨i + 1, by go_num, hlt, HB3.out.grown HG4.out HB3.out.size (fun k e => by cases e; exact Nat.le_refl _), by rw [setD_next (by omega)]; exact HO4.out, fun j hj => ?_⟩
            by_cases e : j = i
            · rw [e]; exact ⟨HNM.out, by omega, HNB.out⟩
            · exact HW.out j (by omega)
          case measure => simp [intOf]; omega
        · have HR : Hid (rightB l = false) := right_false (fun h => by
            rw [decide_eq_true_eq] at hb
            obtain ⟨j, hj, e⟩ := hb
            exact h.diff i j (by omega) hj e)
          rw [hb] at hrun
          clear hb
          go_wp2_with fail
          go_ret
          exact ⟨by rw [HR.out]; rfl, HB3.out⟩
    · have hi' : i = n := by omega
      subst hi'
      by_cases h1 : i < 1
      · have HR : Hid (rightB l = false) := right_false (fun h => by have := h.len1; omega)
        go_wp2_with fail
        go_ret
        exact ⟨by rw [HR.out]; rfl, HB.out⟩
      by_cases h12 : 12 < i
      · have HR : Hid (rightB l = false) := right_false (fun h => by have := h.len12; omega)
        go_wp2_with fail
        go_ret
        exact ⟨by rw [HR.out]; rfl, HB.out⟩
      go_wp2_with fail
      refine (total_any ra i c l wr (HM.out.below HB.out) (by omega) (fun j hj => by have := (HW.out j hj).2.1; omega)).mono ?_
      rintro e w4 ⟨rfl, hb4⟩
      have HB4 := Lib.hid (HB.out.trans (hb4.mono HB.out.size))
      clear hb4
      go_wp2_with fail
      refine (mvalid_any (totS l) w4).mono ?_
      rintro e w' ⟨rfl, rfl⟩
      have HR : Hid (rightB l = amtB (totS l)) := by
        show _ = _
        have h0 : 0 ≤ totS l := tot_nonneg (fun j hj => by have := (HW.out j (by omega)).2.1; omega)
        by_cases ht : totS l ≤ 1000000000
        · rw [right_true ⟨by omega, by omega, fun j hj => (HW.out j (by omega)).1, fun j hj => (HW.out j (by omega)).2.1, fun j k hj hk => (HW.out j (by omega)).2.2 k hk, ht⟩]
          unfold amtB inB; simp; omega
        · rw [right_false (fun h => ht h.tot)]
          unfold amtB inB; simp; omega
      go_wp2_with fail
      go_ret
      exact ⟨by rw [HR.out]; rfl, HB4.out⟩
end Go.Proofs.YtgpmhaeiccljaaaDoor
