/- hold.choice: the walk. -/
import Derived.Test.YtkdbenoleendcaaGreatDoorQHMB16
import Derived.Maps.Own
import Derived.Maps.OwnSet
import Derived.Maps.Views

namespace Go.Proofs.YtkdbenoleendcaaGreatDoor
open Go.RowKit Go.IntWalk Go.Maps Go.WideMaps

theorem lawI : Keyed Tryz.prog 3 := int_keyed Tryz.underlying3
theorem zeroB (w : World) : (zeroValue 4).run Tryz.prog w = .ok (.bool false) w := by kernel_rfl

theorem plainElem_bool_inv {H : Type} {P : Program} {e : TypeId} (he : P.underlying e = some .bool) {v : Value} {b : Bool} {ps : List MemPlace} (h : plainElem (H := H) P e v = some (.lit (.bool b), ps)) : v = .bool b := by
  unfold plainElem at h
  rw [he] at h
  cases v <;> simp at h
  rw [h.1]

/-- The first i places, as the map has them. -/
def setI (l : List Int) (i : Nat) : DataW Unit := setOf (.lit (.bool true)) ((l.take i).map fun p => Lit.int .i64 p)

theorem ix_get {l : List Int} {i : Nat} (h : i < l.length) : ix l i = l[i] := by
  unfold ix
  rw [List.getD_eq_getElem?_getD, List.getElem?_eq_getElem h]
  rfl

theorem setI_next {l : List Int} {i : Nat} (h : i < l.length) : setI l (i + 1) = (setI l i).put (.int .i64 (ix l i)) (.lit (.bool true)) := by
  unfold setI
  rw [List.take_succ_eq_append_getElem h, List.map_append, List.map_singleton, setOf_snoc, ix_get h]

theorem setI_map (l : List Int) (i : Nat) : IsMap (setI l i) := by
  unfold setI setOf
  generalize (l.take i).map (fun m => Lit.int .i64 m) = ks
  have : ∀ (ks : List Lit) (m : DataW Unit), IsMap m → IsMap (ks.foldl (fun m x => m.put x (.lit (.bool true))) m) := by
    intro ks
    induction ks with
    | nil => intro m h; exact h
    | cons k ks ih => intro m h; exact ih _ (h.put k _)
  exact this ks _ isMap_empty

theorem setI_at {l : List Int} (n : Int) : ∀ i, i ≤ l.length → (setI l i).atKey (.int .i64 n) (.lit (.bool false)) = .lit (.bool (decide (∃ j, j < i ∧ ix l j = n))) := by
  intro i
  induction i with
  | zero => intro _; simp [setI, setOf, DataW.atKey]
  | succ i ih =>
    intro h
    rw [setI_next (by omega)]
    by_cases e : ix l i = n
    · subst e
      rw [atKey_put_same (setI_map l i) (by trivial)]
      have : (∃ j, j < i + 1 ∧ ix l j = ix l i) := ⟨i, by omega, rfl⟩
      simp [this]
    · rw [atKey_put_other (by intro h; exact e (by cases h; rfl)), ih (by omega)]
      have : (∃ j, j < i + 1 ∧ ix l j = n) ↔ ∃ j, j < i ∧ ix l j = n := ⟨fun ⟨j, h1, h2⟩ => ⟨j, by
        rcases Nat.lt_or_ge j i with h | h
        · exact h
        · exact absurd (by rwa [show j = i from by omega] at h2) e, h2⟩, fun ⟨j, h1, h2⟩ => ⟨j, by omega, h2⟩⟩
      simp only [this]

theorem key_int (p : Int) (h0 : 0 ≤ p) (h : p ≤ 1000000000) : keyOf Tryz.prog 3 (.int .i64 p) = some (.int .i64 p) :=
  keyOf_int_mk Tryz.underlying3 (by simp only [Lit.wf, show IntKind.i64.min = -9223372036854775808 from by decide, show IntKind.i64.max = 9223372036854775807 from by decide]; simp; omega)

theorem look_int {w : World} {M i : Nat} {l : List Int} {p : Int} (h : w.ownsMap Tryz.prog 3 (plainElem Tryz.prog 4) M i (setI l i)) (hi : i ≤ l.length) (h0 : 0 ≤ p) (h1 : p ≤ 1000000000) :
    (Instr.lookup 78 (.map (some M)) (.int .i64 p) false).run Tryz.prog w = .ok (.bool (decide (∃ j, j < i ∧ ix l j = p))) w := by
  obtain ⟨v, ps, hrun, hv⟩ := h.lookup lawI Tryz.underlying78 (zeroB w) (plainElem_bool Tryz.underlying4 false) (key_int p h0 h1)
  rw [setI_at p i hi] at hv
  rw [hrun, plainElem_bool_inv Tryz.underlying4 hv]

theorem choice_ix {n : Nat} {l : List Int} : choiceB n l = true ↔ (1 ≤ l.length ∧ l.length ≤ 12) ∧ ∀ j, j < l.length → (0 ≤ ix l j ∧ ix l j < n) ∧ ∀ k, k < j → ix l k ≠ ix l j := by
  rw [choice_iff]
  constructor
  · rintro ⟨h1, h2, h3⟩
    refine ⟨h1, fun j hj => ⟨h2 _ (ix_mem hj), fun k hk e => ?_⟩⟩
    rw [ix_get hj, ix_get (by omega)] at e
    have := (List.getElem_inj h3).mp e
    omega
  · rintro ⟨h1, h2⟩
    refine ⟨h1, fun p hp => ?_, ?_⟩
    · obtain ⟨j, hj, e⟩ := List.getElem_of_mem hp
      rw [← e, ← ix_get hj]
      exact (h2 j hj).1
    · rw [List.nodup_iff_pairwise_ne, List.pairwise_iff_getElem]
      intro i j hi hj hij
      rw [← ix_get hi, ← ix_get hj]
      exact (h2 j hj).2 i hij

theorem choice_no {n : Nat} {l : List Int} (h : ((1 ≤ l.length ∧ l.length ≤ 12) ∧ ∀ j, j < l.length → (0 ≤ ix l j ∧ ix l j < n) ∧ ∀ k, k < j → ix l k ≠ ix l j) → False) : choiceB n l = false := by
  cases hc : choiceB n l
  · rfl
  · exact absurd (choice_ix.mp hc) h

set_option maxRecDepth 100000 in
theorem choice_any (g sb n c : Nat) (mv lv : Value) (l : List Int) (pa : Option Addr) (m mc : Nat) (w : World)
    (hg : w.heap[g]? = some (.cells #[mv, .slice (some ⟨sb, 0, none⟩) n c, lv] 56 (0, 0))) (hn : n ≤ 4000) (hm : m ≤ 4000) (hL : Ints w pa m l) :
    Calls Tryz.prog 37 #[.pointer (some ⟨g, 0, none⟩), .slice pa m mc] w fun e w' => e = .returned (.bool (choiceB n l)) ∧ Below w.heap.size w w' := by
  have hlen := hL.1
  have HL := Lib.hid hL
  have HG := Lib.hid hg
  have hgl := lt_of_block hg
  have hmm := @run_makeMap Tryz.prog
  clear hL hg
  by_cases h1 : m < 1
  · have HR : Hid (choiceB n l = false) := choice_no (fun h => by omega)
    go_enter Tryz.func37, Tryz.ntmps37
    go_wp2_with fail
    go_ret
    exact ⟨by rw [HR.out]; rfl, Below.refl _ _⟩
  by_cases h2 : 12 < m
  · have HR : Hid (choiceB n l = false) := choice_no (fun h => by omega)
    go_enter Tryz.func37, Tryz.ntmps37
    go_wp2_with fail
    go_ret
    exact ⟨by rw [HR.out]; rfl, Below.refl _ _⟩
  go_enter Tryz.func37, Tryz.ntmps37
  go_wp2_with fail
  go_loopw [7, 23] (fun v7 v23 wr => ∃ i : Nat, v23 = .int .i64 i ∧ i ≤ m ∧ Hid (Below w.heap.size w wr) ∧ Hid (wr.ownsMap Tryz.prog 3 (plainElem Tryz.prog 4) w.heap.size i (setI l i)) ∧
    Hid (∀ j, j < i → (0 ≤ ix l j ∧ ix l j < n) ∧ ∀ k, k < j → ix l k ≠ ix l j)) (fun _ v23 _ => m - (intOf v23).toNat)
  case atStart => exact ⟨0, rfl, Nat.zero_le _, Joins.below_alloc1 _ _, World.ownsMap_made _ _ _ _, fun j hj => by omega⟩
  case round =>
    obtain ⟨i, rfl, hi, HB, HO, HW⟩ := hrel
    by_cases hlt : i < m
    · obtain ⟨b, o, rfl, c0⟩ := (HL.out.below HB.out).2 i hlt
      have hgr : wr.heap[g]? = some (.cells #[mv, .slice (some ⟨sb, 0, none⟩) n c, lv] 56 (0, 0)) := (HB.out.block g hgl).trans HG.out
      have g1 : wr.cell? ⟨g, 1, none⟩ = some (.slice (some ⟨sb, 0, none⟩) n c) := by rw [cell_of_row _ _ _ _ _ _ hgr]; rfl
      clear hgr
      obtain ⟨p, hp⟩ : ∃ p, ix l i = p := ⟨_, rfl⟩
      rw [hp] at c0
      have HP := Lib.hid hp
      clear hp
      by_cases hp0 : p < 0
      · have HR : Hid (choiceB n l = false) := choice_no (fun h => by have := h.2 i (by omega); rw [HP.out] at this; omega)
        go_wp2_with fail
        go_ret
        exact ⟨by rw [HR.out]; rfl, HB.out⟩
      by_cases hpn : (n : Int) ≤ p
      · have HR : Hid (choiceB n l = false) := choice_no (fun h => by have := h.2 i (by omega); rw [HP.out] at this; omega)
        go_wp2_with fail
        go_ret
        exact ⟨by rw [HR.out]; rfl, HB.out⟩
      have hrun := look_int (p := p) HO.out (by omega) (by omega) (by omega)
      cases hb : decide (∃ j, j < i ∧ ix l j = p)
      · have HNB : Hid (∀ k, k < i → ix l k ≠ p) := fun k hk e => by
          rw [decide_eq_false_iff_not] at hb
          exact hb ⟨k, hk, e⟩
        rw [hb] at hrun
        clear hb
        have HKM := Lib.hid (key_int p (by omega) (by omega))
        go_wp2_with (at_mapUpdate; refine wpList_mapUpdate_own _ rfl _ _ _ 78 rfl 3 4 lawI Tryz.underlying78 _ w.heap.size i _ rfl HO.out (by unfold maxLen; omega) _ _ _ rfl rfl HKM.out _ [] (plainElem_bool Tryz.underlying4 true) ?_; intro w3 hown3 hgrow3; have HO4 := Lib.hid hown3; have HG4 := Lib.hid hgrow3; clear hown3 hgrow3)
        refine ⟨⟨i + 1, by go_num, hlt, HB.out.grown HG4.out HB.out.size (fun k e => by cases e; exact Nat.le_refl _), by rw [setI_next (by omega), HP.out]; exact HO4.out, fun j hj => ?_⟩, by simp [intOf]; omega⟩
        by_cases e : j = i
        · rw [e, HP.out]; exact ⟨by omega, HNB.out⟩
        · exact HW.out j (by omega)
      · have HR : Hid (choiceB n l = false) := choice_no (fun h => by
          rw [decide_eq_true_eq] at hb
          obtain ⟨j, hj, e⟩ := hb
          exact (h.2 i (by omega)).2 j hj (e.trans HP.out.symm))
        rw [hb] at hrun
        clear hb
        go_wp2_with fail
        go_ret
        exact ⟨by rw [HR.out]; rfl, HB.out⟩
    · have hi' : i = m := by omega
      subst hi'
      have HR : Hid (choiceB n l = true) := choice_ix.mpr ⟨by omega, fun j hj => HW.out j (by omega)⟩
      go_wp2_with fail
      go_ret
      exact ⟨by rw [HR.out]; rfl, HB.out⟩
end Go.Proofs.YtkdbenoleendcaaGreatDoor
