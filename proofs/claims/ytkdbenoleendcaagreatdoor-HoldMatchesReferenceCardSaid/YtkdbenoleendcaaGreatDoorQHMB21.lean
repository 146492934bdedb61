/- hold: Release, Sell, Free; hold.New: the walk. -/
import Derived.Test.YtkdbenoleendcaaGreatDoorQHMB20

namespace Go.Proofs.YtkdbenoleendcaaGreatDoor
open Go.RowKit Go.IntWalk Go.Maps Go.WideMaps

/-- An error alone, and the Holds that is left. -/
def ErrPost (F : Nat → Prop) (g M sb : Nat) (w : World) (er : Int) (st : St) (e : Ending) (w' : World) : Prop :=
  ∃ E', e = .returned (.int .i64 er) ∧ HoldC w' F g M sb E' st ∧ Upd (Own3 g M sb) w w'

theorem release_any (w : World) (F : Nat → Prop) (g M sb : Nat) (E : List OwnT) (st : St) (id : Int) (h : HoldC w F g M sb E st) (hw : (Lit.int .i64 id).wf = true) :
    Calls Tryz.prog 27 #[.pointer (some ⟨g, 0, none⟩), .int .i64 id] w (ErrPost F g M sb w (endS st id (0, 0)).1.2 (endS st id (0, 0)).2) := by
  have HC := Lib.hid (end_any w F g M sb E st id (0, 0) h hw (end_inv h.inv id _ (Or.inl rfl)))
  clear h
  go_enter Tryz.func27, Tryz.ntmps27
  go_wp2_with fail
  refine HC.out.mono ?_
  rintro e w' ⟨v, E', rfl, hv, hh, hu⟩
  have HH := Lib.hid hh
  have HU := Lib.hid hu
  clear hh hu hv
  go_wp2_with fail
  go_ret
  exact ⟨E', rfl, HH.out, HU.out⟩

theorem sell_any (w : World) (F : Nat → Prop) (g M sb : Nat) (E : List OwnT) (st : St) (id : Int) (h : HoldC w F g M sb E st) (hw : (Lit.int .i64 id).wf = true) :
    Calls Tryz.prog 25 #[.pointer (some ⟨g, 0, none⟩), .int .i64 id] w (EndPost F g M sb w (endS st id (2, id))) := by
  have HC := Lib.hid (end_any w F g M sb E st id (2, id) h hw (end_inv h.inv id _ (Or.inr rfl)))
  clear h
  go_enter Tryz.func25, Tryz.ntmps25
  go_wp2_with fail
  refine HC.out.mono ?_
  rintro e w' ⟨v, E', rfl, hv, hh, hu⟩
  have HV := Lib.hid hv
  have HH := Lib.hid hh
  have HU := Lib.hid hu
  clear hh hu hv
  go_wp2_with fail
  go_ret2
  exact ⟨v, E', rfl, HV.out, HH.out, HU.out⟩

theorem free_any (w : World) (F : Nat → Prop) (g M sb : Nat) (E : List OwnT) (st : St) (p : Int) (h : HoldC w F g M sb E st) :
    Calls Tryz.prog 26 #[.pointer (some ⟨g, 0, none⟩), .int .i64 p] w (ErrPost F g M sb w (freeS st p).1 (freeS st p).2) := by
  have HH := Lib.hid h
  have g1 : w.cell? ⟨g, 1, none⟩ = some (.slice (some ⟨sb, 0, none⟩) st.sp.length st.sp.length) := by rw [cell_of_row _ _ _ _ _ _ h.blk]; rfl
  clear h
  by_cases h0 : p < 0
  · have HS : Hid (freeS st p = (1, st)) := by
      show _ = _
      unfold freeS
      rw [if_pos (by unfold inR; simp; omega)]
    go_enter Tryz.func26, Tryz.ntmps26
    go_wp2_with fail
    go_ret
    exact ⟨E, by rw [HS.out]; rfl, by rw [HS.out]; exact HH.out, Upd.refl _ _⟩
  by_cases h1 : (st.sp.length : Int) ≤ p
  · have HS : Hid (freeS st p = (1, st)) := by
      show _ = _
      unfold freeS
      rw [if_pos (by unfold inR; simp; omega)]
    go_enter Tryz.func26, Tryz.ntmps26
    go_wp2_with fail
    go_ret
    exact ⟨E, by rw [HS.out]; rfl, by rw [HS.out]; exact HH.out, Upd.refl _ _⟩
  have hin : inR st.sp.length p = true := by unfold inR; simp; omega
  obtain ⟨q, rfl⟩ : ∃ q : Nat, p = q := ⟨p.toNat, by omega⟩
  have hq : q < st.sp.length := by omega
  have c0 := HH.out.sps.cell q 0 hq (by omega)
  have c1 := HH.out.sps.cell q 1 hq (by omega)
  have f0 := HH.out.sps.free (q * 2)
  have f1 := HH.out.sps.free (q * 2 + 1)
  rw [sp_c0 q hq, Nat.add_zero] at c0
  rw [sp_c1 q hq] at c1
  by_cases h2 : (spAt st.sp q).1 = 2
  · have HS : Hid (freeS st q = (0, ⟨st.sp.set q (0, 0), st.last, st.op⟩)) := by
      show _ = _
      unfold freeS
      rw [if_neg (by simp [hin]), if_neg (by rw [Int.toNat_natCast]; omega), Int.toNat_natCast]
    have HI : Hid (Inv (freeS st q).2) := free_inv HH.out.inv q
    have hB : Hid (w.grownBy ((w.setCell ⟨sb, q * 2, none⟩ (.int .i64 0)).setCell ⟨sb, q * 2 + 1, none⟩ (.int .i64 0)) (some sb)) := grown_two w sb _ _ _ _
    have hR : Hid (RecRow SpE ((w.setCell ⟨sb, q * 2, none⟩ (.int .i64 0)).setCell ⟨sb, q * 2 + 1, none⟩ (.int .i64 0)) sb 53 (st.sp.set q (0, 0))) := SpRow.put HH.out.sps q hq (0, 0)
    rw [h2] at c0
    clear h2 hin
    go_enter Tryz.func26, Tryz.ntmps26
    go_wp2_with fail
    go_ret
    refine ⟨E, by rw [HS.out]; rfl, ?_, Upd.of_row hB.out (fun b e => by cases e; exact Or.inr (Or.inr rfl))⟩
    have hI := HI.out
    rw [HS.out] at hI ⊢
    refine ⟨?_, HH.out.map.kept hB.out (by have := HH.out.ne_sM; simp; omega), hR.out, HH.out.ops, fun y hy => ?_, hI⟩
    · have := (hB.out.block g (lt_of_block HH.out.blk) (by have := HH.out.ne_gs; simpa using this)).trans HH.out.blk
      simpa using this
    · obtain ⟨b', e', hb', hr'⟩ := HH.out.pls y hy
      have hno := HH.out.pl_own hr'
      exact ⟨b', e', hb', hr'.keep (T := fun i => i = sb) (Upd.of_row hB.out (fun b e => by cases e; rfl)) (fun h => hno (Or.inr (Or.inr h)))⟩
  · have HS : Hid (freeS st q = (12, st)) := by
      show _ = _
      unfold freeS
      rw [if_neg (by simp [hin]), if_pos (by rw [Int.toNat_natCast]; exact h2)]
    obtain ⟨x, hx⟩ : ∃ x, (spAt st.sp q).1 = x := ⟨_, rfl⟩
    rw [hx] at c0 h2
    clear hx
    have hz : (x == 2) = false := by simp [h2]
    have hz2 : (x != 2) = true := by simp [h2]
    clear h2 hin
    go_enter Tryz.func26, Tryz.ntmps26
    go_wp2_with fail
    go_ret
    exact ⟨E, by rw [HS.out]; rfl, by rw [HS.out]; exact HH.out, Upd.refl _ _⟩
end Go.Proofs.YtkdbenoleendcaaGreatDoor

namespace Go.Proofs.YtkdbenoleendcaaGreatDoor
open Go.RowKit Go.IntWalk Go.Maps Go.WideMaps

theorem make_spaces (n : Nat) (hn : n ≤ 4000) : ∃ arr : Array Value, arr.size = n * 2 ∧ (∀ k, k < n * 2 → arr[k]? = some (.int .i64 0)) ∧
    ∀ w : World, (Instr.makeSlice 44 (.int .i64 (n : Int)) (.int .i64 (n : Int))).run Tryz.prog w = .ok (.slice (some ⟨w.heap.size, 0, none⟩) n n) (w.alloc (.cells arr 53)) := by
  have hinfo : (Tryz.prog.info? 53).map (fun i => (i.zero, i.size, i.bytes)) = some (some (.agg #[.int .i64 0, .int .i64 0]), 2, 16) := by kernel_rfl
  obtain ⟨i, hi, hzz⟩ := Option.map_eq_some_iff.1 hinfo
  simp only [Prod.mk.injEq] at hzz
  obtain ⟨hz, hs, hb⟩ := hzz
  refine ⟨madeCells #[.int .i64 0, .int .i64 0] (n * 2), size_madeCells _ _, fun k hk => ?_, fun w => ?_⟩
  · simp only [madeCells, Array.getElem?_map, Array.getElem?_range, hk]
    rcases Nat.mod_two_eq_zero_or_one k with h | h <;> simp [h]
  · have h := run_make (P := Tryz.prog) w 44 53 i (.agg #[.int .i64 0, .int .i64 0]) Tryz.underlying44 hi hz .i64 .i64 n n (by omega) (Int.le_refl _) (by rw [hb]; omega) (by omega)
    rw [hs] at h
    simpa [Value.cells] using h

theorem SpRow.made {w : World} {arr : Array Value} {T : TypeId} {n : Nat} (hs : arr.size = n * 2) (hz : ∀ k, k < n * 2 → arr[k]? = some (.int .i64 0)) : RecRow SpE (w.alloc (.cells arr T)) w.heap.size T (List.replicate n (0, 0)) := by
  refine ⟨arr, World.alloc_heap_new w _, by simp [hs], fun i j hi hj => ?_⟩
  rw [List.length_replicate] at hi
  rw [hz _ (by omega)]
  have hj2 : j = 0 ∨ j = 1 := by omega
  rcases hj2 with rfl | rfl
  · rw [sp_c0 i (by simpa using hi)]
    simp [spAt, List.getD_eq_getElem?_getD, hi]
  · rw [sp_c1 i (by simpa using hi)]
    simp [spAt, List.getD_eq_getElem?_getD, hi]

/-- What New returns: no Holds, or a new one. -/
def NewPost (F : Nat → Prop) (n : Int) (w : World) (e : Ending) (w' : World) : Prop :=
  Below w.heap.size w w' ∧ if 0 ≤ n ∧ n ≤ 4000 then ∃ g M sb, e = .returned (.pointer (some ⟨g, 0, none⟩)) ∧ HoldC w' F g M sb [] (newS n.toNat) ∧ ∀ i, Own3 g M sb i → w.heap.size ≤ i else e = .returned (.pointer none)

theorem new_any (w : World) (F : Nat → Prop) (n : Int) : Calls Tryz.prog 6 #[.int .i64 n] w (NewPost F n w) := by
  have hmm := @run_makeMap Tryz.prog
  by_cases h0 : n < 0
  · go_enter Tryz.func6, Tryz.ntmps6
    go_wp2_with fail
    go_ret
    exact ⟨Below.refl _ _, by rw [if_neg (by omega)]; rfl⟩
  by_cases h1 : 4000 < n
  · go_enter Tryz.func6, Tryz.ntmps6
    go_wp2_with fail
    go_ret
    exact ⟨Below.refl _ _, by rw [if_neg (by omega)]; rfl⟩
  obtain ⟨k, rfl⟩ : ∃ k : Nat, n = k := ⟨n.toNat, by omega⟩
  obtain ⟨arr, hs, hz, hmk⟩ := make_spaces k (by omega)
  have HB : Hid (Below w.heap.size w (((w.alloc (.map #[] 0)).alloc (.cells arr 53)).alloc (.cells #[.map (some w.heap.size), .slice (some ⟨w.heap.size + 1, 0, none⟩) k k, .int .i64 0] 56))) :=
    ((Joins.below_alloc1 w _).alloc (by simp) _).alloc (by simp; omega) _
  have HH : Hid (HoldC (((w.alloc (.map #[] 0)).alloc (.cells arr 53)).alloc (.cells #[.map (some w.heap.size), .slice (some ⟨w.heap.size + 1, 0, none⟩) k k, .int .i64 0] 56)) F (w.heap.size + 1 + 1) w.heap.size (w.heap.size + 1) [] (newS k)) := by
    refine ⟨?_, ?_, ?_, rfl, fun x hx => by simp at hx, new_inv k⟩
    · have := World.alloc_heap_new ((w.alloc (.map #[] 0)).alloc (.cells arr 53)) (.cells #[.map (some w.heap.size), .slice (some ⟨w.heap.size + 1, 0, none⟩) k k, .int .i64 0] 56)
      simpa [newS] using this
    · exact ((World.ownsMap_made w Tryz.prog 3 RH).alloc _).alloc _
    · have := (SpRow.made (w := w.alloc (.map #[] 0)) (T := 53) hs hz).below (Joins.below_alloc1 _ (.cells #[.map (some w.heap.size), .slice (some ⟨w.heap.size + 1, 0, none⟩) k k, .int .i64 0] 56))
      simpa [newS] using this
  clear hs hz
  go_enter Tryz.func6, Tryz.ntmps6
  go_wp2_with fail
  go_ret
  refine ⟨HB.out, ?_⟩
  rw [if_pos (by omega), Int.toNat_natCast]
  refine ⟨w.heap.size + 1 + 1, w.heap.size, w.heap.size + 1, rfl, HH.out, ?_⟩
  rintro i (rfl | rfl | rfl) <;> omega
end Go.Proofs.YtkdbenoleendcaaGreatDoor
