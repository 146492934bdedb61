/- hold.New: the walk. -/
import Derived.Test.YtkdbenoleendcaaDoorHG
namespace Go.Proofs.YtkdbenoleendcaaDoor
open Go.RowKit Go.IntWalk Go.Maps Go.WideMaps

theorem make_spaces (n : Nat) (hn : n ≤ 4000) : ∃ arr : Array Value, arr.size = n * 2 ∧ (∀ k, k < n * 2 → arr[k]? = some (.int .i64 0)) ∧
    ∀ w : World, (Instr.makeSlice 27 (.int .i64 (n : Int)) (.int .i64 (n : Int))).run Tryd.prog w = .ok (.slice (some ⟨w.heap.size, 0, none⟩) n n) (w.alloc (.cells arr 35)) := by
  have hinfo : (Tryd.prog.info? 35).map (fun i => (i.zero, i.size, i.bytes)) = some (some (.agg #[.int .i64 0, .int .i64 0]), 2, 16) := by kernel_rfl
  obtain ⟨i, hi, hzz⟩ := Option.map_eq_some_iff.1 hinfo
  simp only [Prod.mk.injEq] at hzz
  obtain ⟨hz, hs, hb⟩ := hzz
  refine ⟨madeCells #[.int .i64 0, .int .i64 0] (n * 2), size_madeCells _ _, fun k hk => ?_, fun w => ?_⟩
  · simp only [madeCells, Array.getElem?_map, Array.getElem?_range, hk]
    rcases Nat.mod_two_eq_zero_or_one k with h | h <;> simp [h]
  · have h := run_make (P := Tryd.prog) w 27 35 i (.agg #[.int .i64 0, .int .i64 0]) Tryd.underlying27 hi hz .i64 .i64 n n (by omega) (Int.le_refl _) (by rw [hb]; omega) (by omega)
    rw [hs] at h
    simpa [Value.cells] using h

theorem SpRow.made {w : World} {arr : Array Value} {T : TypeId} {n : Nat} (hs : arr.size = n * 2) (hz : ∀ k, k < n * 2 → arr[k]? = some (.int .i64 0)) : RecRow SpE (w.alloc (.cells arr T)) w.heap.size T (List.replicate n (0, 0)) := by
  refine ⟨arr, World.alloc_heap_new w _, by simp [hs], fun i j hi hj => ?_⟩
  rw [List.length_replicate] at hi
  rw [hz _ (by omega)]
  have hj2 : j = 0 ∨ j = 1 := by omega
  rcases hj2 with rfl | rfl
  · rw [sp_c0 i (by simpa using hi)]
    simp [spAt, List.getD_eq_getElem?_getD, hi]
  · rw [sp_c1 i (by simpa using hi)]
    simp [spAt, List.getD_eq_getElem?_getD, hi]

/-- What New returns: no Holds, or a new one. -/
def NewPost (F : Nat → Prop) (n : Int) (w : World) (e : Ending) (w' : World) : Prop :=
  Below w.heap.size w w' ∧ if 0 ≤ n ∧ n ≤ 4000 then ∃ g M sb, e = .returned (.pointer (some ⟨g, 0, none⟩)) ∧ HoldC w' F g M sb [] (newS n.toNat) ∧ ∀ i, Own3 g M sb i → w.heap.size ≤ i else e = .returned (.pointer none)

theorem new_any (w : World) (F : Nat → Prop) (n : Int) : Calls Tryd.prog 24 #[.int .i64 n] w (NewPost F n w) := by
  have hmm := @run_makeMap Tryd.prog
  by_cases h0 : n < 0
  · go_enter Tryd.func24, Tryd.ntmps24
    go_wp2_with fail
    go_ret
    exact ⟨Below.refl _ _, by rw [if_neg (by omega)]; rfl⟩
  by_cases h1 : 4000 < n
  · go_enter Tryd.func24, Tryd.ntmps24
    go_wp2_with fail
    go_ret
    exact ⟨Below.refl _ _, by rw [if_neg (by omega)]; rfl⟩
  obtain ⟨k, rfl⟩ : ∃ k : Nat, n = k := ⟨n.toNat, by omega⟩
  obtain ⟨arr, hs, hz, hmk⟩ := make_spaces k (by omega)
  have HB : Hid (Below w.heap.size w (((w.alloc (.map #[] 0)).alloc (.cells arr 35)).alloc (.cells #[.map (some w.heap.size), .slice (some ⟨w.heap.size + 1, 0, none⟩) k k, .int .i64 0] 63))) :=
    ((Joins.below_alloc1 w _).alloc (by simp) _).alloc (by simp; omega) _
  have HH : Hid (HoldC (((w.alloc (.map #[] 0)).alloc (.cells arr 35)).alloc (.cells #[.map (some w.heap.size), .slice (some ⟨w.heap.size + 1, 0, none⟩) k k, .int .i64 0] 63)) F (w.heap.size + 1 + 1) w.heap.size (w.heap.size + 1) [] (newS k)) := by
    refine ⟨?_, ?_, ?_, rfl, fun x hx => by simp at hx, new_inv k⟩
    · have := World.alloc_heap_new ((w.alloc (.map #[] 0)).alloc (.cells arr 35)) (.cells #[.map (some w.heap.size), .slice (some ⟨w.heap.size + 1, 0, none⟩) k k, .int .i64 0] 63)
      simpa [newS] using this
    · exact ((World.ownsMap_made w Tryd.prog 3 RH).alloc _).alloc _
    · have := (SpRow.made (w := w.alloc (.map #[] 0)) (T := 35) hs hz).below (Joins.below_alloc1 _ (.cells #[.map (some w.heap.size), .slice (some ⟨w.heap.size + 1, 0, none⟩) k k, .int .i64 0] 63))
      simpa [newS] using this
  clear hs hz
  go_enter Tryd.func24, Tryd.ntmps24
  go_wp2_with fail
  go_ret
  refine ⟨HB.out, ?_⟩
  rw [if_pos (by omega), Int.toNat_natCast]
  refine ⟨w.heap.size + 1 + 1, w.heap.size, w.heap.size + 1, rfl, HH.out, ?_⟩
  rintro i (rfl | rfl | rfl) <;> omega
end Go.Proofs.YtkdbenoleendcaaDoor
