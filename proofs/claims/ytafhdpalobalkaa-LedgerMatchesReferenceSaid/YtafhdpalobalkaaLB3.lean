/- ledger: the comparison of two postings: the walk. -/
import Derived.StillTailTactics
import Derived.Deep.RegionWith
import Derived.Test.YtafhdpalobalkaaLB2
namespace Go.Proofs.Ytafhdpalobalkaa
open Go.RowKit Go.IntWalk

def cfP (x y : PostT) : Int := orI (cmpI x.1.1 y.1.1) (cmpN x.1.2 y.1.2)

open Go.Sort Go.Proofs in
theorem grow_3 (w : World) (a b c : Obj) : (((w.alloc a).alloc b).alloc c).drew = Go.Sort.grow (w.drewN 1) (#[a] ++ #[b] ++ #[c]) := by
  rw [alloc_eq_grow, alloc_eq_grow, alloc_eq_grow, grow_grow, grow_grow]
  rfl

set_option maxRecDepth 10000 in
theorem closure_any (x y : PostT) (w : World) : Calls Try.prog 38 #[.agg (PostE.cells x).toArray, .agg (PostE.cells y).toArray] w fun e w' => e = .returned (.int .i64 (cfP x y)) ∧ ∃ q os', w' = Go.Sort.grow (w.drewN q) os' := by
  obtain ⟨⟨k1, t1⟩, a1⟩ := x
  obtain ⟨⟨k2, t2⟩, a2⟩ := y
  show Calls _ _ #[.agg #[.int .i64 k1, .string (bs t1), .int .i64 a1], .agg #[.int .i64 k2, .string (bs t2), .int .i64 a2]] _ _
  have HV : Hid (cfP ((k1, t1), a1) ((k2, t2), a2) = orI (cmpI k1 k2) (cmpN t1 t2)) := rfl
  obtain ⟨w1, hw1⟩ : ∃ w1, w1 = (w.alloc (.cells #[.int .i64 k1, .string (bs t1), .int .i64 a1] 44)).alloc (.cells #[.int .i64 k2, .string (bs t2), .int .i64 a2] 44) := ⟨_, rfl⟩
  have b2 := Joins.below_alloc1 (w.alloc (.cells #[.int .i64 k1, .string (bs t1), .int .i64 a1] 44)) (.cells #[.int .i64 k2, .string (bs t2), .int .i64 a2] 44)
  have n2 := World.alloc_heap_new (w.alloc (.cells #[.int .i64 k1, .string (bs t1), .int .i64 a1] 44)) (.cells #[.int .i64 k2, .string (bs t2), .int .i64 a2] 44)
  rw [show (w.alloc (.cells #[.int .i64 k1, .string (bs t1), .int .i64 a1] 44)).heap.size = w.heap.size + 1 from by simp] at n2
  have n1 := (b2.block w.heap.size (by simp)).trans (World.alloc_heap_new w (.cells #[.int .i64 k1, .string (bs t1), .int .i64 a1] 44))
  rw [← hw1] at n1 n2
  have x0 : w1.cell? ⟨w.heap.size, 0, none⟩ = some (.int .i64 k1) := by rw [cell_of_row _ _ _ _ _ _ n1]; rfl
  have x1 : w1.cell? ⟨w.heap.size, 1, none⟩ = some (.string (bs t1)) := by rw [cell_of_row _ _ _ _ _ _ n1]; rfl
  have y0 : w1.cell? ⟨w.heap.size + 1, 0, none⟩ = some (.int .i64 k2) := by rw [cell_of_row _ _ _ _ _ _ n2]; rfl
  have y1 : w1.cell? ⟨w.heap.size + 1, 1, none⟩ = some (.string (bs t2)) := by rw [cell_of_row _ _ _ _ _ _ n2]; rfl
  clear b2 n1 n2
  have HW1 : Hid (∀ o : Obj, ∃ q os', (w1.alloc o).drew = Go.Sort.grow (w.drewN q) os') := fun o => ⟨1, _, by rw [hw1]; exact grow_3 w _ _ o⟩
  go_enter Try.func38, Try.ntmps38
  go_upto_region 1 with fail
  rw [← hw1]
  clear hw1
  go_still_tail 14, (by kernel_rfl)
  still_call ((cmpI_any k1 k2 _).mono fun e w' h => ⟨h.1, h.2.symm⟩)
  repeat still_step
  still_call ((cmpN_any t1 t2 _).mono fun e w' h => ⟨h.1, h.2.symm⟩)
  refine wpStill_nil ?_
  change wpList _ _ _ _ _ w1.drew
  go_wp2_with fail
  change Calls Try.prog 39 _ _ _
  refine (or_any (cmpI k1 k2) (cmpN t1 t2) w1.heap.size 2 _ ?_).mono ?_
  · exact World.alloc_heap_new w1.drew _
  rintro e w2 ⟨rfl, rfl⟩
  go_wp2_with fail
  go_ret
  exact ⟨by rw [HV.out]; rfl, HW1.out _⟩
end Go.Proofs.Ytafhdpalobalkaa
