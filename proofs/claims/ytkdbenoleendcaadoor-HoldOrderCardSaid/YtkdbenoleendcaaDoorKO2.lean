/- How much room the form grants to an argument's operations. -/
import Derived.SizedLaws
import Derived.Test.YtkdbenoleendcaaDoorKO
namespace Go.Proofs.YtkdbenoleendcaaDoor
open Go.ChangeShapes Go.WideShapes Go.ChangeAt Go.RowKit Go.Deep Go.Joins

theorem ops_room {H : Type} {enc : TypeId × Value → H} {w : World} {base : Nat} {held : Bool} {ra : Option Addr} {n c : Nat} {d : DataW H} {p : List MemPlace} (h : DataW.Trod enc Tryd.prog w base (fun _ => true) held 22 (.slice ra n c) d p)
    {ts : List TypeId} {ds : List (DataW H)} (hw : (DataW.weightsEach Tryd.prog ts ds).all (· ≤ reachBytes) = true) {j : Nat} (ht : ts[j]? = some 22) (hd : ds[j]? = some d) : n * 64 ≤ 140737488351232 := by
  obtain ⟨m, hm⟩ := h
  rcases open_slice Tryd.underlying22 hm with ⟨hcs, _⟩ | ⟨a, len, cap, m, fu, D, P0, hcs, _, hl, hm, hmm, hx, _⟩
  · change [Value.slice ra n c] = _ at hcs
    simp only [List.cons.injEq, Value.slice.injEq, and_true] at hcs
    omega
  · change [Value.slice ra n c] = _ at hcs
    simp only [List.cons.injEq, Value.slice.injEq, and_true] at hcs
    obtain ⟨_, rfl, _⟩ := hcs
    simp only [Prod.mk.injEq] at hx
    rw [hx.1] at hd
    have := sized_slice hw ht hd Tryd.underlying22
    rw [show Tryd.prog.bytesOf 38 = 64 from by kernel_rfl, List.length_map, List.length_range] at this
    unfold reachBytes at this
    have h2 : n * 64 ≤ (n + ((List.range (m - n)).map fun j => D (n + j)).length) * 64 := Nat.mul_le_mul_right _ (by omega)
    omega
end Go.Proofs.YtkdbenoleendcaaDoor
